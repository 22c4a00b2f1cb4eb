/- Parts of the proof, joined: ConsumerRules, from what it is handed. -/
import Derived.Test.YtapmhpnkpjgefaaDoorConsumerRulesUptoM34
import Derived.Test.YtapmhpnkpjgefaaDoorConsumerRulesUptoM39
import Derived.OpenShut
import Derived.ChangeMaps5
namespace Go.Proofs.YtapmhpnkpjgefaaDoor.Con
open Go.RowKit Go.ChangeMaps Go.ChangeAt
open Subj (ML)

set_option maxRecDepth 100000 in
open Go.WideShapes Go.ChangeShapes in
theorem consumerRules_calls {H : Type} (enc : TypeId × Value → H) (W : World) (base : Nat) (v0 v1 v2 : Value) (d0 d1 d2 : DataW H) (p0 p1 p2 : List MemPlace)
    (h0 : DataW.Trod enc Tryd.prog W 0 (fun _ => true) true 24 v0 d0 p0) (h1 : DataW.Trod enc Tryd.prog W 0 (fun _ => true) true 25 v1 d1 p1) (h2 : DataW.Trod enc Tryd.prog W 0 (fun _ => true) true 26 v2 d2 p2)
    (o0 : Value.okWide Tryd.prog W .any base 24 v0) (o1 : Value.okWide Tryd.prog W .any base 25 v1) (o2 : Value.okWide Tryd.prog W .any base 26 v2)
    (hk : Rows.uptoSmall H ([d0, d1, d2] ++ []) = true) (hM : ML W) :
    Calls Tryd.prog 3 #[v0, v1, v2] W fun e w' => e = .returned (.bool true) ∧ Below W.heap.size W w' := by
  have hb0 : Rows.uptoBulk d0 ≤ 1048576 := by
    have h1 := bulk_bound hk
    have h2 := bulk_part (d := d0) (l := [d0, d1, d2] ++ []) (by simp)
    omega
  have hb1 : Rows.uptoBulk d1 ≤ 1048576 := by
    have h1 := bulk_bound hk
    have h2 := bulk_part (d := d1) (l := [d0, d1, d2] ++ []) (by simp)
    omega
  have hb2 : Rows.uptoBulk d2 ≤ 1048576 := by
    have h1 := bulk_bound hk
    have h2 := bulk_part (d := d2) (l := [d0, d1, d2] ++ []) (by simp)
    omega
  obtain ⟨t, vb, rfl, hnm, hfl, hB⟩ := open_takerP h0 o0 hb0
  have hvo := taker_own o0
  obtain ⟨a, n, cap, rfl⟩ := okWide_slice Tryd.underlying25 o1
  obtain ⟨fuel, hf⟩ := h1
  obtain ⟨ao, n', cap', l, hcs, hl, hfits⟩ := Sto.open_recs hf hb1
  simp [Value.cells] at hcs
  obtain ⟨rfl, rfl, rfl⟩ := hcs
  obtain ⟨a2, n2, cap2, rfl⟩ := okWide_slice Tryd.underlying26 o2
  obtain ⟨fuel2, hf2⟩ := h2
  obtain ⟨ao2, n2', cap2', l2, hcs2, hl2, hfits2⟩ := open_turns hf2 hb2
  simp [Value.cells] at hcs2
  obtain ⟨rfl, rfl, rfl⟩ := hcs2
  exact consumerRules_walk hM t hB hvo hnm hfl hl hfits hl2 hfits2
end Go.Proofs.YtapmhpnkpjgefaaDoor.Con
