/- Parts of the proof, joined: LogFront, from what it is handed. -/
import Derived.Test.YthhingihjpkipaaDoorLogFrontUptoM16
import Derived.ChangeMaps5
namespace Go.Proofs.YthhingihjpkipaaDoor.Log
open Go.RowKit Go.ChangeMaps Go.ChangeAt
open Subj (ML)

set_option maxRecDepth 100000 in
open Go.WideShapes Go.ChangeShapes in
theorem logFront_calls {H : Type} (enc : TypeId × Value → H) (W : World) (base : Nat) (v0 v1 v2 v3 : Value) (d0 d1 d2 d3 : DataW H) (p0 p1 p2 p3 : List MemPlace)
    (h0 : DataW.Trod enc Tryd.prog W 0 (fun _ => true) true 3 v0 d0 p0) (h1 : DataW.Trod enc Tryd.prog W 0 (fun _ => true) true 22 v1 d1 p1) (h2 : DataW.Trod enc Tryd.prog W 0 (fun _ => true) true 3 v2 d2 p2) (h3 : DataW.Trod enc Tryd.prog W 0 (fun _ => true) true 3 v3 d3 p3)
    (o0 : Value.okWide Tryd.prog W .any base 3 v0) (o1 : Value.okWide Tryd.prog W .any base 22 v1) (o2 : Value.okWide Tryd.prog W .any base 3 v2) (o3 : Value.okWide Tryd.prog W .any base 3 v3)
    (hk : Rows.uptoSmall H ([d0, d1, d2, d3] ++ []) = true) (hM : ML W) :
    Calls Tryd.prog 6 #[v0, v1, v2, v3] W fun e w' => e = .returned (.bool true) ∧ Below W.heap.size W w' := by
  have hb1 : Rows.uptoBulk d1 ≤ 1048576 := by
    have h1 := bulk_bound hk
    have h2 := bulk_part (d := d1) (l := [d0, d1, d2, d3] ++ []) (by simp)
    omega
  obtain ⟨size, rfl, _, _, _⟩ := open_int Tryd.underlying3 o0 h0
  obtain ⟨sync, rfl, _, _, _⟩ := open_int Tryd.underlying3 o2 h2
  obtain ⟨keep, rfl, _, _, _⟩ := open_int Tryd.underlying3 o3 h3
  obtain ⟨a, n, cap, rfl⟩ := okWide_slice Tryd.underlying22 o1
  obtain ⟨fuel, hf⟩ := h1
  obtain ⟨ao, n', cap', l, hcs, hl, hfits⟩ := Sto.open_recs hf hb1
  simp [Value.cells] at hcs
  obtain ⟨rfl, rfl, rfl⟩ := hcs
  exact logFront_walk hM size hl hfits sync keep
end Go.Proofs.YthhingihjpkipaaDoor.Log
