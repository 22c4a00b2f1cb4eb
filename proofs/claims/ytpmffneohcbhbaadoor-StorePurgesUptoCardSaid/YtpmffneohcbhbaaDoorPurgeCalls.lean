/- StorePurges, from what it is handed. -/
import Derived.Test.YtpmffneohcbhbaaDoorPurges
import Derived.Test.YtpmffneohcbhbaaDoorStoOpen
import Derived.OpenShut
import Derived.ChangeMaps5
namespace Go.Proofs.YtpmffneohcbhbaaDoor.Sto
open Go.RowKit Go.ChangeMaps Go.ChangeAt
open Subj (ML)

theorem wf_int {n : Int} (h : (Lit.int .i64 n).wf = true) : -9223372036854775808 ≤ n ∧ n ≤ 9223372036854775807 := by
  simp [Lit.wf] at h
  first | omega | exact h

set_option maxRecDepth 100000 in
open Go.WideShapes Go.ChangeShapes in
theorem storePurges_calls {H : Type} (enc : TypeId × Value → H) (W : World) (base : Nat) (v0 v1 v2 : Value) (d0 d1 d2 : DataW H) (p0 p1 p2 : List MemPlace)
    (h0 : DataW.Trod enc Tryd.prog W 0 (fun _ => true) true 52 v0 d0 p0) (h1 : DataW.Trod enc Tryd.prog W 0 (fun _ => true) true 9 v1 d1 p1) (h2 : DataW.Trod enc Tryd.prog W 0 (fun _ => true) true 3 v2 d2 p2)
    (o0 : Value.okWide Tryd.prog W .any base 52 v0) (o1 : Value.okWide Tryd.prog W .any base 9 v1) (o2 : Value.okWide Tryd.prog W .any base 3 v2)
    (hk : Rows.uptoSmall H ([d0, d1, d2] ++ []) = true) (hM : ML W) :
    Calls Tryd.prog 5 #[v0, v1, v2] W fun e w' => e = .returned (.bool true) ∧ Below W.heap.size W w' := by
  have hb : Rows.uptoBulk d0 ≤ 1048576 := by
    have h1 := bulk_bound hk
    have h2 := bulk_part (d := d0) (l := [d0, d1, d2] ++ []) (by simp)
    omega
  obtain ⟨s, rfl, rfl, rfl, _⟩ := open_string Tryd.underlying9 o1 h1
  obtain ⟨num, rfl, _, _, wf2⟩ := open_int Tryd.underlying3 o2 h2
  obtain ⟨a, n, cap, rfl⟩ := okWide_slice Tryd.underlying52 o0
  obtain ⟨fuel, hf⟩ := h0
  obtain ⟨ao, n', cap', l, hcs, hl, hfits⟩ := open_recs hf hb
  simp [Value.cells] at hcs
  obtain ⟨rfl, rfl, rfl⟩ := hcs
  exact storePurges_walk hM hl hfits s (text_bound hk (by simp)) num (wf_int wf2)
end Go.Proofs.YtpmffneohcbhbaaDoor.Sto
