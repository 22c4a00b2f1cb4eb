/- StoreOwn, from what it is handed. -/
import Derived.Test.YtpmffneohcbhbaaDoorOwns
import Derived.Test.YtpmffneohcbhbaaDoorStoOpen
import Derived.OpenShut
import Derived.ChangeMaps5
namespace Go.Proofs.YtpmffneohcbhbaaDoor.Sto
open Go.RowKit Go.ChangeMaps Go.ChangeAt
open Subj (ML)

set_option maxRecDepth 100000 in
open Go.WideShapes Go.ChangeShapes in
theorem storeOwn_calls {H : Type} (enc : TypeId × Value → H) (W : World) (base : Nat) (v0 v1 : Value) (d0 d1 : DataW H) (p0 p1 : List MemPlace)
    (h0 : DataW.Trod enc Tryd.prog W 0 (fun _ => true) true 52 v0 d0 p0) (h1 : DataW.Trod enc Tryd.prog W 0 (fun _ => true) true 9 v1 d1 p1)
    (o0 : Value.okWide Tryd.prog W .any base 52 v0) (o1 : Value.okWide Tryd.prog W .any base 9 v1)
    (hk : Rows.uptoSmall H ([d0, d1] ++ []) = true) (hM : ML W) :
    Calls Tryd.prog 8 #[v0, v1] W fun e w' => e = .returned (.bool true) ∧ Below W.heap.size W w' := by
  have hb : Rows.uptoBulk d0 ≤ 1048576 := by
    have h1 := bulk_bound hk
    have h2 := bulk_part (d := d0) (l := [d0, d1] ++ []) (by simp)
    omega
  obtain ⟨s, rfl, rfl, rfl, _⟩ := open_string Tryd.underlying9 o1 h1
  obtain ⟨a, n, cap, rfl⟩ := okWide_slice Tryd.underlying52 o0
  obtain ⟨fuel, hf⟩ := h0
  obtain ⟨ao, n', cap', l, hcs, hl, hfits⟩ := open_recs hf hb
  simp [Value.cells] at hcs
  obtain ⟨rfl, rfl, rfl⟩ := hcs
  exact storeOwn_walk hM hl hfits s (text_bound hk (by simp))
end Go.Proofs.YtpmffneohcbhbaaDoor.Sto
