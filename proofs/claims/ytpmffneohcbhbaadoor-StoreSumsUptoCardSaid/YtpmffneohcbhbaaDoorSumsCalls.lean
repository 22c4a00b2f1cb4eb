/- StoreSums, from what it is handed. -/
import Derived.Test.YtpmffneohcbhbaaDoorSums
import Derived.Test.YtpmffneohcbhbaaDoorStoOpen
import Derived.OpenShut
import Derived.ChangeMaps5
namespace Go.Proofs.YtpmffneohcbhbaaDoor.Sto
open Go.RowKit Go.ChangeMaps Go.ChangeAt
open Subj (ML)

set_option maxRecDepth 100000 in
open Go.WideShapes Go.ChangeShapes in
theorem storeSums_calls {H : Type} (enc : TypeId × Value → H) (W : World) (base : Nat) (v0 : Value) (d0 : DataW H) (p0 : List MemPlace)
    (h0 : DataW.Trod enc Tryd.prog W 0 (fun _ => true) true 52 v0 d0 p0)
    (o0 : Value.okWide Tryd.prog W .any base 52 v0)
    (hk : Rows.uptoSmall H ([d0] ++ []) = true) (hM : ML W) :
    Calls Tryd.prog 6 #[v0] W fun e w' => e = .returned (.bool true) ∧ Below W.heap.size W w' := by
  have hb : Rows.uptoBulk d0 ≤ 1048576 := by
    have h1 := bulk_bound hk
    have h2 := bulk_part (d := d0) (l := [d0] ++ []) (by simp)
    omega
  obtain ⟨a, n, cap, rfl⟩ := okWide_slice Tryd.underlying52 o0
  obtain ⟨fuel, hf⟩ := h0
  obtain ⟨ao, n', cap', l, hcs, hl, hfits⟩ := open_recs hf hb
  simp [Value.cells] at hcs
  obtain ⟨rfl, rfl, rfl⟩ := hcs
  exact storeSums_walk hM hl hfits
end Go.Proofs.YtpmffneohcbhbaaDoor.Sto
