/- IndexPlays, from what it is handed. -/
import Derived.Test.YtpmffneohcbhbaaDoorPlays
import Derived.Test.YtpmffneohcbhbaaDoorPlayOpen
import Derived.OpenShut
namespace Go.Proofs.YtpmffneohcbhbaaDoor.Shf
open Go.RowKit
open Subj (ML)

set_option maxRecDepth 100000 in
open Go.WideShapes Go.ChangeShapes in
theorem indexPlays_calls {H : Type} (enc : TypeId × Value → H) (W : World) (base : Nat) (v0 : Value) (d0 : DataW H) (p0 : List MemPlace)
    (h0 : DataW.Trod enc Tryd.prog W 0 (fun _ => true) true 22 v0 d0 p0) (o0 : Value.okWide Tryd.prog W .any base 22 v0)
    (hk : Rows.uptoSmall H ([d0] ++ []) = true) (hM : ML W) :
    Calls Tryd.prog 3 #[v0] W fun e w' => e = .returned (.bool true) ∧ Below W.heap.size W w' := by
  have hb : Rows.uptoBulk d0 ≤ 1048576 := by
    have h1 := bulk_bound hk
    have h2 := bulk_part (d := d0) (l := [d0] ++ []) (by simp)
    omega
  obtain ⟨a, n, cap, rfl⟩ := okWide_slice Tryd.underlying22 o0
  obtain ⟨fuel, hf⟩ := h0
  obtain ⟨ao, n', cap', f, hcs, hS, hn⟩ := open_puts hf hb
  simp [Value.cells] at hcs
  obtain ⟨rfl, rfl, rfl⟩ := hcs
  exact indexPlays_walk hM a n cap f hn hS
end Go.Proofs.YtpmffneohcbhbaaDoor.Shf
