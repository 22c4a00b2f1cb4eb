/- Parts of the proof, joined: rillref.values and rillref.Plan, walked. -/
import Derived.Test.YthhgfdeegnimjaaGreatDoorConsumerPlaysUptoM21
import Derived.Deep.RegionHeld3
import Derived.Deep.RegionWith
import Derived.StillTailTactics
import Derived.Deep.DeepCutAuto
import Derived.Deep.QuietTactic
import Derived.BigQuiet
namespace Go.Proofs.YthhgfdeegnimjaaGreatDoor.Subj
open Go.RowKit

/-- Numbers that lie somewhere. -/
def NumsAt (g : Nat) (vs : List Int) (w : World) : Prop := ∀ k, k < 8 → w.cell? ⟨g, k, none⟩ = some (.int .i64 (vs.getD k 0))

theorem NumsAt.below {g : Nat} {vs : List Int} {w w' : World} (h : NumsAt g vs w) (hb : Below w.heap.size w w') : NumsAt g vs w' := fun k hk =>
  (hb.cell (World.block_lt_of_cell? w _ (h k hk))).trans (h k hk)

/-! ### The check -/
theorem in_flip (n lo hi : Int) (w : World) : Calls Tryz.prog 28 #[.int .i64 n, .int .i64 lo, .int .i64 hi] w fun e w' => e = .returned (.bool (decide (lo ≤ n) && decide (n ≤ hi))) ∧ w' = w :=
  (in_any n lo hi w).mono fun _ _ ⟨a, b⟩ => ⟨a, b.symm⟩

theorem ten_alloc (w : World) (t : TypeId) (a0 a1 a2 a3 a4 a5 a6 a7 a8 a9 : Value) : (w.alloc (.cells #[a0, a1, a2, a3, a4, a5, a6, a7, a8, a9] t)).heap[w.heap.size]? = some (.cells #[a0, a1, a2, a3, a4, a5, a6, a7, a8, a9] t (0, 0)) := heap_alloc_new w _

theorem Inv.blk {w0 w : World} (h : Inv w0 w) {B : Nat} {o : Obj} (hz : w0.heap[B]? = some o) : w.heap[B]? = some o :=
  (h.2.block _ (Array.getElem?_eq_some_iff.1 hz).1).trans hz

end Go.Proofs.YthhgfdeegnimjaaGreatDoor.Subj
