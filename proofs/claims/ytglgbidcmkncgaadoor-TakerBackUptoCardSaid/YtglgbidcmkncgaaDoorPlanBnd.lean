/- The bounds of a plan's numbers, walked. -/
import Derived.Test.YtglgbidcmkncgaaDoorPlanNum
import Derived.Test.YtglgbidcmkncgaaDoorRefTakes
import Derived.Test.YtglgbidcmkncgaaDoorRefSubj
namespace Go.Proofs.YtglgbidcmkncgaaDoor.Subj
open Go.RowKit

def wordAt (k : Nat) : ByteArray := ⟨(words.getD k []).toArray⟩
def mostAt (k : Nat) : Int := mosts.getD k 0

def bndCells (P : Nat) : Array Value := #[
  .string (wordAt 0), .pointer (some ⟨P, 2, none⟩), .int .i64 (mostAt 0), .string (wordAt 1), .pointer (some ⟨P, 3, none⟩), .int .i64 (mostAt 1),
  .string (wordAt 2), .pointer (some ⟨P, 4, none⟩), .int .i64 (mostAt 2), .string (wordAt 3), .pointer (some ⟨P, 5, none⟩), .int .i64 (mostAt 3),
  .string (wordAt 4), .pointer (some ⟨P, 6, none⟩), .int .i64 (mostAt 4), .string (wordAt 5), .pointer (some ⟨P, 7, none⟩), .int .i64 (mostAt 5),
  .string (wordAt 6), .pointer (some ⟨P, 8, none⟩), .int .i64 (mostAt 6), .string (wordAt 7), .pointer (some ⟨P, 9, none⟩), .int .i64 (mostAt 7)]

/-- Block G holds the bounds of the plan in block P. -/
def BndAt (P G : Nat) (w : World) : Prop := ∀ k, k < 8 → w.cell? ⟨G, k * 3, none⟩ = some (.string (wordAt k)) ∧ w.cell? ⟨G, k * 3 + 1, none⟩ = some (.pointer (some ⟨P, 2 + k, none⟩)) ∧ w.cell? ⟨G, k * 3 + 2, none⟩ = some (.int .i64 (mostAt k))

theorem bndAt_made (P : Nat) (w : World) (t : TypeId) : BndAt P w.heap.size (w.alloc (.cells (bndCells P) t)) := by
  have h : ∀ j, (w.alloc (.cells (bndCells P) t)).cell? ⟨w.heap.size, j, none⟩ = (bndCells P)[j]? := fun j => World.cell?_alloc_at _ _ _ _ rfl
  intro k hk
  rw [h, h, h]
  rcases k with _ | _ | _ | _ | _ | _ | _ | _ | k
  all_goals first | exact ⟨rfl, rfl, rfl⟩ | omega

def BndPost (P : Nat) (w : World) (e : Ending) (w' : World) : Prop :=
  e = .returned (.slice (some ⟨w.heap.size, 0, none⟩) 8 8) ∧ BndAt P w.heap.size w' ∧ Below w.heap.size w w'

set_option maxHeartbeats 4000000 in
set_option maxRecDepth 100000 in
theorem bounds_any (P : Nat) (w : World) : Calls Tryd.prog 56 #[.pointer (some ⟨P, 0, none⟩)] w (BndPost P w) := by
  go_enter Tryd.func56, Tryd.ntmps56
  go_wp2
  go_region
  go_wp2
  go_ret
  exact ⟨rfl, bndAt_made P w _, ((Below.refl _ _).alloc (Nat.le_refl _) _).drew⟩

/-- The numbers of the plan in block P. -/
def ValsAt (P : Nat) (vs : List Int) (w : World) : Prop := ∀ k, k < 8 → w.cell? ⟨P, 2 + k, none⟩ = some (.int .i64 (vs.getD k 0))

theorem BndAt.below {P G : Nat} {w w' : World} (h : BndAt P G w) (hb : Below w.heap.size w w') : BndAt P G w' := fun k hk => by
  obtain ⟨h1, h2, h3⟩ := h k hk
  exact ⟨(hb.cell (World.block_lt_of_cell? w _ h1)).trans h1, (hb.cell (World.block_lt_of_cell? w _ h2)).trans h2, (hb.cell (World.block_lt_of_cell? w _ h3)).trans h3⟩

theorem ValsAt.below {P : Nat} {vs : List Int} {w w' : World} (h : ValsAt P vs w) (hb : Below w.heap.size w w') : ValsAt P vs w' := fun k hk =>
  (hb.cell (World.block_lt_of_cell? w _ (h k hk))).trans (h k hk)

def OutPost (b : Bool) (w : World) (e : Ending) (w' : World) : Prop := e = .returned (.bool b) ∧ Below w.heap.size w w'

set_option maxHeartbeats 4000000 in
set_option maxRecDepth 100000 in
theorem out_any (word : ByteArray) (P j : Nat) (m x : Int) (w : World) (h : w.cell? ⟨P, j, none⟩ = some (.int .i64 x)) :
    Calls Tryd.prog 97 #[.agg #[.string word, .pointer (some ⟨P, j, none⟩), .int .i64 m]] w (OutPost (decide (x < 0) || decide (m < x)) w) := by
  have hP := World.block_lt_of_cell? w _ h
  have hne : P ≠ w.heap.size := by show P ≠ w.heap.size; have : P < w.heap.size := hP; omega
  by_cases h1 : x < 0
  · have d1 : decide (x < 0) = true := by simp [h1]
    rw [d1, Bool.true_or]
    clear d1
    go_enter Tryd.func97, Tryd.ntmps97
    go_wp2
    go_region
    all_goals
      go_wp2
      go_ret
      exact ⟨rfl, ((Below.refl _ _).alloc (Nat.le_refl _) _).drew⟩
  · have d1 : decide (x < 0) = false := by simp [h1]
    rw [d1, Bool.false_or]
    go_enter Tryd.func97, Tryd.ntmps97
    go_wp2
    go_region
    all_goals
      go_wp2
      go_ret
      exact ⟨rfl, ((Below.refl _ _).alloc (Nat.le_refl _) _).drew⟩

end Go.Proofs.YtglgbidcmkncgaaDoor.Subj
