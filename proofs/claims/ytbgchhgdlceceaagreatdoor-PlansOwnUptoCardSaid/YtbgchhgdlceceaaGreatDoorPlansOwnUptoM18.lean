/- Parts of the proof, joined: The reference's chest in memory; its Try, walked.; (*Store).Apply, walked. -/
import Derived.Test.YtbgchhgdlceceaaGreatDoorPlansOwnUptoM17
namespace Go.Proofs.YtbgchhgdlceceaaGreatDoor.Sto
open Go.RowKit Heap
open Subj (Tok ML pieces takes)
open Rec (Rc recErr far recA rcOf)
open Idx (Ents ptrV)
open Go.Maps Go.WideMaps

/-- The chest at C, in memory: a list of messages and the last number. -/
structure ChAt (W : World) (C : Nat) (v : Value) (L : List Rc) (last : Int) (w : World) : Prop where
  cell : w.heap[C]? = some (.cells #[v, .int .i64 last] 31 (0, 0))
  row : Row w 33 6 v L.length (recsV L)
  old : W.heap.size ≤ C
  mine : ∀ k, own v k → W.heap.size ≤ k ∧ k ≠ C
  below : Below W.heap.size W w

section
variable {W w w1 : World} {C : Nat} {v : Value} {L : List Rc} {last : Int} {I : Ents}

theorem ChAt.next (h : ChAt W C v L last w) (hb : Below w.heap.size w w1) : ChAt W C v L last w1 :=
  ⟨(hb.block C (heap_lt h.cell)).trans h.cell, h.row.kept fun k _ hk => hb.block k hk, h.old, h.mine, h.below.trans (hb.mono h.below.size)⟩

theorem twoC {C : Nat} {w : World} {t : TypeId} {a0 a1 : Value} (h : w.heap[C]? = some (.cells #[a0, a1] t (0, 0))) :
    w.cell? ⟨C, 0, none⟩ = some a0 ∧ w.cell? ⟨C, 1, none⟩ = some a1 ∧ ∀ j, w.frozen? ⟨C, j, none⟩ = false := by
  refine ⟨?_, ?_, fun j => frozen_of_row w C j _ _ h⟩
  · rw [cell_of_row w C 0 _ _ _ h]; rfl
  · rw [cell_of_row w C 1 _ _ _ h]; rfl

theorem take_snoc {k : Nat} {p : Rc} (h : L[k]? = some p) : L.take (k + 1) = L.take k ++ [p] := by
  rw [List.take_add_one, h]; rfl

end
end Go.Proofs.YtbgchhgdlceceaaGreatDoor.Sto

namespace Go.Proofs.YtbgchhgdlceceaaGreatDoor.Sto
open Go.RowKit Heap
open Subj (Tok ML pieces takes StrsAt)
open Rec (Rc recErr far)
open Idx (Ents ptrV)
open Shf (XAt NextX SortedE)

theorem try_zero {L : List Rc} {last : Int} {r : Rc} (h : tryD L last r = 0) : recErr r = 0 ∧ (r.kind = 1 → last < r.seq ∧ L.length ≠ 200 ∧ (cntR L r.subj ≠ 0 ∨ dist L ≠ 100)) ∧ (r.kind = 2 → hasSeq L r.seq = true) := by
  have he : recErr r = 0 := by
    unfold tryD at h
    split at h
    · exact h
    · rename_i h1; simpa using h1
  unfold tryD at h
  rw [if_neg (by rw [he]; simp)] at h
  refine ⟨he, fun hk => ?_, fun hk => ?_⟩
  · rw [if_pos hk] at h
    split at h
    · omega
    · split at h
      · omega
      · rename_i h1 h2
        refine ⟨by omega, fun e => h2 (.inl e), ?_⟩
        by_cases hc : cntR L r.subj = 0
        · exact .inr fun e => h2 (.inr ⟨hc, e⟩)
        · exact .inl hc
  · rw [if_neg (by omega), if_pos hk] at h
    split at h
    · assumption
    · omega

section
variable {W w : World} {F : Nat → Prop} {D B : Nat} {L : List Rc} {last : Int}

end
end Go.Proofs.YtbgchhgdlceceaaGreatDoor.Sto
