/- Parts of the proof, joined: What a walk of the tree tells; the tree against a list of entries. No program here.; A store in plain Lean: messages by rising numbers; an index counts their subjects. No program here. -/
import Derived.Test.YtbgchhgdlceceaaGreatDoorPlansOwnUptoM7
namespace Go.Proofs.YtbgchhgdlceceaaGreatDoor.Idx
open Subj (Tok pieces takes)

section
variable {N : Nat} {H : Hp} {r : Nat}

end

/-! ### Texts -/
def joinT : List Tok → Tok
  | [] => []
  | [t] => t
  | t :: u :: ts => t ++ 46 :: joinT (u :: ts)

theorem joinT_cons (t : Tok) {ts : List Tok} (h : ts ≠ []) : joinT (t :: ts) = t ++ 46 :: joinT ts := by
  cases ts with
  | nil => exact absurd rfl h
  | cons u ts => rfl

theorem join_pieces : ∀ s : List UInt8, joinT (pieces s) = s
  | [] => rfl
  | b :: l => by
    have ih := join_pieces l
    unfold pieces
    by_cases h : b = 46
    · rw [if_pos h, joinT_cons _ (Subj.pieces_ne l), ih, h]; rfl
    · rw [if_neg h]
      cases hp : pieces l with
      | nil => exact absurd hp (Subj.pieces_ne l)
      | cons p ps =>
        rw [hp] at ih
        cases ps with
        | nil => show b :: p = b :: l; rw [show p = l from ih]
        | cons q qs =>
          show (b :: p) ++ 46 :: joinT (q :: qs) = b :: l
          rw [← ih]; rfl

theorem pieces_inj {s t : List UInt8} (h : pieces s = pieces t) : s = t := by rw [← join_pieces s, ← join_pieces t, h]

/-! ### The list -/
abbrev Ents := List (Tok × Int)

structure Rel (H : Hp) (r : Nat) (L : Ents) : Prop where
  den : ∀ ts n, Den H r ts n ↔ ∃ s, (s, n) ∈ L ∧ pieces s = ts
  sorted : L.Pairwise fun x y => before (pieces x.1) (pieces y.1) = true

section
variable {H H' : Hp} {r : Nat} {L : Ents} {s : Tok} {n : Int}

theorem Rel.mem (h : Rel H r L) : Den H r (pieces s) n ↔ (s, n) ∈ L := by
  rw [h.den]
  constructor
  · rintro ⟨t, h1, h2⟩; rw [← pieces_inj h2]; exact h1
  · intro h1; exact ⟨s, h1, rfl⟩

end
end Go.Proofs.YtbgchhgdlceceaaGreatDoor.Idx

/-! ### What Get, Drop and Put tell, and leave -/
namespace Go.Proofs.YtbgchhgdlceceaaGreatDoor.Shf
open Subj (Tok pieces)
open Idx
/-- The index's list, in its order. -/
def SortedE (I : Ents) : Prop := I.Pairwise fun x y => before (pieces x.1) (pieces y.1) = true

section
variable {I : Ents} {s : Tok} {v : Int}

end
end Go.Proofs.YtbgchhgdlceceaaGreatDoor.Shf

namespace Go.Proofs.YtbgchhgdlceceaaGreatDoor.Sto
open Subj (Tok pieces takes)
open Rec (Rc recErr far)
open Idx (Ents before)
open Shf (SortedE)

def sizeR (r : Rc) : Nat := r.subj.length + r.head.length + r.data.length
def bytesR (L : List Rc) : Nat := (L.map sizeR).sum
def cntR (L : List Rc) (s : Tok) : Nat := L.countP fun r => r.subj == s

/-- It counts. -/
def Counts (I : Ents) (L : List Rc) : Prop := ∀ s n, (s, n) ∈ I ↔ n = (cntR L s : Int) ∧ cntR L s ≠ 0

section
variable {I I' : Ents} {L : List Rc} {s : Tok} {v : Int}

end

/-- What a store holds. -/
structure Right (L : List Rc) (last : Int) (I : Ents) : Prop where
  rise : L.Pairwise fun a b => a.seq < b.seq
  top : ∀ r ∈ L, r.seq ≤ last
  good : ∀ r ∈ L, recErr r = 0 ∧ r.kind = 1
  few : L.length ≤ 200
  range : 0 ≤ last ∧ last ≤ far
  sorted : SortedE I
  count : Counts I L

def hasSeq (L : List Rc) (q : Int) : Bool := L.any fun r => r.seq == q

/-- What is left of the messages. -/
def leftS (L : List Rc) (r : Rc) : List Rc :=
  if r.kind = 1 then L ++ [r]
  else if r.kind = 2 then L.filter fun x => x.seq != r.seq
  else if r.kind = 3 then L.filter fun x => !(decide (x.seq < r.seq) && takes (pieces r.subj) (pieces x.subj))
  else L

def lastS (last : Int) (r : Rc) : Int := if r.kind = 1 then r.seq else if r.kind = 4 then max last r.seq else last

end Go.Proofs.YtbgchhgdlceceaaGreatDoor.Sto
