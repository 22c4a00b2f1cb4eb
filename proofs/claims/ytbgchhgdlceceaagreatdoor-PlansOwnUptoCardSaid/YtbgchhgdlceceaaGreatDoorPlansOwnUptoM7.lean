/- Parts of the proof, joined: A tree of nodes by numbers, each with its path: found, put, dropped, walked. No program here. -/
import Derived.Test.YtbgchhgdlceceaaGreatDoorPlansOwnUptoM6
import Derived.Lib.Bytealg
namespace Go.Proofs.YtbgchhgdlceceaaGreatDoor.Idx
open Subj (Tok)

abbrev cb := Lib.compareBytes

theorem cb_cases : ∀ a b : Tok, (cb a b = 0 ∧ a = b) ∨ (cb a b = -1 ∧ cb b a = 1) ∨ (cb a b = 1 ∧ cb b a = -1)
  | [], [] => .inl ⟨rfl, rfl⟩
  | [], _ :: _ => .inr (.inl ⟨rfl, rfl⟩)
  | _ :: _, [] => .inr (.inr ⟨rfl, rfl⟩)
  | x :: a, y :: b => by
    have ih := cb_cases a b
    show (Lib.compareBytes (x :: a) (y :: b) = 0 ∧ _) ∨ (Lib.compareBytes (x :: a) (y :: b) = -1 ∧ Lib.compareBytes (y :: b) (x :: a) = 1) ∨ (Lib.compareBytes (x :: a) (y :: b) = 1 ∧ Lib.compareBytes (y :: b) (x :: a) = -1)
    unfold Lib.compareBytes
    by_cases h : x < y
    · have h2 : ¬ y < x := fun h3 => UInt8.lt_irrefl x (UInt8.lt_trans h h3)
      simp [h, h2]
    · by_cases h2 : y < x
      · simp [h, h2]
      · have e : x = y := UInt8.le_antisymm (UInt8.not_lt.1 h2) (UInt8.not_lt.1 h)
        subst e
        simp only [if_neg h]
        rcases ih with ⟨e1, e2⟩ | ih | ih
        · exact .inl ⟨e1, by rw [e2]⟩
        · exact .inr (.inl ih)
        · exact .inr (.inr ih)

/-- Rows of tokens. -/
def before : List Tok → List Tok → Bool
  | _, [] => false
  | [], _ :: _ => true
  | a :: x, b :: y => if a = b then before x y else decide (cb a b < 0)

/-! ### The nodes -/
structure NodeP where
  tok : Tok
  kids : List Nat
  has : Bool
  n : Int
  path : List Tok

abbrev Hp := Nat → Option NodeP

def tokH (H : Hp) (k : Nat) : Tok := match H k with | some nd => nd.tok | none => []

def Step (H : Hp) (b : Nat) (t : Tok) (k : Nat) : Prop := ∃ nd, H b = some nd ∧ k ∈ nd.kids ∧ tokH H k = t

inductive Go (H : Hp) : Nat → List Tok → Nat → Prop
  | nil (b : Nat) : Go H b [] b
  | cons {b k c : Nat} {t : Tok} {ts : List Tok} : Step H b t k → Go H k ts c → Go H b (t :: ts) c

def Den (H : Hp) (b : Nat) (ts : List Tok) (n : Int) : Prop := ∃ c nd, Go H b ts c ∧ H c = some nd ∧ nd.has = true ∧ nd.n = n

structure Good (N : Nat) (H : Hp) (r : Nat) : Prop where
  root : ∃ nd, H r = some nd ∧ nd.path = []
  short : ∀ b nd, H b = some nd → nd.path.length ≤ 8
  toks : ∀ b nd, H b = some nd → ∀ t ∈ nd.path, t ≠ [] ∧ t.length ≤ 16
  kid : ∀ b nd k, H b = some nd → k ∈ nd.kids → ∃ kd, H k = some kd ∧ kd.path = nd.path ++ [kd.tok]
  sorted : ∀ b nd, H b = some nd → nd.kids.Pairwise fun k k' => cb (tokH H k) (tokH H k') < 0
  few : ∀ b nd, H b = some nd → nd.kids.length ≤ N

namespace Good
variable {N : Nat} {H : Hp} {r : Nat}

theorem mono {M : Nat} (h : Good N H r) (hM : N ≤ M) : Good M H r := { h with few := fun b nd e => Nat.le_trans (h.few b nd e) hM }

end Good

def upd (H : Hp) (c : Nat) (nd : NodeP) : Hp := fun x => if x = c then some nd else H x

/-! ### What a node has is set -/
section
variable {N : Nat} {H : Hp} {r c : Nat} {nd : NodeP}

end

/-! ### A new node -/
section
variable {N : Nat} {H : Hp} {r c k i : Nat} {nd : NodeP} {t : Tok}

end

/-! ### A kid that is of no use is struck -/
section
variable {N : Nat} {H : Hp} {r c k i : Nat} {nd kd : NodeP}

end
end Go.Proofs.YtbgchhgdlceceaaGreatDoor.Idx
