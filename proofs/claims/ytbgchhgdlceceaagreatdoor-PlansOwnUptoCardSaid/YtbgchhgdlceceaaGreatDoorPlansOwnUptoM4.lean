/- Parts of the proof, joined: rillref.overlap, walked by its own recursion; Overlap.; Texts cut at whatever byte: strings.Split at one byte and rillref.Pieces answer the same pieces.; The laws of filters, of the Lean functions. No program here.; Plans in plain Lean: what is right, how a text of a plan is read. No program here.; Consumers' plans in plain Lean: what is wrong with one. -/
import Derived.Test.YtbgchhgdlceceaaGreatDoorPlansOwnUptoM3
namespace Go.Proofs.YtbgchhgdlceceaaGreatDoor.Subj
open Go.RowKit

end Go.Proofs.YtbgchhgdlceceaaGreatDoor.Subj

namespace Go.Proofs.YtbgchhgdlceceaaGreatDoor.Subj
open Go.RowKit

/-- A text's pieces between bytes c. -/
def piecesC (c : UInt8) : List UInt8 → List Tok
  | [] => [[]]
  | b :: l => if b = c then [] :: piecesC c l else
    match piecesC c l with
    | p :: ps => (b :: p) :: ps
    | [] => [[b]]

section
variable (c : UInt8)

end
end Go.Proofs.YtbgchhgdlceceaaGreatDoor.Subj

namespace Go.Proofs.YtbgchhgdlceceaaGreatDoor.Subj

/-- The text of pieces. -/
def joined : List Tok → List UInt8
  | [] => []
  | [t] => t
  | t :: u :: ts => t ++ 46 :: joined (u :: ts)

theorem joined_pieces : ∀ l : List UInt8, joined (pieces l) = l
  | [] => rfl
  | b :: l => by
    have ih := joined_pieces l
    unfold pieces
    split
    · rename_i h
      cases hp : pieces l with
      | nil => exact absurd hp (pieces_ne l)
      | cons p ps =>
        rw [hp] at ih
        simp [joined, ih, h]
    · split
      · rename_i p ps hp
        rw [hp] at ih
        cases ps with
        | nil => simp [joined] at ih ⊢; exact ih
        | cons q ps => simp [joined] at ih ⊢; exact ih
      · rename_i hp
        exact absurd hp (pieces_ne l)

theorem pieces_inj {a b : List UInt8} (h : pieces a = pieces b) : a = b := by
  rw [← joined_pieces a, ← joined_pieces b, h]

end Go.Proofs.YtbgchhgdlceceaaGreatDoor.Subj

namespace Go.Proofs.YtbgchhgdlceceaaGreatDoor.Subj

/-- A byte of a name. -/
def nameByte (b : UInt8) : Bool := (decide (97 ≤ b.toNat) && decide (b.toNat ≤ 122)) || (decide (48 ≤ b.toNat) && decide (b.toNat ≤ 57)) || b.toNat == 45
def nameOk (t : List UInt8) : Bool := t.all nameByte && (decide (1 ≤ t.length) && decide (t.length ≤ 16))

/-- The first error of filters, 0: none. -/
def firstErr : List Tok → Nat
  | [] => 0
  | f :: r => if err true f = 0 then firstErr r else err true f

/-- Do two overlap? -/
def over (f g : Tok) : Bool := overlap (pieces f) (pieces g)
def clash (fs : List Tok) : Bool := (List.range fs.length).any fun b => (List.range b).any fun a => over (fs.getD b []) (fs.getD a [])

theorem clash_true {fs : List Tok} {a b : Nat} (hab : a < b) (hb : b < fs.length) (h : over (fs.getD b []) (fs.getD a []) = true) : clash fs = true := by
  unfold clash
  rw [List.any_eq_true]
  refine ⟨b, by simpa using hb, ?_⟩
  rw [List.any_eq_true]
  exact ⟨a, by simpa using hab, h⟩

theorem clash_false {fs : List Tok} (h : ∀ b a, b < fs.length → a < b → over (fs.getD b []) (fs.getD a []) = false) : clash fs = false := by
  cases hc : clash fs with
  | false => rfl
  | true =>
    unfold clash at hc
    rw [List.any_eq_true] at hc
    obtain ⟨b, hb, h2⟩ := hc
    rw [List.any_eq_true] at h2
    obtain ⟨a, ha, h3⟩ := h2
    rw [h b a (by simpa using hb) (by simpa using ha)] at h3
    cases h3

def filtersErr (fs : List Tok) : Nat :=
  if 4 < fs.length then 2 else if fs.length = 0 then 1 else if firstErr fs ≠ 0 then firstErr fs else if clash fs then 10 else 0

theorem firstErr_zero {fs : List Tok} : firstErr fs = 0 ↔ ∀ i, i < fs.length → err true (fs.getD i []) = 0 := by
  induction fs with
  | nil => simp [firstErr]
  | cons f r ih =>
    unfold firstErr
    constructor
    · intro h i hi
      by_cases h0 : err true f = 0
      · rw [if_pos h0] at h
        cases i with
        | zero => exact h0
        | succ i => simpa using ih.1 h i (by simpa using hi)
      · rw [if_neg h0] at h
        exact absurd h h0
    · intro h
      have h0 : err true f = 0 := h 0 (by simp)
      rw [if_pos h0]
      exact ih.2 fun i hi => by simpa using h (i + 1) (by simpa using hi)

theorem firstErr_at {fs : List Tok} {k : Nat} (hk : k < fs.length) (h : ∀ i, i < k → err true (fs.getD i []) = 0) (he : err true (fs.getD k []) ≠ 0) : firstErr fs = err true (fs.getD k []) := by
  induction fs generalizing k with
  | nil => simp at hk
  | cons f r ih =>
    unfold firstErr
    cases k with
    | zero => rw [if_neg (by simpa using he)]; rfl
    | succ k =>
      rw [if_pos (by simpa using h 0 (by omega))]
      simpa using ih (by simpa using hk) (fun i hi => by simpa using h (i + 1) (by omega)) (by simpa using he)

/-- The words of a plan's numbers, and the most that each may be. -/
def words : List (List UInt8) := [[109, 115, 103, 115], [98, 121, 116, 101, 115], [97, 103, 101], [112, 101, 114], [115, 105, 122, 101], [100, 105, 115, 99, 97, 114, 100], [107, 101, 101, 112], [119, 105, 110, 100, 111, 119]]
def mosts : List Int := [200, 65536, 100000, 200, 256, 1, 2, 100000]

def inAll (vs : List Int) : Bool := (List.range 8).all fun k => decide (0 ≤ vs.getD k 0) && decide (vs.getD k 0 ≤ mosts.getD k 0)

theorem inAll_true {vs : List Int} (h : ∀ k, k < 8 → 0 ≤ vs.getD k 0 ∧ vs.getD k 0 ≤ mosts.getD k 0) : inAll vs = true := by
  unfold inAll
  rw [List.all_eq_true]
  intro k hk
  have := h k (by simpa using hk)
  rw [Bool.and_eq_true, decide_eq_true_eq, decide_eq_true_eq]
  exact this

theorem inAll_false {vs : List Int} {k : Nat} (hk : k < 8) (h : vs.getD k 0 < 0 ∨ mosts.getD k 0 < vs.getD k 0) : inAll vs = false := by
  unfold inAll
  rw [List.all_eq_false]
  refine ⟨k, by simpa using hk, ?_⟩
  rw [Bool.and_eq_true, decide_eq_true_eq, decide_eq_true_eq]
  omega

/-- What is wrong with a plan. -/
def planErr (name : List UInt8) (fs : List Tok) (vs : List Int) : Nat :=
  if nameOk name then if filtersErr fs = 0 then if inAll vs then 0 else 1 else filtersErr fs else 3

/-- A number's digits, read from the left. -/
def isDigit (b : UInt8) : Bool := decide (48 ≤ b.toNat) && decide (b.toNat ≤ 57)
def digitsVal (l : List UInt8) : Nat := l.foldl (fun n b => 10 * n + (b.toNat - 48)) 0
def numberOf (l : List UInt8) : Int :=
  if l.length = 0 ∨ 9 < l.length ∨ (l.head? = some 48 ∧ 1 < l.length) ∨ l.all isDigit = false then -1 else digitsVal l

theorem digitsVal_snoc (l : List UInt8) (b : UInt8) : digitsVal (l ++ [b]) = 10 * digitsVal l + (b.toNat - 48) := by
  unfold digitsVal
  rw [List.foldl_append]
  rfl

theorem digitsVal_step {l : List UInt8} {b : UInt8} {k : Nat} (h : digitsVal l < 10 ^ k) (hb : isDigit b = true) : digitsVal (l ++ [b]) < 10 ^ (k + 1) := by
  rw [digitsVal_snoc, Nat.pow_succ]
  unfold isDigit at hb
  rw [Bool.and_eq_true, decide_eq_true_eq, decide_eq_true_eq] at hb
  omega

/-- The numbers of a plan's text: for each word still to come its number, 0 where it is not there; and what is left over. -/
def readVals : List (List UInt8) → List Tok → Option (List Int × List Tok)
  | [], w => some ([], w)
  | b :: bs, [] => some (0 :: bs.map (fun _ => 0), [])
  | b :: bs, t :: w =>
    if (b ++ [61]).isPrefixOf t then
      if numberOf (t.drop (b.length + 1)) ≤ 0 then none else (readVals bs w).map fun x => (numberOf (t.drop (b.length + 1)) :: x.1, x.2)
    else (readVals bs (t :: w)).map fun x => (0 :: x.1, x.2)

theorem readVals_nil (bs : List (List UInt8)) : readVals bs [] = some (bs.map (fun _ => 0), []) := by
  cases bs <;> rfl

structure PlanP where
  name : List UInt8
  fs : List Tok
  vs : List Int

end Go.Proofs.YtbgchhgdlceceaaGreatDoor.Subj

namespace Go.Proofs.YtbgchhgdlceceaaGreatDoor.Subj

/-- A number in its bounds. -/
def inB (n lo hi : Int) : Bool := decide (lo ≤ n) && decide (n ≤ hi)

def timesOk (ack wait : Int) (back : List Int) (most pend : Int) : Bool :=
  if ack == 0 then (wait == 0) && (((back.length : Nat) : Int) == 0) && (most == 0) && (pend == 0)
  else inB wait 1 100000 && inB most 0 20 && inB pend 0 50 && back.all fun z => inB z 1 100000

def startOk (src start : Int) : Bool := if src == 3 then inB start 1 999999999 else start == 0

def argsOk (src start ack wait : Int) (back : List Int) (most pend : Int) : Bool :=
  inB src 0 3 && startOk src start && inB ack 0 2 && timesOk ack wait back most pend

/-- What 'Check' answers. -/
def takerErr (name filt : List UInt8) (src start ack wait : Int) (back : List Int) (most pend : Int) : Nat :=
  if nameOk name = true then
    if err true filt = 0 then if 5 < back.length then 2 else if argsOk src start ack wait back most pend = true then 0 else 1
    else err true filt
  else 3

theorem any_not (p : Int → Bool) (l : List Int) : (!(l.any fun z => !p z)) = l.all p := by
  induction l with
  | nil => rfl
  | cons a l ih => rw [List.any_cons, List.all_cons, Bool.not_or, ih, Bool.not_not]

end Go.Proofs.YtbgchhgdlceceaaGreatDoor.Subj
