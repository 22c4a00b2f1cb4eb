/- Parts of the proof, joined: rillref.overlap, walked by its own recursion; Overlap.; Texts cut at whatever byte: strings.Split at one byte and rillref.Pieces answer the same pieces.; The laws of filters, of the Lean functions. No program here.; Plans in plain Lean: what is right, how a text of a plan is read. No program here.; A store in plain Lean: messages by rising numbers; an index counts their subjects. No program here.; 'is' and 'known', walked; and the laws of filters that hold of the Lean functions.; 'is' and 'known', walked; and the laws of filters that hold of the Lean functions.; A log on a disk in plain Lean: what Open tells and leaves, Append, Rewrite. No program here.; rillref.covers, walked by its own recursion; Covers. -/
import Derived.Test.YthhgfdeegnimjaaGreatDoorConsumerPlaysUptoM1
import Derived.Test.YthhgfdeegnimjaaGreatDoorConsumerPlaysUptoM3
import Derived.Test.YthhgfdeegnimjaaGreatDoorConsumerPlaysUptoM5
import Derived.Test.YthhgfdeegnimjaaGreatDoorConsumerPlaysUptoM6
import Derived.Test.YthhgfdeegnimjaaGreatDoorConsumerPlaysUptoM7
import Derived.Test.YthhgfdeegnimjaaGreatDoorConsumerPlaysUptoM10
import Derived.Deep.QuietTactic
import Derived.BigQuiet
namespace Go.Proofs.YthhgfdeegnimjaaGreatDoor.Subj
open Go.RowKit

end Go.Proofs.YthhgfdeegnimjaaGreatDoor.Subj

namespace Go.Proofs.YthhgfdeegnimjaaGreatDoor.Subj
open Go.RowKit

/-- A text's pieces between bytes c. -/
def piecesC (c : UInt8) : List UInt8 → List Tok
  | [] => [[]]
  | b :: l => if b = c then [] :: piecesC c l else
    match piecesC c l with
    | p :: ps => (b :: p) :: ps
    | [] => [[b]]

section
variable (c : UInt8)

end
end Go.Proofs.YthhgfdeegnimjaaGreatDoor.Subj

namespace Go.Proofs.YthhgfdeegnimjaaGreatDoor.Subj

/-- The text of pieces. -/
def joined : List Tok → List UInt8
  | [] => []
  | [t] => t
  | t :: u :: ts => t ++ 46 :: joined (u :: ts)

theorem joined_pieces : ∀ l : List UInt8, joined (pieces l) = l
  | [] => rfl
  | b :: l => by
    have ih := joined_pieces l
    unfold pieces
    split
    · rename_i h
      cases hp : pieces l with
      | nil => exact absurd hp (pieces_ne l)
      | cons p ps =>
        rw [hp] at ih
        simp [joined, ih, h]
    · split
      · rename_i p ps hp
        rw [hp] at ih
        cases ps with
        | nil => simp [joined] at ih ⊢; exact ih
        | cons q ps => simp [joined] at ih ⊢; exact ih
      · rename_i hp
        exact absurd hp (pieces_ne l)

theorem pieces_inj {a b : List UInt8} (h : pieces a = pieces b) : a = b := by
  rw [← joined_pieces a, ← joined_pieces b, h]

end Go.Proofs.YthhgfdeegnimjaaGreatDoor.Subj

namespace Go.Proofs.YthhgfdeegnimjaaGreatDoor.Subj

/-- A byte of a name. -/
def nameByte (b : UInt8) : Bool := (decide (97 ≤ b.toNat) && decide (b.toNat ≤ 122)) || (decide (48 ≤ b.toNat) && decide (b.toNat ≤ 57)) || b.toNat == 45
def nameOk (t : List UInt8) : Bool := t.all nameByte && (decide (1 ≤ t.length) && decide (t.length ≤ 16))

/-- The first error of filters, 0: none. -/
def firstErr : List Tok → Nat
  | [] => 0
  | f :: r => if err true f = 0 then firstErr r else err true f

/-- Do two overlap? -/
def over (f g : Tok) : Bool := overlap (pieces f) (pieces g)
def clash (fs : List Tok) : Bool := (List.range fs.length).any fun b => (List.range b).any fun a => over (fs.getD b []) (fs.getD a [])

theorem clash_true {fs : List Tok} {a b : Nat} (hab : a < b) (hb : b < fs.length) (h : over (fs.getD b []) (fs.getD a []) = true) : clash fs = true := by
  unfold clash
  rw [List.any_eq_true]
  refine ⟨b, by simpa using hb, ?_⟩
  rw [List.any_eq_true]
  exact ⟨a, by simpa using hab, h⟩

theorem clash_false {fs : List Tok} (h : ∀ b a, b < fs.length → a < b → over (fs.getD b []) (fs.getD a []) = false) : clash fs = false := by
  cases hc : clash fs with
  | false => rfl
  | true =>
    unfold clash at hc
    rw [List.any_eq_true] at hc
    obtain ⟨b, hb, h2⟩ := hc
    rw [List.any_eq_true] at h2
    obtain ⟨a, ha, h3⟩ := h2
    rw [h b a (by simpa using hb) (by simpa using ha)] at h3
    cases h3

def filtersErr (fs : List Tok) : Nat :=
  if 4 < fs.length then 2 else if fs.length = 0 then 1 else if firstErr fs ≠ 0 then firstErr fs else if clash fs then 10 else 0

theorem firstErr_zero {fs : List Tok} : firstErr fs = 0 ↔ ∀ i, i < fs.length → err true (fs.getD i []) = 0 := by
  induction fs with
  | nil => simp [firstErr]
  | cons f r ih =>
    unfold firstErr
    constructor
    · intro h i hi
      by_cases h0 : err true f = 0
      · rw [if_pos h0] at h
        cases i with
        | zero => exact h0
        | succ i => simpa using ih.1 h i (by simpa using hi)
      · rw [if_neg h0] at h
        exact absurd h h0
    · intro h
      have h0 : err true f = 0 := h 0 (by simp)
      rw [if_pos h0]
      exact ih.2 fun i hi => by simpa using h (i + 1) (by simpa using hi)

theorem firstErr_at {fs : List Tok} {k : Nat} (hk : k < fs.length) (h : ∀ i, i < k → err true (fs.getD i []) = 0) (he : err true (fs.getD k []) ≠ 0) : firstErr fs = err true (fs.getD k []) := by
  induction fs generalizing k with
  | nil => simp at hk
  | cons f r ih =>
    unfold firstErr
    cases k with
    | zero => rw [if_neg (by simpa using he)]; rfl
    | succ k =>
      rw [if_pos (by simpa using h 0 (by omega))]
      simpa using ih (by simpa using hk) (fun i hi => by simpa using h (i + 1) (by omega)) (by simpa using he)

/-- The words of a plan's numbers, and the most that each may be. -/
def words : List (List UInt8) := [[109, 115, 103, 115], [98, 121, 116, 101, 115], [97, 103, 101], [112, 101, 114], [115, 105, 122, 101], [100, 105, 115, 99, 97, 114, 100], [107, 101, 101, 112], [119, 105, 110, 100, 111, 119]]
def mosts : List Int := [200, 65536, 100000, 200, 256, 1, 2, 100000]

def inAll (vs : List Int) : Bool := (List.range 8).all fun k => decide (0 ≤ vs.getD k 0) && decide (vs.getD k 0 ≤ mosts.getD k 0)

theorem inAll_true {vs : List Int} (h : ∀ k, k < 8 → 0 ≤ vs.getD k 0 ∧ vs.getD k 0 ≤ mosts.getD k 0) : inAll vs = true := by
  unfold inAll
  rw [List.all_eq_true]
  intro k hk
  have := h k (by simpa using hk)
  rw [Bool.and_eq_true, decide_eq_true_eq, decide_eq_true_eq]
  exact this

theorem inAll_false {vs : List Int} {k : Nat} (hk : k < 8) (h : vs.getD k 0 < 0 ∨ mosts.getD k 0 < vs.getD k 0) : inAll vs = false := by
  unfold inAll
  rw [List.all_eq_false]
  refine ⟨k, by simpa using hk, ?_⟩
  rw [Bool.and_eq_true, decide_eq_true_eq, decide_eq_true_eq]
  omega

/-- What is wrong with a plan. -/
def planErr (name : List UInt8) (fs : List Tok) (vs : List Int) : Nat :=
  if nameOk name then if filtersErr fs = 0 then if inAll vs then 0 else 1 else filtersErr fs else 3

/-- A number's digits, read from the left. -/
def isDigit (b : UInt8) : Bool := decide (48 ≤ b.toNat) && decide (b.toNat ≤ 57)
def digitsVal (l : List UInt8) : Nat := l.foldl (fun n b => 10 * n + (b.toNat - 48)) 0
def numberOf (l : List UInt8) : Int :=
  if l.length = 0 ∨ 9 < l.length ∨ (l.head? = some 48 ∧ 1 < l.length) ∨ l.all isDigit = false then -1 else digitsVal l

theorem digitsVal_snoc (l : List UInt8) (b : UInt8) : digitsVal (l ++ [b]) = 10 * digitsVal l + (b.toNat - 48) := by
  unfold digitsVal
  rw [List.foldl_append]
  rfl

theorem digitsVal_step {l : List UInt8} {b : UInt8} {k : Nat} (h : digitsVal l < 10 ^ k) (hb : isDigit b = true) : digitsVal (l ++ [b]) < 10 ^ (k + 1) := by
  rw [digitsVal_snoc, Nat.pow_succ]
  unfold isDigit at hb
  rw [Bool.and_eq_true, decide_eq_true_eq, decide_eq_true_eq] at hb
  omega

structure PlanP where
  name : List UInt8
  fs : List Tok
  vs : List Int

end Go.Proofs.YthhgfdeegnimjaaGreatDoor.Subj

namespace Go.Proofs.YthhgfdeegnimjaaGreatDoor.Sto
open Subj (Tok pieces takes)
open Rec (Rc recErr far)
open Idx (Ents idxL idxL_cases setL insL delL mem_insL mem_set_iff before before_irrefl)
open Shf (getL dropL putL SortedE mem_putL mem_dropL)

def sizeR (r : Rc) : Nat := r.subj.length + r.head.length + r.data.length
def bytesR (L : List Rc) : Nat := (L.map sizeR).sum
def cntR (L : List Rc) (s : Tok) : Nat := L.countP fun r => r.subj == s

/-- It counts. -/
def Counts (I : Ents) (L : List Rc) : Prop := ∀ s n, (s, n) ∈ I ↔ n = (cntR L s : Int) ∧ cntR L s ≠ 0

section
variable {I I' : Ents} {L : List Rc} {s : Tok} {v : Int}

theorem counts_idx (hc : Counts I L) (s : Tok) : idxL I s < 0 ↔ cntR L s = 0 := by
  rcases idxL_cases I s with ⟨e1, e2⟩ | ⟨k, p, e1, e2, e3, _⟩
  · refine ⟨fun _ => Classical.byContradiction fun h => e2 _ ((hc s _).2 ⟨rfl, h⟩) rfl, fun _ => by omega⟩
  · refine ⟨fun h => by omega, fun h => ?_⟩
    have := (hc p.1 p.2).1 (List.mem_of_getElem? e2)
    rw [e3] at this
    exact absurd h this.2

theorem counts_get (_h : SortedE I) (hc : Counts I L) (s : Tok) : getL 0 I s = if cntR L s = 0 then (0, 4) else ((cntR L s : Int), 0) := by
  unfold getL
  rw [if_neg (by simp)]
  rcases idxL_cases I s with ⟨e1, e2⟩ | ⟨k, p, e1, e2, e3, _⟩
  · have := (counts_idx hc s).1 (by omega)
    rw [if_pos (by omega), if_pos this]
  · have h1 := (hc p.1 p.2).1 (List.mem_of_getElem? e2)
    rw [e3] at h1
    rw [if_neg (by omega), if_neg h1.2, e1]
    simp [List.getD, e2, h1.1]

theorem cnt_append (L : List Rc) (r : Rc) (s : Tok) : cntR (L ++ [r]) s = cntR L s + if r.subj = s then 1 else 0 := by
  unfold cntR
  rw [List.countP_append]
  by_cases h : r.subj = s <;> simp [h]

/-- One more of its subject. -/
theorem counts_add (h : SortedE I) (hc : Counts I L) (r : Rc) (hn : cntR L r.subj ≠ 0 ∨ I.length ≠ 100) : Counts (putL 0 I r.subj ((cntR L r.subj : Int) + 1)).1 (L ++ [r]) := fun s n => by
  rw [mem_putL h (hn.imp (fun h1 => by
    have := mt (counts_idx hc r.subj).1 h1; omega) id), cnt_append]
  by_cases e : r.subj = s
  · subst e
    simp only [ne_eq, not_true_eq_false, and_false, or_false, Prod.mk.injEq, true_and, if_true]
    exact ⟨fun h => ⟨by rw [h]; omega, by omega⟩, fun h => by rw [h.1]; omega⟩
  · simp only [Prod.mk.injEq, e, if_false, Nat.add_zero, ne_eq]
    have e' : s ≠ r.subj := fun h => e h.symm
    simp only [e', false_and, false_or, not_false_eq_true, and_true]
    exact hc s n

theorem cnt_del {k : Nat} {r : Rc} (hk : L[k]? = some r) (s : Tok) : cntR L s = cntR (L.eraseIdx k) s + if r.subj = s then 1 else 0 := by
  obtain ⟨hkl, e⟩ := List.getElem?_eq_some_iff.1 hk
  have hL : L = L.take k ++ r :: L.drop (k + 1) := by rw [← e, ← List.drop_eq_getElem_cons hkl, List.take_append_drop]
  have hD : L.eraseIdx k = L.take k ++ L.drop (k + 1) := List.eraseIdx_eq_take_drop_succ L k
  unfold cntR
  rw [hD]
  conv => lhs; rw [hL]
  rw [List.countP_append, List.countP_append, List.countP_cons]
  by_cases h : r.subj = s <;> simp [h]; omega

/-- One less of its subject. -/
theorem counts_sub (h : SortedE I) (hc : Counts I L) {k : Nat} {r : Rc} (hk : L[k]? = some r) :
    Counts (if cntR L r.subj = 1 then (dropL 0 I r.subj).1 else (putL 0 I r.subj ((cntR L r.subj : Int) - 1)).1) (L.eraseIdx k) := fun s n => by
  have hd := cnt_del hk s
  have hd' := cnt_del hk r.subj
  rw [if_pos rfl] at hd'
  by_cases e1 : cntR L r.subj = 1
  · rw [if_pos e1, mem_dropL h]
    by_cases e : r.subj = s
    · subst e
      simp only [ne_eq, not_true_eq_false, and_false, false_iff]
      omega
    · rw [if_neg e] at hd
      have e' : s ≠ r.subj := fun h => e h.symm
      simp only [ne_eq, e', not_false_eq_true, and_true]
      rw [hc s n, hd]; simp
  · rw [if_neg e1, mem_putL h (.inl (by
      have := mt (counts_idx hc r.subj).1 (by omega); omega))]
    by_cases e : r.subj = s
    · subst e
      simp only [ne_eq, not_true_eq_false, and_false, or_false, Prod.mk.injEq, true_and]
      exact ⟨fun h => ⟨by rw [h]; omega, by omega⟩, fun h => by rw [h.1]; omega⟩
    · rw [if_neg e] at hd
      have e' : s ≠ r.subj := fun h => e h.symm
      simp only [Prod.mk.injEq, e', false_and, false_or, ne_eq, not_false_eq_true, and_true]
      rw [hc s n, hd]; simp
end

/-- What a store holds. -/
structure Right (L : List Rc) (last : Int) (I : Ents) : Prop where
  rise : L.Pairwise fun a b => a.seq < b.seq
  top : ∀ r ∈ L, r.seq ≤ last
  good : ∀ r ∈ L, recErr r = 0 ∧ r.kind = 1
  few : L.length ≤ 200
  range : 0 ≤ last ∧ last ≤ far
  sorted : SortedE I
  count : Counts I L

def hasSeq (L : List Rc) (q : Int) : Bool := L.any fun r => r.seq == q

/-- What is told of a record ahead of it. -/
def tryS (L : List Rc) (last : Int) (I : Ents) (r : Rc) : Nat :=
  if recErr r ≠ 0 then recErr r
  else if r.kind = 1 then if r.seq ≤ last then 9 else if L.length = 200 ∨ (cntR L r.subj = 0 ∧ I.length = 100) then 8 else 0
  else if r.kind = 2 then if hasSeq L r.seq then 0 else 4
  else 0

/-- What is left of the messages. -/
def leftS (L : List Rc) (r : Rc) : List Rc :=
  if r.kind = 1 then L ++ [r]
  else if r.kind = 2 then L.filter fun x => x.seq != r.seq
  else if r.kind = 3 then L.filter fun x => !(decide (x.seq < r.seq) && takes (pieces r.subj) (pieces x.subj))
  else L

def lastS (last : Int) (r : Rc) : Int := if r.kind = 1 then r.seq else if r.kind = 4 then max last r.seq else last

theorem bytes_append (L : List Rc) (r : Rc) : bytesR (L ++ [r]) = bytesR L + sizeR r := by simp [bytesR]
theorem bytes_del {L : List Rc} {k : Nat} {r : Rc} (hk : L[k]? = some r) : bytesR L = bytesR (L.eraseIdx k) + sizeR r := by
  obtain ⟨hkl, e⟩ := List.getElem?_eq_some_iff.1 hk
  have hL : L = L.take k ++ r :: L.drop (k + 1) := by rw [← e, ← List.drop_eq_getElem_cons hkl, List.take_append_drop]
  have hD : L.eraseIdx k = L.take k ++ L.drop (k + 1) := List.eraseIdx_eq_take_drop_succ L k
  unfold bytesR
  rw [hD]
  conv => lhs; rw [hL]
  simp only [List.map_append, List.map_cons, List.sum_append, List.sum_cons]
  omega
end Go.Proofs.YthhgfdeegnimjaaGreatDoor.Sto

namespace Go.Proofs.YthhgfdeegnimjaaGreatDoor.Subj
open Go.RowKit

end Go.Proofs.YthhgfdeegnimjaaGreatDoor.Subj

namespace Go.Proofs.YthhgfdeegnimjaaGreatDoor.Subj
open Go.RowKit
end Go.Proofs.YthhgfdeegnimjaaGreatDoor.Subj

namespace Go.Proofs.YthhgfdeegnimjaaGreatDoor.Log
open Dsk Rec

/-- A block's records, and how many bytes they have. -/
def scanF : Nat → List UInt8 → List Rc × Nat
  | 0, _ => ([], 0)
  | f + 1, s => if s = [] then ([], 0) else if (decL s).2.2 ≠ 0 then ([], 0)
    else ((decL s).1 :: (scanF f (s.drop (decL s).2.1)).1, (decL s).2.1 + (scanF f (s.drop (decL s).2.1)).2)

def scan (s : List UInt8) : List Rc × Nat := scanF s.length s

/-- The last block and its bytes. -/
def lastD (A : List FileP) : Int × Nat := match A.getLast? with
  | none => (-1, 0)
  | some p => (p.n, p.text.length)

def putD (room size : Int) (A : List FileP) (s : List UInt8) : List FileP × Nat :=
  match A.getLast? with
  | none => appD room A 0 s
  | some p => if 0 < p.text.length ∧ size < p.text.length + s.length then appD room (syncD A p.n).1 (p.n + 1) s else appD room A p.n s

def logD (room size : Int) (A : List FileP) (r : Rc) : List FileP × Nat :=
  if recErr r ≠ 0 then (A, recErr r) else putD room size A (codedL r)

def textsL (rs : List Rc) : List UInt8 := rs.flatMap codedL

end Go.Proofs.YthhgfdeegnimjaaGreatDoor.Log

namespace Go.Proofs.YthhgfdeegnimjaaGreatDoor.Subj
open Go.RowKit
end Go.Proofs.YthhgfdeegnimjaaGreatDoor.Subj
