/- Parts of the proof, joined: rillref.overlap, walked by its own recursion; Overlap.; Texts cut at whatever byte: strings.Split at one byte and rillref.Pieces answer the same pieces.; Records over lists of bytes: what is right, how they are written and read; that what is written is read, and what is read is what is written. No program here.; A store in plain Lean: messages by rising numbers; an index counts their subjects. No program here. -/
import Derived.Test.YtapmhpnkpjgefaaDoorConsumerRulesUptoM2
import Derived.Test.YtapmhpnkpjgefaaDoorConsumerRulesUptoM4
import Derived.Test.YtapmhpnkpjgefaaDoorConsumerRulesUptoM5
import Derived.Test.YtapmhpnkpjgefaaDoorConsumerRulesUptoM7
import Derived.Deep.QuietTactic
import Derived.BigQuiet
namespace Go.Proofs.YtapmhpnkpjgefaaDoor.Subj
open Go.RowKit
end Go.Proofs.YtapmhpnkpjgefaaDoor.Subj

namespace Go.Proofs.YtapmhpnkpjgefaaDoor.Subj
open Go.RowKit

/-- A text's pieces between bytes c. -/
def piecesC (c : UInt8) : List UInt8 → List Tok
  | [] => [[]]
  | b :: l => if b = c then [] :: piecesC c l else
    match piecesC c l with
    | p :: ps => (b :: p) :: ps
    | [] => [[b]]

section
variable (c : UInt8)

end
end Go.Proofs.YtapmhpnkpjgefaaDoor.Subj

namespace Go.Proofs.YtapmhpnkpjgefaaDoor.Rec
open Subj Pack Crc

structure Rc where
  kind : Int
  seq : Int
  time : Int
  subj : List UInt8
  head : List UInt8
  data : List UInt8

def Rc.zero : Rc := ⟨0, 0, 0, [], [], []⟩

def far : Int := 1099511627776

/-- What is wrong with a record. -/
def recErr (r : Rc) : Nat :=
  if r.kind < 1 ∨ 4 < r.kind ∨ r.seq < 1 ∨ far < r.seq ∨ r.time < 0 ∨ far < r.time then 1
  else if r.kind = 1 then if err false r.subj ≠ 0 then err false r.subj else if 256 < r.head.length + r.data.length then 2 else 0
  else if r.kind = 3 then if err true r.subj ≠ 0 then err true r.subj else if r.head = [] ∧ r.data = [] then 0 else 1
  else if r.subj = [] ∧ r.head = [] ∧ r.data = [] then 0 else 1

/-! ### Sizes -/

theorem pieces_sum (l : List UInt8) : l.length + 1 = ((pieces l).map (fun t => t.length + 1)).sum := by
  induction l with
  | nil => simp [pieces]
  | cons b l ih =>
    unfold pieces
    split
    · simp; omega
    · split
      · rename_i p ps e
        rw [e] at ih
        simp at ih ⊢; omega
      · rename_i e
        exact absurd e (pieces_ne l)

theorem sum_le (L : List Subj.Tok) (h : ∀ t ∈ L, t.length ≤ 16) : (L.map (fun t => t.length + 1)).sum ≤ 17 * L.length := by
  induction L with
  | nil => simp
  | cons t L ih =>
    have h1 := h t (by simp)
    have h2 := ih (fun t ht => h t (by simp [ht]))
    simp; omega

theorem okPieces_len (wild : Bool) : ∀ L : List Subj.Tok, okPieces wild L = true → ∀ t ∈ L, t.length ≤ 16
  | [], _, t, ht => by cases ht
  | x :: L, h, t, ht => by
    simp only [okPieces, Bool.and_eq_true] at h
    rcases List.mem_cons.1 ht with rfl | ht
    · rcases Bool.or_eq_true_iff.1 h.1 with h1 | h1
      · simp only [Bool.and_eq_true, Bool.or_eq_true, beq_iff_eq] at h1
        rcases h1.2 with h2 | h2
        · rw [h2]; decide
        · rw [h2.1]; decide
      · simp only [tokenOk, Bool.and_eq_true, decide_eq_true_eq] at h1
        exact h1.2
    · exact okPieces_len wild L h.2 t ht

theorem err_len {wild : Bool} {l : List UInt8} (h : err wild l = 0) : l.length ≤ 135 := by
  unfold err at h
  split at h
  · cases h
  · split at h
    · rename_i h1 h2
      have h3 := pieces_sum l
      have h4 := sum_le _ (okPieces_len wild _ h2)
      omega
    · cases h

theorem recErr_sizes {r : Rc} (h : recErr r = 0) : 1 ≤ r.kind ∧ r.kind ≤ 4 ∧ 1 ≤ r.seq ∧ r.seq ≤ far ∧ 0 ≤ r.time ∧ r.time ≤ far ∧ r.subj.length ≤ 135 ∧ r.head.length + r.data.length ≤ 256 := by
  unfold recErr at h
  split at h
  · cases h
  · rename_i h0
    simp only [not_or, Int.not_lt] at h0
    obtain ⟨a, b, c, d, e, f⟩ := h0
    refine ⟨a, b, c, d, e, f, ?_⟩
    split at h
    · split at h
      · rename_i h1; exact absurd h h1
      · rename_i h1
        split at h
        · cases h
        · rename_i h2
          exact ⟨err_len (by simpa using h1), by omega⟩
    · split at h
      · split at h
        · rename_i h1; exact absurd h h1
        · rename_i h1
          split at h
          · rename_i h2
            exact ⟨err_len (by simpa using h1), by rw [h2.1, h2.2]; decide⟩
          · cases h
      · split at h
        · rename_i h2
          rw [h2.1, h2.2.1, h2.2.2]; decide
        · cases h

/-! ### What is written is read -/

/-! ### What is read is what is written -/

end Go.Proofs.YtapmhpnkpjgefaaDoor.Rec

namespace Go.Proofs.YtapmhpnkpjgefaaDoor.Sto
open Subj (Tok pieces takes)
open Rec (Rc recErr far)
open Idx (Ents idxL idxL_cases setL insL delL mem_insL mem_set_iff before before_irrefl)
open Shf (getL dropL putL SortedE mem_putL mem_dropL)

def sizeR (r : Rc) : Nat := r.subj.length + r.head.length + r.data.length
def bytesR (L : List Rc) : Nat := (L.map sizeR).sum
def cntR (L : List Rc) (s : Subj.Tok) : Nat := L.countP fun r => r.subj == s

/-- It counts. -/
def Counts (I : Ents) (L : List Rc) : Prop := ∀ s n, (s, n) ∈ I ↔ n = (cntR L s : Int) ∧ cntR L s ≠ 0

section
variable {I I' : Ents} {L : List Rc} {s : Subj.Tok} {v : Int}

theorem counts_idx (hc : Counts I L) (s : Subj.Tok) : idxL I s < 0 ↔ cntR L s = 0 := by
  rcases idxL_cases I s with ⟨e1, e2⟩ | ⟨k, p, e1, e2, e3, _⟩
  · refine ⟨fun _ => Classical.byContradiction fun h => e2 _ ((hc s _).2 ⟨rfl, h⟩) rfl, fun _ => by omega⟩
  · refine ⟨fun h => by omega, fun h => ?_⟩
    have := (hc p.1 p.2).1 (List.mem_of_getElem? e2)
    rw [e3] at this
    exact absurd h this.2

theorem counts_get (_h : SortedE I) (hc : Counts I L) (s : Subj.Tok) : getL 0 I s = if cntR L s = 0 then (0, 4) else ((cntR L s : Int), 0) := by
  unfold getL
  rw [if_neg (by simp)]
  rcases idxL_cases I s with ⟨e1, e2⟩ | ⟨k, p, e1, e2, e3, _⟩
  · have := (counts_idx hc s).1 (by omega)
    rw [if_pos (by omega), if_pos this]
  · have h1 := (hc p.1 p.2).1 (List.mem_of_getElem? e2)
    rw [e3] at h1
    rw [if_neg (by omega), if_neg h1.2, e1]
    simp [List.getD, e2, h1.1]

theorem cnt_append (L : List Rc) (r : Rc) (s : Subj.Tok) : cntR (L ++ [r]) s = cntR L s + if r.subj = s then 1 else 0 := by
  unfold cntR
  rw [List.countP_append]
  by_cases h : r.subj = s <;> simp [h]

/-- One more of its subject. -/
theorem counts_add (h : SortedE I) (hc : Counts I L) (r : Rc) (hn : cntR L r.subj ≠ 0 ∨ I.length ≠ 100) : Counts (putL 0 I r.subj ((cntR L r.subj : Int) + 1)).1 (L ++ [r]) := fun s n => by
  rw [mem_putL h (hn.imp (fun h1 => by
    have := mt (counts_idx hc r.subj).1 h1; omega) id), cnt_append]
  by_cases e : r.subj = s
  · subst e
    simp only [ne_eq, not_true_eq_false, and_false, or_false, Prod.mk.injEq, true_and, if_true]
    exact ⟨fun h => ⟨by rw [h]; omega, by omega⟩, fun h => by rw [h.1]; omega⟩
  · simp only [Prod.mk.injEq, e, if_false, Nat.add_zero, ne_eq]
    have e' : s ≠ r.subj := fun h => e h.symm
    simp only [e', false_and, false_or, not_false_eq_true, and_true]
    exact hc s n

theorem cnt_del {k : Nat} {r : Rc} (hk : L[k]? = some r) (s : Subj.Tok) : cntR L s = cntR (L.eraseIdx k) s + if r.subj = s then 1 else 0 := by
  obtain ⟨hkl, e⟩ := List.getElem?_eq_some_iff.1 hk
  have hL : L = L.take k ++ r :: L.drop (k + 1) := by rw [← e, ← List.drop_eq_getElem_cons hkl, List.take_append_drop]
  have hD : L.eraseIdx k = L.take k ++ L.drop (k + 1) := List.eraseIdx_eq_take_drop_succ L k
  unfold cntR
  rw [hD]
  conv => lhs; rw [hL]
  rw [List.countP_append, List.countP_append, List.countP_cons]
  by_cases h : r.subj = s <;> simp [h]; omega

/-- One less of its subject. -/
theorem counts_sub (h : SortedE I) (hc : Counts I L) {k : Nat} {r : Rc} (hk : L[k]? = some r) :
    Counts (if cntR L r.subj = 1 then (dropL 0 I r.subj).1 else (putL 0 I r.subj ((cntR L r.subj : Int) - 1)).1) (L.eraseIdx k) := fun s n => by
  have hd := cnt_del hk s
  have hd' := cnt_del hk r.subj
  rw [if_pos rfl] at hd'
  by_cases e1 : cntR L r.subj = 1
  · rw [if_pos e1, mem_dropL h]
    by_cases e : r.subj = s
    · subst e
      simp only [ne_eq, not_true_eq_false, and_false, false_iff]
      omega
    · rw [if_neg e] at hd
      have e' : s ≠ r.subj := fun h => e h.symm
      simp only [ne_eq, e', not_false_eq_true, and_true]
      rw [hc s n, hd]; simp
  · rw [if_neg e1, mem_putL h (.inl (by
      have := mt (counts_idx hc r.subj).1 (by omega); omega))]
    by_cases e : r.subj = s
    · subst e
      simp only [ne_eq, not_true_eq_false, and_false, or_false, Prod.mk.injEq, true_and]
      exact ⟨fun h => ⟨by rw [h]; omega, by omega⟩, fun h => by rw [h.1]; omega⟩
    · rw [if_neg e] at hd
      have e' : s ≠ r.subj := fun h => e h.symm
      simp only [Prod.mk.injEq, e', false_and, false_or, ne_eq, not_false_eq_true, and_true]
      rw [hc s n, hd]; simp
end

/-- What a store holds. -/
structure Right (L : List Rc) (last : Int) (I : Ents) : Prop where
  rise : L.Pairwise fun a b => a.seq < b.seq
  top : ∀ r ∈ L, r.seq ≤ last
  good : ∀ r ∈ L, recErr r = 0 ∧ r.kind = 1
  few : L.length ≤ 200
  range : 0 ≤ last ∧ last ≤ far
  sorted : SortedE I
  count : Counts I L

def hasSeq (L : List Rc) (q : Int) : Bool := L.any fun r => r.seq == q

/-- What is told of a record ahead of it. -/
def tryS (L : List Rc) (last : Int) (I : Ents) (r : Rc) : Nat :=
  if recErr r ≠ 0 then recErr r
  else if r.kind = 1 then if r.seq ≤ last then 9 else if L.length = 200 ∨ (cntR L r.subj = 0 ∧ I.length = 100) then 8 else 0
  else if r.kind = 2 then if hasSeq L r.seq then 0 else 4
  else 0

/-- What is left of the messages. -/
def leftS (L : List Rc) (r : Rc) : List Rc :=
  if r.kind = 1 then L ++ [r]
  else if r.kind = 2 then L.filter fun x => x.seq != r.seq
  else if r.kind = 3 then L.filter fun x => !(decide (x.seq < r.seq) && takes (pieces r.subj) (pieces x.subj))
  else L

def lastS (last : Int) (r : Rc) : Int := if r.kind = 1 then r.seq else if r.kind = 4 then max last r.seq else last

theorem bytes_append (L : List Rc) (r : Rc) : bytesR (L ++ [r]) = bytesR L + sizeR r := by simp [bytesR]
theorem bytes_del {L : List Rc} {k : Nat} {r : Rc} (hk : L[k]? = some r) : bytesR L = bytesR (L.eraseIdx k) + sizeR r := by
  obtain ⟨hkl, e⟩ := List.getElem?_eq_some_iff.1 hk
  have hL : L = L.take k ++ r :: L.drop (k + 1) := by rw [← e, ← List.drop_eq_getElem_cons hkl, List.take_append_drop]
  have hD : L.eraseIdx k = L.take k ++ L.drop (k + 1) := List.eraseIdx_eq_take_drop_succ L k
  unfold bytesR
  rw [hD]
  conv => lhs; rw [hL]
  simp only [List.map_append, List.map_cons, List.sum_append, List.sum_cons]
  omega
end Go.Proofs.YtapmhpnkpjgefaaDoor.Sto
