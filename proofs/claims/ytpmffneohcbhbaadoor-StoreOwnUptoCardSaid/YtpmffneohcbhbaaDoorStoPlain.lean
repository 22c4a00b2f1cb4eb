/- A store in plain Lean: messages by rising numbers; an index counts their subjects. No program here. -/
import Derived.Test.YtpmffneohcbhbaaDoorRecPlain
import Derived.Test.YtpmffneohcbhbaaDoorIdxList
namespace Go.Proofs.YtpmffneohcbhbaaDoor.Sto
open Subj (Tok pieces takes)
open Rec (Rc recErr far)
open Idx (Ents idxL idxL_cases setL insL delL mem_insL mem_set_iff before before_irrefl)
open Shf (getL dropL putL SortedE mem_putL mem_dropL)

def sizeR (r : Rc) : Nat := r.subj.length + r.head.length + r.data.length
def bytesR (L : List Rc) : Nat := (L.map sizeR).sum
def cntR (L : List Rc) (s : Tok) : Nat := L.countP fun r => r.subj == s

/-- It counts. -/
def Counts (I : Ents) (L : List Rc) : Prop := ∀ s n, (s, n) ∈ I ↔ n = (cntR L s : Int) ∧ cntR L s ≠ 0

section
variable {I I' : Ents} {L : List Rc} {s : Tok} {v : Int}

theorem counts_idx (hc : Counts I L) (s : Tok) : idxL I s < 0 ↔ cntR L s = 0 := by
  rcases idxL_cases I s with ⟨e1, e2⟩ | ⟨k, p, e1, e2, e3, _⟩
  · refine ⟨fun _ => Classical.byContradiction fun h => e2 _ ((hc s _).2 ⟨rfl, h⟩) rfl, fun _ => by omega⟩
  · refine ⟨fun h => by omega, fun h => ?_⟩
    have := (hc p.1 p.2).1 (List.mem_of_getElem? e2)
    rw [e3] at this
    exact absurd h this.2

theorem counts_get (h : SortedE I) (hc : Counts I L) (s : Tok) : getL 0 I s = if cntR L s = 0 then (0, 4) else ((cntR L s : Int), 0) := by
  unfold getL
  rw [if_neg (by simp)]
  rcases idxL_cases I s with ⟨e1, e2⟩ | ⟨k, p, e1, e2, e3, _⟩
  · have := (counts_idx hc s).1 (by omega)
    rw [if_pos (by omega), if_pos this]
  · have h1 := (hc p.1 p.2).1 (List.mem_of_getElem? e2)
    rw [e3] at h1
    rw [if_neg (by omega), if_neg h1.2, e1]
    simp [List.getD, e2, h1.1]

theorem cnt_append (L : List Rc) (r : Rc) (s : Tok) : cntR (L ++ [r]) s = cntR L s + if r.subj = s then 1 else 0 := by
  unfold cntR
  rw [List.countP_append]
  by_cases h : r.subj = s <;> simp [h]

/-- One more of its subject. -/
theorem counts_add (h : SortedE I) (hc : Counts I L) (r : Rc) (hn : cntR L r.subj ≠ 0 ∨ I.length ≠ 100) : Counts (putL 0 I r.subj ((cntR L r.subj : Int) + 1)).1 (L ++ [r]) := fun s n => by
  rw [mem_putL h (hn.imp (fun h1 => by
    have := mt (counts_idx hc r.subj).1 h1; omega) id), cnt_append]
  by_cases e : r.subj = s
  · subst e
    simp only [ne_eq, not_true_eq_false, and_false, or_false, Prod.mk.injEq, true_and, if_true]
    exact ⟨fun h => ⟨by rw [h]; omega, by omega⟩, fun h => by rw [h.1]; omega⟩
  · simp only [Prod.mk.injEq, e, if_false, Nat.add_zero, ne_eq]
    have e' : s ≠ r.subj := fun h => e h.symm
    simp only [e', false_and, false_or, not_false_eq_true, and_true]
    exact hc s n

theorem cnt_del {k : Nat} {r : Rc} (hk : L[k]? = some r) (s : Tok) : cntR L s = cntR (L.eraseIdx k) s + if r.subj = s then 1 else 0 := by
  obtain ⟨hkl, e⟩ := List.getElem?_eq_some_iff.1 hk
  have hL : L = L.take k ++ r :: L.drop (k + 1) := by rw [← e, ← List.drop_eq_getElem_cons hkl, List.take_append_drop]
  have hD : L.eraseIdx k = L.take k ++ L.drop (k + 1) := List.eraseIdx_eq_take_drop_succ L k
  unfold cntR
  rw [hD]
  conv => lhs; rw [hL]
  rw [List.countP_append, List.countP_append, List.countP_cons]
  by_cases h : r.subj = s <;> simp [h]; omega

/-- One less of its subject. -/
theorem counts_sub (h : SortedE I) (hc : Counts I L) {k : Nat} {r : Rc} (hk : L[k]? = some r) :
    Counts (if cntR L r.subj = 1 then (dropL 0 I r.subj).1 else (putL 0 I r.subj ((cntR L r.subj : Int) - 1)).1) (L.eraseIdx k) := fun s n => by
  have hd := cnt_del hk s
  have hd' := cnt_del hk r.subj
  rw [if_pos rfl] at hd'
  by_cases e1 : cntR L r.subj = 1
  · rw [if_pos e1, mem_dropL h]
    by_cases e : r.subj = s
    · subst e
      simp only [ne_eq, not_true_eq_false, and_false, false_iff]
      omega
    · rw [if_neg e] at hd
      have e' : s ≠ r.subj := fun h => e h.symm
      simp only [ne_eq, e', not_false_eq_true, and_true]
      rw [hc s n, hd]; simp
  · rw [if_neg e1, mem_putL h (.inl (by
      have := mt (counts_idx hc r.subj).1 (by omega); omega))]
    by_cases e : r.subj = s
    · subst e
      simp only [ne_eq, not_true_eq_false, and_false, or_false, Prod.mk.injEq, true_and]
      exact ⟨fun h => ⟨by rw [h]; omega, by omega⟩, fun h => by rw [h.1]; omega⟩
    · rw [if_neg e] at hd
      have e' : s ≠ r.subj := fun h => e h.symm
      simp only [Prod.mk.injEq, e', false_and, false_or, ne_eq, not_false_eq_true, and_true]
      rw [hc s n, hd]; simp
end

/-- What a store holds. -/
structure Right (L : List Rc) (last : Int) (I : Ents) : Prop where
  rise : L.Pairwise fun a b => a.seq < b.seq
  top : ∀ r ∈ L, r.seq ≤ last
  good : ∀ r ∈ L, recErr r = 0 ∧ r.kind = 1
  few : L.length ≤ 200
  range : 0 ≤ last ∧ last ≤ far
  sorted : SortedE I
  count : Counts I L

def hasSeq (L : List Rc) (q : Int) : Bool := L.any fun r => r.seq == q

/-- What is told of a record ahead of it. -/
def tryS (L : List Rc) (last : Int) (I : Ents) (r : Rc) : Nat :=
  if recErr r ≠ 0 then recErr r
  else if r.kind = 1 then if r.seq ≤ last then 9 else if L.length = 200 ∨ (cntR L r.subj = 0 ∧ I.length = 100) then 8 else 0
  else if r.kind = 2 then if hasSeq L r.seq then 0 else 4
  else 0

/-- What is left of the messages. -/
def leftS (L : List Rc) (r : Rc) : List Rc :=
  if r.kind = 1 then L ++ [r]
  else if r.kind = 2 then L.filter fun x => x.seq != r.seq
  else if r.kind = 3 then L.filter fun x => !(decide (x.seq < r.seq) && takes (pieces r.subj) (pieces x.subj))
  else L

def lastS (last : Int) (r : Rc) : Int := if r.kind = 1 then r.seq else if r.kind = 4 then max last r.seq else last

/-- Behind a record. -/
def afterS (L : List Rc) (last : Int) (I : Ents) (r : Rc) : List Rc × Int := if tryS L last I r = 0 then (leftS L r, lastS last r) else (L, last)

theorem bytes_append (L : List Rc) (r : Rc) : bytesR (L ++ [r]) = bytesR L + sizeR r := by simp [bytesR]
theorem bytes_del {L : List Rc} {k : Nat} {r : Rc} (hk : L[k]? = some r) : bytesR L = bytesR (L.eraseIdx k) + sizeR r := by
  obtain ⟨hkl, e⟩ := List.getElem?_eq_some_iff.1 hk
  have hL : L = L.take k ++ r :: L.drop (k + 1) := by rw [← e, ← List.drop_eq_getElem_cons hkl, List.take_append_drop]
  have hD : L.eraseIdx k = L.take k ++ L.drop (k + 1) := List.eraseIdx_eq_take_drop_succ L k
  unfold bytesR
  rw [hD]
  conv => lhs; rw [hL]
  simp only [List.map_append, List.map_cons, List.sum_append, List.sum_cons]
  omega
end Go.Proofs.YtpmffneohcbhbaaDoor.Sto
