/- A store in memory: an index, a list of records, their bytes, the last number. -/
import Derived.Test.YtpmffneohcbhbaaDoorStoPlain
import Derived.Test.YtpmffneohcbhbaaDoorIdxRel
import Derived.Test.YtpmffneohcbhbaaDoorRecCheck
namespace Go.Proofs.YtpmffneohcbhbaaDoor.Sto
open Go.RowKit Heap
open Subj (Tok ML pieces takes)
open Rec (Rc recErr far recA rcOf)
open Idx (Ents ptrV idxL)
open Shf (XAt NextX getL dropL putL SortedE)

def recC (r : Rc) : List Value := [.int .i64 r.kind, .int .i64 r.seq, .int .i64 r.time, .string ⟨r.subj.toArray⟩, .string ⟨r.head.toArray⟩, .string ⟨r.data.toArray⟩]
def recsV (L : List Rc) : List Value := L.flatMap recC

theorem recsV_cons (r : Rc) (L : List Rc) : recsV (r :: L) = recC r ++ recsV L := rfl
theorem recsV_len (L : List Rc) : (recsV L).length = L.length * 6 := by
  induction L with
  | nil => rfl
  | cons p l ih =>
    rw [recsV_cons, List.length_append, ih]
    simp [recC]; omega
theorem recsV_append (a b : List Rc) : recsV (a ++ b) = recsV a ++ recsV b := by simp [recsV]
theorem recsV_one (L : List Rc) : ∀ u ∈ recsV L, u.oneCell' = true := by
  intro u hu
  obtain ⟨e, _, h⟩ := List.mem_flatMap.1 hu
  simp only [recC, List.mem_cons, List.not_mem_nil, or_false] at h
  rcases h with rfl | rfl | rfl | rfl | rfl | rfl <;> rfl
theorem recsV_take (A : List Rc) (k : Nat) : (recsV A).take (k * 6) = recsV (A.take k) := by
  induction A generalizing k with
  | nil => simp [recsV]
  | cons a r ih =>
    cases k with
    | zero => simp [recsV]
    | succ k =>
      have hl : (recC a).length = 6 := rfl
      rw [recsV_cons, List.take_append, hl, show (k + 1) * 6 - 6 = k * 6 by omega, ih, List.take_of_length_le (by rw [hl]; omega)]
      rfl
theorem recsV_drop (A : List Rc) (k : Nat) : (recsV A).drop (k * 6) = recsV (A.drop k) := by
  induction A generalizing k with
  | nil => simp [recsV]
  | cons a r ih =>
    cases k with
    | zero => simp [recsV]
    | succ k =>
      have hl : (recC a).length = 6 := rfl
      rw [recsV_cons, List.drop_append, hl, show (k + 1) * 6 - 6 = k * 6 by omega, ih, List.drop_of_length_le (by rw [hl]; omega)]
      rfl
theorem recsV_at (l : List Rc) (k : Nat) (p : Rc) (h : l[k]? = some p) (i : Nat) (hi : i < 6) : (recsV l)[k * 6 + i]? = (recC p)[i]? := by
  induction l generalizing k with
  | nil => simp at h
  | cons q l ih =>
    rw [recsV_cons]
    cases k with
    | zero =>
      simp at h; subst h
      rw [List.getElem?_append_left (by simp [recC]; omega)]
      simp
    | succ k =>
      rw [List.getElem?_append_right (by simp [recC]; omega)]
      rw [show (k + 1) * 6 + i - (recC q).length = k * 6 + i by simp [recC]; omega]
      exact ih k (by simpa using h)

/-- A record's cells in a row of records. -/
theorem cells_rec {w : World} {g off n cap : Nat} {l : List Rc} (h : Row w 56 6 (.slice (some ⟨g, off, none⟩) n cap) n (recsV l)) (k : Nat) (p : Rc) (hp : l[k]? = some p) (hk : k < n) :
    w.cell? ⟨g, off + k * 6, none⟩ = some (.int .i64 p.kind) ∧ w.cell? ⟨g, off + k * 6 + 1, none⟩ = some (.int .i64 p.seq) ∧ w.cell? ⟨g, off + k * 6 + 2, none⟩ = some (.int .i64 p.time) ∧
      w.cell? ⟨g, off + k * 6 + 3, none⟩ = some (.string ⟨p.subj.toArray⟩) ∧ w.cell? ⟨g, off + k * 6 + 4, none⟩ = some (.string ⟨p.head.toArray⟩) ∧ w.cell? ⟨g, off + k * 6 + 5, none⟩ = some (.string ⟨p.data.toArray⟩) := by
  have e : ∀ i, i < 6 → w.cell? ⟨g, off + k * 6 + i, none⟩ = (recC p)[i]? := fun i hi => by
    rw [show off + k * 6 + i = off + (k * 6 + i) by omega, (h.cell (k * 6 + i) (by omega)).1, recsV_at l k p hp i hi]
  exact ⟨e 0 (by omega), e 1 (by omega), e 2 (by omega), e 3 (by omega), e 4 (by omega), e 5 (by omega)⟩

/-- A record as a value, of six parts that are told apart. -/
structure Parts (r : Rc) (s h d : ByteArray) : Prop where
  s1 : (⟨r.subj.toArray⟩ : ByteArray) = s
  h1 : (⟨r.head.toArray⟩ : ByteArray) = h
  d1 : (⟨r.data.toArray⟩ : ByteArray) = d
  s2 : s.data.toList = r.subj
  h2 : h.data.toList = r.head
  d2 : d.data.toList = r.data
  s3 : s.size = r.subj.length
  h3 : h.size = r.head.length
  d3 : d.size = r.data.length

theorem parts (r : Rc) : ∃ s h d, Parts r s h d := ⟨_, _, _, rfl, rfl, rfl, by simp, by simp, by simp, by show r.subj.toArray.size = _; simp, by show r.head.toArray.size = _; simp, by show r.data.toArray.size = _; simp⟩

theorem Parts.rc {r : Rc} {s h d : ByteArray} (p : Parts r s h d) : rcOf r.kind r.seq r.time s h d = r := by
  unfold rcOf
  rw [p.s2, p.h2, p.d2]

/-- A store in memory. -/
structure SAt (W : World) (M : Nat → Prop) (x N : Nat) (I : Ents) (D : Nat) (v : Value) (L : List Rc) (bt last : Int) (w : World) : Prop where
  idx : XAt W M x N I w
  cell : w.heap[D]? = some (.cells #[v, ptrV x, .int .i64 bt, .int .i64 last] 104 (0, 0))
  row : Row w 56 6 v L.length (recsV L)
  mD : ¬ M D
  oldD : W.heap.size ≤ D
  vM : ∀ k, own v k → ¬ M k ∧ W.heap.size ≤ k

theorem fourS {D : Nat} {a0 a1 a2 a3 : Value} {t : TypeId} {w : World} (h : w.heap[D]? = some (.cells #[a0, a1, a2, a3] t (0, 0))) :
    w.cell? ⟨D, 0, none⟩ = some a0 ∧ w.cell? ⟨D, 1, none⟩ = some a1 ∧ w.cell? ⟨D, 2, none⟩ = some a2 ∧ w.cell? ⟨D, 3, none⟩ = some a3 ∧ ∀ j, w.frozen? ⟨D, j, none⟩ = false := by
  refine ⟨?_, ?_, ?_, ?_, fun j => frozen_of_row w D j _ _ h⟩
  · rw [cell_of_row w D 0 _ _ _ h]; rfl
  · rw [cell_of_row w D 1 _ _ _ h]; rfl
  · rw [cell_of_row w D 2 _ _ _ h]; rfl
  · rw [cell_of_row w D 3 _ _ _ h]; rfl

theorem ne_rec {D n : Nat} {w : World} {v a0 a1 a2 a3 : Value} {xs : List Value} (h : w.heap[D]? = some (.cells #[a0, a1, a2, a3] 104 (0, 0))) (hr : Row w 56 6 v n xs) : ¬ own v D := fun ho => by
  rcases hr.2 with ⟨rfl, _⟩ | ⟨g, off, cap, cur, rfl, hg, _⟩
  · simp [own, Value.ownBlock] at ho
  · simp [own, Value.ownBlock] at ho
    subst ho
    rw [h] at hg
    simp at hg

section
variable {W w w1 : World} {M : Nat → Prop} {x N N' D : Nat} {I I' : Ents} {v v' : Value} {L L' : List Rc} {bt last bt' last' : Int}

theorem SAt.lt (h : SAt W M x N I D v L bt last w) : D < w.heap.size := heap_lt h.cell
theorem SAt.ne (h : SAt W M x N I D v L bt last w) : ¬ own v D := ne_rec h.cell h.row

/-- All but the index is turned. -/
theorem SAt.turn (h : SAt W M x N I D v L bt last w) (ht : Heap.Touch (fun k => own v k ∨ k = D) w w1) (hc : w1.heap[D]? = some (.cells #[v', ptrV x, .int .i64 bt', .int .i64 last'] 104 (0, 0)))
    (hr : Row w1 56 6 v' L'.length (recsV L')) (ho : ∀ k, own v' k → own v k ∨ w.heap.size ≤ k) : SAt W M x N I D v' L' bt' last' w1 := by
  have hb := h.idx.below
  refine ⟨h.idx.kept (hb.trans (ht.below hb.size fun k hk => ?_)) ht.size (ht.same fun k hm hk => ?_), hc, hr, h.mD, h.oldD, fun k hk => ?_⟩
  · rcases hk with hk | rfl
    · exact (h.vM k hk).2
    · exact h.oldD
  · rcases hk with hk | rfl
    · exact (h.vM k hk).1 hm
    · exact h.mD hm
  · rcases ho k hk with e | e
    · exact h.vM k e
    · exact ⟨fun hm => by have := h.idx.bM hm; omega, Nat.le_trans hb.size e⟩

theorem SAt.next (h : SAt W M x N I D v L bt last w) (hb : Below w.heap.size w w1) : SAt W M x N I D v L bt last w1 :=
  h.turn (Heap.Touch.ofBelow hb) ((hb.block D h.lt).trans h.cell) (h.row.kept fun k _ hk => hb.block k hk) fun _ hk => .inl hk

theorem touch_D (w : World) (D j : Nat) (u : Value) : Heap.Touch (fun k => k = D) w (w.setCell ⟨D, j, none⟩ u) := Heap.Touch.setCell (F := fun k => k = D) (p := ⟨D, j, none⟩) (Heap.Touch.refl _ w) (.inl rfl) _

theorem SAt.setBytes (h : SAt W M x N I D v L bt last w) (b : Int) : SAt W M x N I D v L b last (w.setCell ⟨D, 2, none⟩ (.int .i64 b)) :=
  h.turn ((touch_D w D 2 _).mono fun _ _ e => .inr e) (heap_setCell_same _ _ _ _ _ _ h.cell) (h.row.kept fun k hk hlt => (touch_D w D 2 _).block k hlt fun e => h.ne (e ▸ hk)) fun _ hk => .inl hk

theorem SAt.setLast (h : SAt W M x N I D v L bt last w) (b : Int) : SAt W M x N I D v L bt b (w.setCell ⟨D, 3, none⟩ (.int .i64 b)) :=
  h.turn ((touch_D w D 3 _).mono fun _ _ e => .inr e) (heap_setCell_same _ _ _ _ _ _ h.cell) (h.row.kept fun k hk hlt => (touch_D w D 3 _).block k hlt fun e => h.ne (e ▸ hk)) fun _ hk => .inl hk

/-- Another list, of the same array or of a new one. -/
theorem SAt.setList (h : SAt W M x N I D v L bt last w) (ht : Heap.Touch (own v) w w1) (hr : Row w1 56 6 v' L'.length (recsV L')) (ho : ∀ k, own v' k → own v k ∨ w.heap.size ≤ k) :
    SAt W M x N I D v' L' bt last (w1.setCell ⟨D, 0, none⟩ v') := by
  have hD1 : w1.heap[D]? = _ := (ht.block D h.lt h.ne).trans h.cell
  have hne : ¬ own v' D := ne_rec hD1 hr
  exact h.turn ((ht.mono fun _ _ e => .inl e).setCell (.inl (.inr rfl)) _) (by rw [heap_setCell_same _ _ _ _ _ _ hD1]; rfl) (hr.kept fun k hk hlt => (touch_D w1 D 0 _).block k hlt fun e => hne (e ▸ hk)) ho

/-- The index has been called. -/
theorem SAt.call (h : SAt W M x N I D v L bt last w) (hn : NextX W M x N' w I' w1) : ∃ M', SAt W M' x N' I' D v L bt last w1 ∧ ∀ k, M' k → M k ∨ w.heap.size ≤ k := by
  obtain ⟨⟨M', hX, hM⟩, ht⟩ := hn
  refine ⟨M', ⟨hX, (ht.block D h.lt h.mD).trans h.cell, h.row.kept fun k hk hlt => ht.block k hlt (h.vM k hk).1, fun hk => ?_, h.oldD, fun k hk => ⟨fun hm => ?_, (h.vM k hk).2⟩⟩, hM⟩
  · rcases hM D hk with e | e
    · exact h.mD e
    · have := h.lt; omega
  · rcases hM k hm with e | e
    · exact (h.vM k hk).1 e
    · have := h.row.lt k hk; omega
end
end Go.Proofs.YtpmffneohcbhbaaDoor.Sto
