/- Parts of the proof, joined: Package record's Check and the reference's Record, walked.; A store in memory: an index, a list of records, their bytes, the last number.; A number's place among a store's records: slices.BinarySearchFunc, walked.; slices.Delete of one element of 6 cells, walked. -/
import Derived.Test.YthhingihjpkipaaDoorConsumerDrainsUptoM14
namespace Go.Proofs.YthhingihjpkipaaDoor.Rec
open Go.RowKit Subj Pack Crc

/-- A record's cells, as values; as lists. -/
def recA (k q t : Int) (s h d : ByteArray) : Array Value := #[.int .i64 k, .int .i64 q, .int .i64 t, .string s, .string h, .string d]
def rcOf (k q t : Int) (s h d : ByteArray) : Rc := ⟨k, q, t, s.data.toList, h.data.toList, d.data.toList⟩

theorem ml_alloc {w : World} (h : ML w) (o : Obj) : ML (w.alloc o) := h.below ((Below.refl _ _).alloc (Nat.le_refl _) _)

theorem toList_app (a b : ByteArray) : (a ++ b).toList = a.toList ++ b.toList := by
  rw [ByteArray.toList_eq, ByteArray.toList_eq, ByteArray.toList_eq]; simp

theorem empty_iff (s : ByteArray) : s.data.toList = [] ↔ s.toList = [] := by rw [ByteArray.toList_eq]

set_option maxHeartbeats 4000000 in
set_option maxRecDepth 100000 in
theorem check_any (k q t : Int) (s h d : ByteArray) (w : World) (hs : s.size ≤ 1048576) (hh : h.size ≤ 1048576) (hd : d.size ≤ 1048576) (hm : ML w) :
    Calls Tryd.prog 36 #[.agg (recA k q t s h d)] w fun e w' => e = .returned (.int .i64 (recErr (rcOf k q t s h d))) ∧ Below w.heap.size w w' := by
  obtain ⟨er, her⟩ : ∃ er, recErr (rcOf k q t s h d) = er := ⟨_, rfl⟩
  rw [her]
  unfold recErr rcOf far at her
  simp only [Array.length_toList, ByteArray.size_data, empty_iff] at her
  have HS := Lib.hid fun w hm => subject_any s w hs hm
  have HF := Lib.hid fun w hm => filter_any s w hs hm
  have hm1 := ml_alloc hm (.cells (recA k q t s h d) 29)
  have HM := Lib.hid hm1
  have hb := (Below.refl w.heap.size w).alloc (Nat.le_refl _) (.cells (recA k q t s h d) 29)
  have HB := Lib.hid hb
  generalize err true s.data.toList = e1 at *
  generalize err false s.data.toList = e2 at *
  have HE := Lib.hid her
  clear her hm1 hm hb
  unfold recA at *
  go_enter Tryd.func36, Tryd.ntmps36
  go_wp2_with (first
    | (go_at_call 78; refine (HS.out _ HM.out).mono ?_; rintro e w' ⟨rfl, hb'⟩; obtain ⟨hcc, hff⟩ := bcell hb'; have hbb := HB.out.trans (hb'.mono HB.out.size); clear hb')
    | (go_at_call 79; refine (HF.out _ HM.out).mono ?_; rintro e w' ⟨rfl, hb'⟩; obtain ⟨hcc, hff⟩ := bcell hb'; have hbb := HB.out.trans (hb'.mono HB.out.size); clear hb'))
  all_goals
    go_ret
    refine ⟨ret_int ?_, by first | exact HB.out | assumption⟩
    rw [← HE.out]
    clear HE HS HF HM HB
    simp only [beq_iff_eq, beq_eq_false_iff_ne, bne_iff_ne, bne_eq_false_iff_eq, List.isEmpty_iff, Bool.not_eq_true', Bool.not_eq_false', ne_eq, Int.natCast_eq_zero] at *
    repeat' split
    all_goals first | rfl | omega | (simp_all; done) | (exfalso; simp_all; omega)

set_option maxHeartbeats 4000000 in
set_option maxRecDepth 100000 in
theorem refRecord_any (k q t : Int) (s h d : ByteArray) (w : World) (hs : s.size ≤ 1048576) (hh : h.size ≤ 1048576) (hd : d.size ≤ 1048576) :
    Calls Tryd.prog 35 #[.agg (recA k q t s h d)] w fun e w' => e = .returned (.int .i64 (recErr (rcOf k q t s h d))) ∧ Below w.heap.size w w' := by
  obtain ⟨er, her⟩ : ∃ er, recErr (rcOf k q t s h d) = er := ⟨_, rfl⟩
  rw [her]
  unfold recErr rcOf far at her
  simp only [Array.length_toList, ByteArray.size_data, empty_iff] at her
  have HS := Lib.hid fun w => refSubject_any s w hs
  have HF := Lib.hid fun w => refFilter_any s w hs
  have hb := (Below.refl w.heap.size w).alloc (Nat.le_refl _) (.cells (recA k q t s h d) 29)
  have HB := Lib.hid hb
  generalize err true s.data.toList = e1 at *
  generalize err false s.data.toList = e2 at *
  have HE := Lib.hid her
  clear her hb
  unfold recA at *
  go_enter Tryd.func35, Tryd.ntmps35
  go_wp2_with (first
    | (go_at_call 75; refine (in_any _ _ _ _).mono ?_; rintro e w'' ⟨rfl, rfl⟩)
    | (go_at_call 76; refine (HS.out _).mono ?_; rintro e w' ⟨rfl, hb'⟩; obtain ⟨hcc, hff⟩ := bcell hb'; have hbb := HB.out.trans (hb'.mono HB.out.size); clear hb')
    | (go_at_call 77; refine (HF.out _).mono ?_; rintro e w' ⟨rfl, hb'⟩; obtain ⟨hcc, hff⟩ := bcell hb'; have hbb := HB.out.trans (hb'.mono HB.out.size); clear hb'))
  all_goals
    go_ret
    refine ⟨ret_int ?_, by first | exact HB.out | assumption⟩
    rw [← HE.out]
    clear HE HS HF HB
    simp only [toList_app, List.append_eq_nil_iff, beq_iff_eq, beq_eq_false_iff_ne, bne_iff_ne, bne_eq_false_iff_eq, List.isEmpty_iff, Bool.not_eq_true', Bool.not_eq_false', ne_eq, Int.natCast_eq_zero] at *
    repeat' split
    all_goals first | rfl | omega | (simp_all; done) | (exfalso; simp_all; omega)
end Go.Proofs.YthhingihjpkipaaDoor.Rec

namespace Go.Proofs.YthhingihjpkipaaDoor.Sto
open Go.RowKit Heap
open Subj (Tok ML pieces takes)
open Rec (Rc recErr far recA rcOf)
open Idx (Ents ptrV idxL)
open Shf (XAt NextX getL dropL putL SortedE)

def recC (r : Rc) : List Value := [.int .i64 r.kind, .int .i64 r.seq, .int .i64 r.time, .string ⟨r.subj.toArray⟩, .string ⟨r.head.toArray⟩, .string ⟨r.data.toArray⟩]
def recsV (L : List Rc) : List Value := L.flatMap recC

theorem recsV_cons (r : Rc) (L : List Rc) : recsV (r :: L) = recC r ++ recsV L := rfl
theorem recsV_len (L : List Rc) : (recsV L).length = L.length * 6 := by
  induction L with
  | nil => rfl
  | cons p l ih =>
    rw [recsV_cons, List.length_append, ih]
    simp [recC]; omega
theorem recsV_append (a b : List Rc) : recsV (a ++ b) = recsV a ++ recsV b := by simp [recsV]
theorem recsV_one (L : List Rc) : ∀ u ∈ recsV L, u.oneCell' = true := by
  intro u hu
  obtain ⟨e, _, h⟩ := List.mem_flatMap.1 hu
  simp only [recC, List.mem_cons, List.not_mem_nil, or_false] at h
  rcases h with rfl | rfl | rfl | rfl | rfl | rfl <;> rfl
theorem recsV_take (A : List Rc) (k : Nat) : (recsV A).take (k * 6) = recsV (A.take k) := by
  induction A generalizing k with
  | nil => simp [recsV]
  | cons a r ih =>
    cases k with
    | zero => simp [recsV]
    | succ k =>
      have hl : (recC a).length = 6 := rfl
      rw [recsV_cons, List.take_append, hl, show (k + 1) * 6 - 6 = k * 6 by omega, ih, List.take_of_length_le (by rw [hl]; omega)]
      rfl
theorem recsV_drop (A : List Rc) (k : Nat) : (recsV A).drop (k * 6) = recsV (A.drop k) := by
  induction A generalizing k with
  | nil => simp [recsV]
  | cons a r ih =>
    cases k with
    | zero => simp [recsV]
    | succ k =>
      have hl : (recC a).length = 6 := rfl
      rw [recsV_cons, List.drop_append, hl, show (k + 1) * 6 - 6 = k * 6 by omega, ih, List.drop_of_length_le (by rw [hl]; omega)]
      rfl
theorem recsV_at (l : List Rc) (k : Nat) (p : Rc) (h : l[k]? = some p) (i : Nat) (hi : i < 6) : (recsV l)[k * 6 + i]? = (recC p)[i]? := by
  induction l generalizing k with
  | nil => simp at h
  | cons q l ih =>
    rw [recsV_cons]
    cases k with
    | zero =>
      simp at h; subst h
      rw [List.getElem?_append_left (by simp [recC]; omega)]
      simp
    | succ k =>
      rw [List.getElem?_append_right (by simp [recC]; omega)]
      rw [show (k + 1) * 6 + i - (recC q).length = k * 6 + i by simp [recC]; omega]
      exact ih k (by simpa using h)

/-- A record's cells in a row of records. -/
theorem cells_rec {w : World} {g off n cap : Nat} {l : List Rc} (h : Row w 29 6 (.slice (some ⟨g, off, none⟩) n cap) n (recsV l)) (k : Nat) (p : Rc) (hp : l[k]? = some p) (hk : k < n) :
    w.cell? ⟨g, off + k * 6, none⟩ = some (.int .i64 p.kind) ∧ w.cell? ⟨g, off + k * 6 + 1, none⟩ = some (.int .i64 p.seq) ∧ w.cell? ⟨g, off + k * 6 + 2, none⟩ = some (.int .i64 p.time) ∧
      w.cell? ⟨g, off + k * 6 + 3, none⟩ = some (.string ⟨p.subj.toArray⟩) ∧ w.cell? ⟨g, off + k * 6 + 4, none⟩ = some (.string ⟨p.head.toArray⟩) ∧ w.cell? ⟨g, off + k * 6 + 5, none⟩ = some (.string ⟨p.data.toArray⟩) := by
  have e : ∀ i, i < 6 → w.cell? ⟨g, off + k * 6 + i, none⟩ = (recC p)[i]? := fun i hi => by
    rw [show off + k * 6 + i = off + (k * 6 + i) by omega, (h.cell (k * 6 + i) (by omega)).1, recsV_at l k p hp i hi]
  exact ⟨e 0 (by omega), e 1 (by omega), e 2 (by omega), e 3 (by omega), e 4 (by omega), e 5 (by omega)⟩

/-- A record as a value, of six parts that are told apart. -/
structure Parts (r : Rc) (s h d : ByteArray) : Prop where
  s1 : (⟨r.subj.toArray⟩ : ByteArray) = s
  h1 : (⟨r.head.toArray⟩ : ByteArray) = h
  d1 : (⟨r.data.toArray⟩ : ByteArray) = d
  s2 : s.data.toList = r.subj
  h2 : h.data.toList = r.head
  d2 : d.data.toList = r.data
  s3 : s.size = r.subj.length
  h3 : h.size = r.head.length
  d3 : d.size = r.data.length

theorem parts (r : Rc) : ∃ s h d, Parts r s h d := ⟨_, _, _, rfl, rfl, rfl, by simp, by simp, by simp, by show r.subj.toArray.size = _; simp, by show r.head.toArray.size = _; simp, by show r.data.toArray.size = _; simp⟩

theorem Parts.rc {r : Rc} {s h d : ByteArray} (p : Parts r s h d) : rcOf r.kind r.seq r.time s h d = r := by
  unfold rcOf
  rw [p.s2, p.h2, p.d2]

/-- A store in memory. -/
structure SAt (W : World) (M : Nat → Prop) (x N : Nat) (I : Ents) (D : Nat) (v : Value) (L : List Rc) (bt last : Int) (w : World) : Prop where
  idx : XAt W M x N I w
  cell : w.heap[D]? = some (.cells #[v, ptrV x, .int .i64 bt, .int .i64 last] 84 (0, 0))
  row : Row w 29 6 v L.length (recsV L)
  mD : ¬ M D
  oldD : W.heap.size ≤ D
  vM : ∀ k, own v k → ¬ M k ∧ W.heap.size ≤ k

theorem fourS {D : Nat} {a0 a1 a2 a3 : Value} {t : TypeId} {w : World} (h : w.heap[D]? = some (.cells #[a0, a1, a2, a3] t (0, 0))) :
    w.cell? ⟨D, 0, none⟩ = some a0 ∧ w.cell? ⟨D, 1, none⟩ = some a1 ∧ w.cell? ⟨D, 2, none⟩ = some a2 ∧ w.cell? ⟨D, 3, none⟩ = some a3 ∧ ∀ j, w.frozen? ⟨D, j, none⟩ = false := by
  refine ⟨?_, ?_, ?_, ?_, fun j => frozen_of_row w D j _ _ h⟩
  · rw [cell_of_row w D 0 _ _ _ h]; rfl
  · rw [cell_of_row w D 1 _ _ _ h]; rfl
  · rw [cell_of_row w D 2 _ _ _ h]; rfl
  · rw [cell_of_row w D 3 _ _ _ h]; rfl

theorem ne_rec {D n : Nat} {w : World} {v a0 a1 a2 a3 : Value} {xs : List Value} (h : w.heap[D]? = some (.cells #[a0, a1, a2, a3] 84 (0, 0))) (hr : Row w 29 6 v n xs) : ¬ own v D := fun ho => by
  rcases hr.2 with ⟨rfl, _⟩ | ⟨g, off, cap, cur, rfl, hg, _⟩
  · simp [own, Value.ownBlock] at ho
  · simp [own, Value.ownBlock] at ho
    subst ho
    rw [h] at hg
    simp at hg

section
variable {W w w1 : World} {M : Nat → Prop} {x N N' D : Nat} {I I' : Ents} {v v' : Value} {L L' : List Rc} {bt last bt' last' : Int}

theorem SAt.lt (h : SAt W M x N I D v L bt last w) : D < w.heap.size := heap_lt h.cell
theorem SAt.ne (h : SAt W M x N I D v L bt last w) : ¬ own v D := ne_rec h.cell h.row

/-- All but the index is turned. -/
theorem SAt.turn (h : SAt W M x N I D v L bt last w) (ht : Heap.Touch (fun k => own v k ∨ k = D) w w1) (hc : w1.heap[D]? = some (.cells #[v', ptrV x, .int .i64 bt', .int .i64 last'] 84 (0, 0)))
    (hr : Row w1 29 6 v' L'.length (recsV L')) (ho : ∀ k, own v' k → own v k ∨ w.heap.size ≤ k) : SAt W M x N I D v' L' bt' last' w1 := by
  have hb := h.idx.below
  refine ⟨h.idx.kept (hb.trans (ht.below hb.size fun k hk => ?_)) ht.size (ht.same fun k hm hk => ?_), hc, hr, h.mD, h.oldD, fun k hk => ?_⟩
  · rcases hk with hk | rfl
    · exact (h.vM k hk).2
    · exact h.oldD
  · rcases hk with hk | rfl
    · exact (h.vM k hk).1 hm
    · exact h.mD hm
  · rcases ho k hk with e | e
    · exact h.vM k e
    · exact ⟨fun hm => by have := h.idx.bM hm; omega, Nat.le_trans hb.size e⟩

theorem SAt.next (h : SAt W M x N I D v L bt last w) (hb : Below w.heap.size w w1) : SAt W M x N I D v L bt last w1 :=
  h.turn (Heap.Touch.ofBelow hb) ((hb.block D h.lt).trans h.cell) (h.row.kept fun k _ hk => hb.block k hk) fun _ hk => .inl hk

theorem touch_D (w : World) (D j : Nat) (u : Value) : Heap.Touch (fun k => k = D) w (w.setCell ⟨D, j, none⟩ u) := Heap.Touch.setCell (F := fun k => k = D) (p := ⟨D, j, none⟩) (Heap.Touch.refl _ w) (.inl rfl) _

theorem SAt.setBytes (h : SAt W M x N I D v L bt last w) (b : Int) : SAt W M x N I D v L b last (w.setCell ⟨D, 2, none⟩ (.int .i64 b)) :=
  h.turn ((touch_D w D 2 _).mono fun _ _ e => .inr e) (heap_setCell_same _ _ _ _ _ _ h.cell) (h.row.kept fun k hk hlt => (touch_D w D 2 _).block k hlt fun e => h.ne (e ▸ hk)) fun _ hk => .inl hk

theorem SAt.setLast (h : SAt W M x N I D v L bt last w) (b : Int) : SAt W M x N I D v L bt b (w.setCell ⟨D, 3, none⟩ (.int .i64 b)) :=
  h.turn ((touch_D w D 3 _).mono fun _ _ e => .inr e) (heap_setCell_same _ _ _ _ _ _ h.cell) (h.row.kept fun k hk hlt => (touch_D w D 3 _).block k hlt fun e => h.ne (e ▸ hk)) fun _ hk => .inl hk

/-- Another list, of the same array or of a new one. -/
theorem SAt.setList (h : SAt W M x N I D v L bt last w) (ht : Heap.Touch (own v) w w1) (hr : Row w1 29 6 v' L'.length (recsV L')) (ho : ∀ k, own v' k → own v k ∨ w.heap.size ≤ k) :
    SAt W M x N I D v' L' bt last (w1.setCell ⟨D, 0, none⟩ v') := by
  have hD1 : w1.heap[D]? = _ := (ht.block D h.lt h.ne).trans h.cell
  have hne : ¬ own v' D := ne_rec hD1 hr
  exact h.turn ((ht.mono fun _ _ e => .inl e).setCell (.inl (.inr rfl)) _) (by rw [heap_setCell_same _ _ _ _ _ _ hD1]; rfl) (hr.kept fun k hk hlt => (touch_D w1 D 0 _).block k hlt fun e => hne (e ▸ hk)) ho

/-- The index has been called. -/
theorem SAt.call (h : SAt W M x N I D v L bt last w) (hn : NextX W M x N' w I' w1) : ∃ M', SAt W M' x N' I' D v L bt last w1 ∧ ∀ k, M' k → M k ∨ w.heap.size ≤ k := by
  obtain ⟨⟨M', hX, hM⟩, ht⟩ := hn
  refine ⟨M', ⟨hX, (ht.block D h.lt h.mD).trans h.cell, h.row.kept fun k hk hlt => ht.block k hlt (h.vM k hk).1, fun hk => ?_, h.oldD, fun k hk => ⟨fun hm => ?_, (h.vM k hk).2⟩⟩, hM⟩
  · rcases hM D hk with e | e
    · exact h.mD e
    · have := h.lt; omega
  · rcases hM k hm with e | e
    · exact (h.vM k hk).1 e
    · have := h.row.lt k hk; omega
end
end Go.Proofs.YthhingihjpkipaaDoor.Sto

namespace Go.Proofs.YthhingihjpkipaaDoor.Sto
open Go.RowKit Heap
open Subj (Tok ML pieces takes)
open Rec (Rc recErr far recA rcOf)
open Idx (Ents ptrV mem_take_get mem_drop_get)
open Shf (XAt NextX)

/-- The comparison. -/
def cmpR (q : Int) (r : Rc) : Int := IntKind.i64.wrap (r.seq - q)

theorem cmpR_in {q : Int} {r : Rc} (h1 : 0 ≤ r.seq ∧ r.seq ≤ far) (h2 : -4611686018427387904 ≤ q ∧ q ≤ 9223372036854775807) : cmpR q r = r.seq - q := by
  unfold cmpR
  unfold far at h1
  exact IntWalk.i64_in _ (by omega)

theorem cmpR_zero {q : Int} {r : Rc} (h1 : 0 ≤ r.seq ∧ r.seq ≤ far) (h2 : -9223372036854775808 ≤ q ∧ q ≤ 9223372036854775807) (h : cmpR q r = 0) : r.seq = q := by
  unfold cmpR at h
  unfold far at h1
  rw [IntKind.wrap_i64] at h
  omega

set_option maxRecDepth 100000 in
theorem cmp_rec (r : Rc) (q : Int) (w : World) : Calls Tryd.prog 82 #[.agg #[.int .i64 r.kind, .int .i64 r.seq, .int .i64 r.time, .string ⟨r.subj.toArray⟩, .string ⟨r.head.toArray⟩, .string ⟨r.data.toArray⟩], .int .i64 q] w fun e w' => e = .returned (.int .i64 (cmpR q r)) ∧ Below w.heap.size w w' := by
  obtain ⟨s, h, d, hp⟩ := parts r
  rw [hp.s1, hp.h1, hp.d1]
  obtain ⟨z, hz⟩ : ∃ z, cmpR q r = z := ⟨_, rfl⟩
  have HZ := Lib.hid hz
  rw [hz]
  unfold cmpR at hz
  go_enter Tryd.func82, Tryd.ntmps82
  go_wp2
  go_ret
  exact ⟨ret_int rfl, (Below.refl _ _).alloc (Nat.le_refl _) _⟩

/-- Where a search ends. -/
structure Found (L : List Rc) (q : Int) (i : Nat) (fd : Bool) : Prop where
  le : i ≤ L.length
  yes : fd = true → ∃ r, L[i]? = some r ∧ cmpR q r = 0
  no : fd = false → ∀ r, L[i]? = some r → cmpR q r ≠ 0
  sides : (∀ (j k : Nat) (a b : Rc), j < k → L[j]? = some a → L[k]? = some b → cmpR q a < cmpR q b) → (∀ r ∈ L.take i, cmpR q r < 0) ∧ ∀ r ∈ L.drop i, 0 ≤ cmpR q r

def Mono (L : List Rc) (q : Int) : Prop := ∀ (j k : Nat) (a b : Rc), j < k → L[j]? = some a → L[k]? = some b → cmpR q a < cmpR q b

section
variable {w : World}

set_option maxHeartbeats 4000000 in
set_option maxRecDepth 100000 in
theorem search_rec {v : Value} {L : List Rc} (hrow : Row w 29 6 v L.length (recsV L)) (hfew : L.length ≤ 100000) (q : Int) :
    Calls Tryd.prog 81 #[v, .int .i64 q, .func (.func 82) #[] #[]] w fun e w' =>
      ∃ i fd, e = .returned (.tuple #[.int .i64 (i : Nat), .bool fd]) ∧ Found L q i fd ∧ Below w.heap.size w w' := by
  obtain ⟨n, hn⟩ : ∃ n, L.length = n := ⟨_, rfl⟩
  rw [hn] at hrow hfew
  have HN := Lib.hid hn
  clear hn
  rcases hrow.2 with ⟨e, h0⟩ | ⟨g, off, cap, cur, e, hg, hle, hcapm, _⟩
  · rw [e]
    subst h0
    have hk0 : L = [] := List.eq_nil_of_length_eq_zero HN.out
    have HF := Lib.hid (show Found L q 0 false from ⟨Nat.zero_le _, (fun h => by cases h), (fun _ r h => by rw [hk0] at h; simp at h), fun _ => ⟨(fun r h => by simp at h), (fun r h => by rw [hk0] at h; simp at h)⟩⟩)
    clear hrow e hk0
    go_enter Tryd.func81, Tryd.ntmps81
    go_wp2_with fail
    go_loopw [9, 10] (fun a b wr => a = .int .i64 0 ∧ b = .int .i64 0 ∧ wr = w) (fun _ _ _ => 0)
    case atStart => exact ⟨rfl, rfl, rfl⟩
    case round =>
      obtain ⟨rfl, rfl, rfl⟩ := hrel
      go_wp2
      go_ret2
      exact ⟨0, false, rfl, HF.out, Below.refl _ _⟩
  · rw [e] at hrow ⊢
    have HR := Lib.hid hrow
    have hglt : g < w.heap.size := heap_lt hg
    clear hrow e hg
    go_enter Tryd.func81, Tryd.ntmps81
    go_wp2_with fail
    go_loopw [9, 10] (fun a b wr => ∃ lo hi : Nat, a = .int .i64 lo ∧ b = .int .i64 hi ∧ lo ≤ hi ∧ hi ≤ n ∧ Below w.heap.size w wr ∧ Hid (Mono L q → (∀ j k, j < lo → L[j]? = some k → cmpR q k < 0) ∧ (∀ j k, hi ≤ j → L[j]? = some k → 0 ≤ cmpR q k))) (fun a b _ => (intOf b).toNat - (intOf a).toNat)
    case atStart => exact ⟨0, n, rfl, rfl, Nat.zero_le _, Nat.le_refl _, Below.refl _ _, Lib.hid fun _ => ⟨fun j k hj => absurd hj (Nat.not_lt_zero _), fun j k hj hk => by have h1 := (List.getElem?_eq_some_iff.1 hk).1; rw [HN.out] at h1; omega⟩⟩
    case round =>
      obtain ⟨lo, hi, rfl, rfl, hlh, hin, BW, I⟩ := hrel
      have BB := Lib.hid BW
      by_cases hlt : lo < hi
      · obtain ⟨k, hk⟩ : ∃ k, L[(lo + hi) / 2]? = some k := ⟨_, List.getElem?_eq_getElem (by rw [HN.out]; omega)⟩
        have hrow' := HR.out.kept (w' := wr) (fun j _ hj => BW.block j hj)
        obtain ⟨m0, m1, m2, m3, m4, m5⟩ := cells_rec hrow' ((lo + hi) / 2) k hk (by omega)
        have hc := cmp_rec k q wr
        have K := Lib.hid hk
        obtain ⟨s, h, d, hp⟩ := parts k
        rw [hp.s1] at m3 hc
        rw [hp.h1] at m4 hc
        rw [hp.d1] at m5 hc
        clear hrow' hk BW hp
        by_cases hyx : cmpR q k < 0
        · generalize hz : cmpR q k = z at hc hyx
          have Z := Lib.hid hz
          clear hz
          go_wp2_with fail
          refine hc.mono ?_
          rintro e w' ⟨rfl, hb'⟩
          go_wp2_with fail
          refine ⟨⟨(lo + hi) / 2 + 1, hi, by rw [show ((lo : Int) + (hi : Int)) / 2 + 1 = (((lo + hi) / 2 + 1 : Nat) : Int) by omega], rfl, by omega, hin, BB.out.trans (hb'.mono BB.out.size), Lib.hid fun hP => ⟨fun j k' hj hk' => ?_, (I.out hP).2⟩⟩, by simp [intOf]; omega⟩
          by_cases e : j = (lo + hi) / 2
          · subst e
            rw [K.out] at hk'
            cases hk'
            rw [Z.out]; exact hyx
          · have h9 := hP j _ _ _ (show j < (lo + hi) / 2 by omega) hk' K.out
            rw [Z.out] at h9
            omega
        · generalize hz : cmpR q k = z at hc hyx
          have Z := Lib.hid hz
          clear hz
          go_wp2_with fail
          refine hc.mono ?_
          rintro e w' ⟨rfl, hb'⟩
          go_wp2_with fail
          refine ⟨⟨lo, (lo + hi) / 2, rfl, by rw [show ((lo : Int) + (hi : Int)) / 2 = (((lo + hi) / 2 : Nat) : Int) by omega], by omega, by omega, BB.out.trans (hb'.mono BB.out.size), Lib.hid fun hP => ⟨(I.out hP).1, fun j k' hj hk' => ?_⟩⟩, by simp [intOf]; omega⟩
          by_cases e : j = (lo + hi) / 2
          · subst e
            rw [K.out] at hk'
            cases hk'
            rw [Z.out]; omega
          · have h9 := hP _ j _ _ (show (lo + hi) / 2 < j by omega) K.out hk'
            rw [Z.out] at h9
            omega
      · obtain rfl : hi = lo := by omega
        have HLO := Lib.hid (show Mono L q → (∀ y ∈ L.take hi, cmpR q y < 0) ∧ (∀ y ∈ L.drop hi, 0 ≤ cmpR q y) from fun hP =>
          ⟨fun y hy => let ⟨j, hj, e⟩ := mem_take_get hy; (I.out hP).1 j y hj e, fun y hy => let ⟨j, hj, e⟩ := mem_drop_get hy; (I.out hP).2 j y hj e⟩)
        by_cases hlt2 : hi < n
        · obtain ⟨k, hk⟩ : ∃ k, L[hi]? = some k := ⟨_, List.getElem?_eq_getElem (by rw [HN.out]; omega)⟩
          have hrow' := HR.out.kept (w' := wr) (fun j _ hj => BW.block j hj)
          obtain ⟨m0, m1, m2, m3, m4, m5⟩ := cells_rec hrow' hi k hk (by omega)
          have hc := cmp_rec k q wr
          have K := Lib.hid hk
          obtain ⟨s, h, d, hp⟩ := parts k
          rw [hp.s1] at m3 hc
          rw [hp.h1] at m4 hc
          rw [hp.d1] at m5 hc
          clear hrow' hk BW hp
          by_cases hyx : cmpR q k = 0
          · have Z := Lib.hid hyx
            rw [hyx] at hc
            clear hyx
            go_wp2_with fail
            refine hc.mono ?_
            rintro e w' ⟨rfl, hb'⟩
            go_wp2_with fail
            go_ret2
            exact ⟨hi, true, rfl, ⟨by rw [HN.out]; exact hin, fun _ => ⟨k, K.out, Z.out⟩, (fun h => by cases h), HLO.out⟩, BB.out.trans (hb'.mono BB.out.size)⟩
          · generalize hz : cmpR q k = z at hc hyx
            have Z := Lib.hid hz
            have hz0 : (z == 0) = false := by simpa using hyx
            clear hz
            go_wp2_with fail
            refine hc.mono ?_
            rintro e w' ⟨rfl, hb'⟩
            go_wp2_with fail
            go_ret2
            exact ⟨hi, false, by simp [hz0], ⟨by rw [HN.out]; exact hin, (fun h => by cases h), (fun _ r hr => by
              rw [K.out] at hr
              cases hr
              rw [Z.out]; exact hyx), HLO.out⟩, BB.out.trans (hb'.mono BB.out.size)⟩
        · obtain rfl : hi = n := by omega
          have HF := Lib.hid (show Found L q hi false from ⟨by rw [HN.out]; exact hin, (fun h => by cases h), (fun _ r hr => by
            have h1 := (List.getElem?_eq_some_iff.1 hr).1
            rw [HN.out] at h1; omega), HLO.out⟩)
          clear BW
          go_wp2
          go_ret2
          exact ⟨hi, false, rfl, HF.out, BB.out⟩

variable {W : World} {M : Nat → Prop} {x N D : Nat} {I : Ents} {v : Value} {L : List Rc} {bt last : Int}

set_option maxRecDepth 100000 in
theorem place_rec (h : SAt W M x N I D v L bt last w) (hfew : L.length ≤ 100000) (q : Int) :
    Calls Tryd.prog 39 #[.pointer (some ⟨D, 0, none⟩), .int .i64 q] w fun e w' =>
      ∃ i fd, e = .returned (.tuple #[.int .i64 (i : Nat), .bool fd]) ∧ Found L q i fd ∧ Below w.heap.size w w' := by
  obtain ⟨c0, c1, c2, c3, cf⟩ := fourS h.cell
  have hlt := h.lt
  have HS := Lib.hid (search_rec h.row hfew q)
  clear h
  go_enter Tryd.func39, Tryd.ntmps39
  go_wp2_with fail
  refine HS.out.mono ?_
  rintro e w' ⟨i, fd, rfl, hp, hb'⟩
  have HF := Lib.hid (show Found L q i fd ∧ Below w.heap.size w w' from ⟨hp, hb'⟩)
  clear hp hb'
  go_wp2
  go_ret2
  exact ⟨i, fd, rfl, HF.out⟩

/-- Every number's place among rising ones. -/
theorem Found.in {i : Nat} {fd : Bool} {q : Int} (h : Found L q i fd) (hr : L.Pairwise fun a b => a.seq < b.seq) (hs : ∀ r ∈ L, 0 ≤ r.seq ∧ r.seq ≤ far) (hq : -4611686018427387904 ≤ q ∧ q ≤ 9223372036854775807) :
    (∀ r ∈ L.take i, r.seq < q) ∧ (∀ r ∈ L.drop i, q ≤ r.seq) ∧ fd = hasSeq L q ∧ (fd = true → ∃ r, L[i]? = some r ∧ r.seq = q) := by
  have hz : ∀ r ∈ L, cmpR q r = r.seq - q := fun r hr => cmpR_in (hs r hr) hq
  have hm : Mono L q := fun j k a b hjk h1 h2 => by
    rw [hz a (List.mem_of_getElem? h1), hz b (List.mem_of_getElem? h2)]
    obtain ⟨hi, rfl⟩ := List.getElem?_eq_some_iff.1 h1
    obtain ⟨hj, rfl⟩ := List.getElem?_eq_some_iff.1 h2
    have := List.pairwise_iff_getElem.1 hr j k hi hj hjk
    omega
  obtain ⟨hl, hu⟩ := h.sides hm
  have hl' : ∀ r ∈ L.take i, r.seq < q := fun r hr => by
    have := hl r hr
    rw [hz r (List.mem_of_mem_take hr)] at this; omega
  have hu' : ∀ r ∈ L.drop i, q ≤ r.seq := fun r hr => by
    have := hu r hr
    rw [hz r (List.mem_of_mem_drop hr)] at this; omega
  refine ⟨hl', hu', ?_, fun hf => ?_⟩
  · cases fd with
    | true =>
      obtain ⟨r, h1, h2⟩ := h.yes rfl
      have h3 := List.mem_of_getElem? h1
      rw [hz r h3] at h2
      symm
      unfold hasSeq
      rw [List.any_eq_true]
      exact ⟨r, h3, by simp; omega⟩
    | false =>
      symm
      unfold hasSeq
      rw [List.any_eq_false]
      intro r hrm he
      have he : r.seq = q := by simpa using he
      rw [← List.take_append_drop i L, List.mem_append] at hrm
      rcases hrm with h1 | h1
      · have := hl' r h1; omega
      · obtain ⟨j, hj, e⟩ := mem_drop_get h1
        by_cases e3 : j = i
        · subst e3
          have h4 := h.no rfl r e
          rw [hz r (List.mem_of_getElem? e)] at h4
          omega
        · have hjl := (List.getElem?_eq_some_iff.1 e).1
          obtain ⟨k, hk⟩ : ∃ k, L[i]? = some k := ⟨_, List.getElem?_eq_getElem (by omega)⟩
          have h5 := hm i j k r (by omega) hk e
          rw [hz k (List.mem_of_getElem? hk), hz r (List.mem_of_getElem? e)] at h5
          have h6 := hu' k (List.mem_iff_getElem?.2 ⟨0, by rw [List.getElem?_drop, Nat.add_zero]; exact hk⟩)
          omega
  · subst hf
    obtain ⟨r, h1, h2⟩ := h.yes rfl
    rw [hz r (List.mem_of_getElem? h1)] at h2
    exact ⟨r, h1, by omega⟩
end
end Go.Proofs.YthhingihjpkipaaDoor.Sto

namespace Go.Proofs.YthhingihjpkipaaDoor.Sto.Del
open Go.RowKit Heap

theorem step_append_runI {P : Program} {ops : Array Oper} {o : Oper} {a : Act} {w : World} {K : Act → World → Prop} {Q : Exit → Act → World → Prop} {E : Prop}
    (hg : o.guard = none) (s x : Operand) (t : TypeId) (hop : o.op = Op.call { callee := Callee.builtin Builtin.append, args := #[s, x], argTypes := #[t, t] })
    (v u : Value) (hs : a.eval s = v) (hx : a.eval x = u) {v' : Value} {w' : World} (hr : (Builtin.append_ #[t, t] o.type #[v, u]).run P w = .ok v' w') (hK : K (a.put o.dst v') w') :
    if Region.wanted o (yielded ops a.tmps) = true then Oper.wp P o a w K Q else E := by
  have hw : Region.wanted o (yielded ops a.tmps) = true := by simp [Region.wanted, hg]
  rw [if_pos hw]
  unfold Oper.wp execOp
  simp only [hop, resolve, invoke, builtin, Sem.run_bind, Sem.run_pure, Result.andThen_ok, List.map_toArray, List.map_cons, List.map_nil, hs, hx, hr]
  exact hK

theorem info_el : (Tryd.prog.info? 29).map (fun i => (i.zero, i.size, i.bytes)) = some (some (Value.agg #[.int .i64 0, .int .i64 0, .int .i64 0, .string ⟨#[]⟩, .string ⟨#[]⟩, .string ⟨#[]⟩]), 6, 72) := by kernel_rfl

theorem setRow_other (w : World) (g k : Nat) (cs : Array Value) (h : k ≠ g) : (w.setRow g cs).heap[k]? = w.heap[k]? := by
  simp only [World.setRow, Array.getElem?_modify]
  rw [if_neg (fun e => h e.symm)]

theorem touch_setRow {F : Nat → Prop} {a w : World} (h : Heap.Touch F a w) {g : Nat} (hg : F g) (cs : Array Value) : Heap.Touch F a (w.setRow g cs) :=
  ⟨h.os, h.tape, h.output, by simp [World.setRow]; exact h.size, fun k hk hn => by rw [setRow_other _ _ _ _ (fun e => hn (by rw [e]; exact hg))]; exact h.block k hk hn⟩

theorem erase_list {cur xs : List Value} {off i m : Nat} (hi : i ≤ m) (h3 : off + (m + 1) * 6 ≤ cur.length) (hx : (cur.drop off).take ((m + 1) * 6) = xs) :
    let c1 := cur.take (off + i * 6) ++ xs.drop ((i + 1) * 6) ++ cur.drop (off + i * 6 + (m - i) * 6)
    c1.length = cur.length ∧ (c1.drop off).take (m * 6) = xs.take (i * 6) ++ xs.drop ((i + 1) * 6) := by
  have hxl : xs.length = (m + 1) * 6 := by rw [← hx, List.length_take, List.length_drop]; omega
  intro c1
  have hP : (cur.take off).length = off := by rw [List.length_take]; omega
  have e1 : cur.take (off + i * 6) = cur.take off ++ xs.take (i * 6) := by
    rw [List.take_add, ← hx, List.take_take, show min (i * 6) ((m + 1) * 6) = i * 6 by omega]
  refine ⟨?_, ?_⟩
  · show (cur.take (off + i * 6) ++ xs.drop ((i + 1) * 6) ++ cur.drop (off + i * 6 + (m - i) * 6)).length = _
    simp only [List.length_append, List.length_take, List.length_drop, hxl]; omega
  · show ((cur.take (off + i * 6) ++ xs.drop ((i + 1) * 6) ++ cur.drop (off + i * 6 + (m - i) * 6)).drop off).take (m * 6) = _
    rw [e1, List.append_assoc, List.append_assoc, List.drop_append, hP, Nat.sub_self, List.drop_zero, List.drop_of_length_le (by omega), List.nil_append, ← List.append_assoc]
    have hl : (xs.take (i * 6) ++ xs.drop ((i + 1) * 6)).length = m * 6 := by simp only [List.length_append, List.length_take, List.length_drop, hxl]; omega
    rw [List.take_append, hl, Nat.sub_self, List.take_zero, List.append_nil, List.take_of_length_le (by omega)]

section
variable {w : World} {m i : Nat} {xs : List Value}

set_option maxHeartbeats 4000000 in
set_option maxRecDepth 100000 in
theorem delete_any (g off cap : Nat) (hn : m ≤ 200000) (hi : i ≤ m) (hrow : Row w 29 6 (.slice (some ⟨g, off, none⟩) (m + 1 : Nat) cap) (m + 1) xs) (hones : ∀ u ∈ xs, u.oneCell' = true) :
    Calls Tryd.prog 85 #[.slice (some ⟨g, off, none⟩) (m + 1 : Nat) cap, .int .i64 i, .int .i64 ((i : Int) + 1)] w fun e w' => e = .returned (.slice (some ⟨g, off, none⟩) m cap) ∧ Row w' 29 6 (.slice (some ⟨g, off, none⟩) m cap) m (xs.take (i * 6) ++ xs.drop ((i + 1) * 6)) ∧ Heap.Touch (own (.slice (some ⟨g, off, none⟩) (m + 1 : Nat) cap)) w w' := by
  have hrow2 := hrow.2
  have hxl := hrow.1
  rcases hrow2 with ⟨h2, _⟩ | ⟨g', off', cap', cur, hv, hg, h1, h2, h3, h4⟩
  · cases h2
  simp only [Value.slice.injEq, Option.some.injEq, Addr.mk.injEq] at hv
  obtain ⟨⟨rfl, rfl, _⟩, _, rfl⟩ := hv
  obtain ⟨i0, hi0, hz0, hzs, hzb⟩ := info_parts info_el
  have hlist := erase_list (i := i) (m := m) hi (by rw [Array.length_toList]; omega) h4
  obtain ⟨C1, hC1⟩ : ∃ C1 : Array Value, C1 = (cur.toList.take (off + i * 6) ++ xs.drop ((i + 1) * 6) ++ cur.toList.drop (off + i * 6 + (m - i) * 6)).toArray := ⟨_, rfl⟩
  have hc1s : C1.size = cur.size := by rw [hC1, List.size_toArray, hlist.1, Array.length_toList]
  have hc1t : (C1.toList.drop off).take (m * 6) = xs.take (i * 6) ++ xs.drop ((i + 1) * 6) := by rw [hC1]; exact hlist.2
  have hnl : (xs.drop ((i + 1) * 6)).length = (m - i) * 6 := by rw [List.length_drop, hxl]; omega
  have hap : ∀ ty (a : Addr) c, (m - i = 0 ∨ a = ⟨g, off + (i + 1) * 6, none⟩) → (Builtin.append_ #[22, 22] ty #[.slice (some ⟨g, off, none⟩) i cap, .slice (some a) (m - i) c]).run Tryd.prog w.drew = .ok (.slice (some ⟨g, off, none⟩) m cap) (w.drew.setRow g C1) := fun ty a c ha => by
    have h := run_append_room' (P := Tryd.prog) w.drew 22 ty 29 i0 Tryd.underlying22 hi0 g off i cap cur hg a (m - i) c (xs.drop ((i + 1) * 6)) (by rw [hzs, hnl]) (fun j u hj => by
        have hjl := (List.getElem?_eq_some_iff.1 hj).1
        rw [hnl] at hjl
        rcases ha with ha | ha
        · omega
        · subst ha
          rw [List.getElem?_drop] at hj
          rw [Addr.add_lit]
          have := (hrow.cell ((i + 1) * 6 + j) (by omega)).1
          rw [← Nat.add_assoc] at this
          exact this.trans hj) (fun u hu => hones u (List.mem_of_mem_drop hu)) (by omega) (by rw [hzs, hnl]; omega)
    rw [hzs, hnl, show i + (m - i) = m by omega] at h
    rw [hC1]
    exact h
  have hg1 : (w.drew.setRow g C1).heap[g]? = some (.cells C1 29 (0, 0)) := setRow_heap w.drew g cur C1 _ (0, 0) hg
  have hr1 : Row (w.drew.setRow g C1) 29 6 (.slice (some ⟨g, off, none⟩) (m + 1 : Nat) cap) (m + 1) ((C1.toList.drop off).take ((m + 1) * 6)) :=
    ⟨by rw [List.length_take, List.length_drop, Array.length_toList, hc1s]; omega, .inr ⟨g, off, cap, C1, rfl, hg1, by omega, h2, by rw [hc1s]; omega, rfl⟩⟩
  obtain ⟨w3, hcl, r3, t3⟩ := run_clear_row (P := Tryd.prog) 22 29 0 (Value.agg #[.int .i64 0, .int .i64 0, .int .i64 0, .string ⟨#[]⟩, .string ⟨#[]⟩, .string ⟨#[]⟩]) 6 Tryd.underlying22 Tryd.zeroValue29 rfl (by decide) (by decide) hr1 (show m < m + 1 by omega)
  have HEND := Lib.hid (show Row w3 29 6 (.slice (some ⟨g, off, none⟩) m cap) m (xs.take (i * 6) ++ xs.drop ((i + 1) * 6)) ∧ Heap.Touch (own (.slice (some ⟨g, off, none⟩) (m + 1 : Nat) cap)) w w3 from by
    refine ⟨?_, (touch_setRow (Heap.Touch.refl _ w).drew (by simp [own, Value.ownBlock]) _).after t3⟩
    rw [List.take_take, show min (m * 6) ((m + 1) * 6) = m * 6 by omega, hc1t] at r3
    exact r3)
  rw [show m + 1 - m = 1 by omega] at hcl
  have hij : ¬ ((i : Int) = (i : Int) + 1) := by omega
  have hb1 : (i : Int) ≤ (i : Int) + 1 := by omega
  have hb2 : (i : Int) + 1 ≤ (m : Int) + 1 := by omega
  have hb3 : (0 : Int) ≤ (i : Int) + 1 := by omega
  have htn : ((i : Int) + 1).toNat = i + 1 := by omega
  have hmc : m + 1 ≤ cap := h1
  have hb4 : (i : Int) ≤ (m : Int) + 1 := by omega
  have hb5 : ¬ cap = m := by omega
  have hb6 : (i : Int) ≤ (cap : Int) := by omega
  have hb7 : (m : Int) + 1 ≤ (cap : Int) := by omega
  have hb8 : (m : Int) ≤ (m : Int) + 1 := by omega
  have htm : ((m : Int) + 1).toNat = m + 1 := by omega
  have HROW := Lib.hid (show Row w.drew 29 6 (.slice (some ⟨g, off, none⟩) (m + 1 : Nat) cap) (m + 1) xs from hrow)
  clear hlist hC1 hc1s hc1t hnl hg1 hr1 r3 t3 h1 h2 h3 h4 hg hrow hxl hones
  by_cases hci : cap = i + 1
  · obtain rfl : m = i := by omega
    subst hci
    clear hap hcl HEND hij hb1 hb2 hb3 hb4 hb5 hb6 hb7 hb8 hmc
    obtain ⟨w4, hcl, r4, t4⟩ := run_clear_row (P := Tryd.prog) (w := w.drew) 22 29 0 (Value.agg #[.int .i64 0, .int .i64 0, .int .i64 0, .string ⟨#[]⟩, .string ⟨#[]⟩, .string ⟨#[]⟩]) 6 Tryd.underlying22 Tryd.zeroValue29 rfl (by decide) (by decide) HROW.out (show m < m + 1 by omega)
    have HEND := Lib.hid (show Row w4 29 6 (.slice (some ⟨g, off, none⟩) m (m + 1 : Nat)) m (xs.take (m * 6) ++ xs.drop ((m + 1) * 6)) ∧ Heap.Touch (own (.slice (some ⟨g, off, none⟩) (m + 1 : Nat) (m + 1 : Nat))) w w4 from by
      refine ⟨?_, (Heap.Touch.refl _ w).drew.after t4⟩
      have hxl := HROW.out.1
      rw [show xs.take (m * 6) ++ xs.drop ((m + 1) * 6) = xs.take (m * 6) from by rw [List.drop_of_length_le (by omega), List.append_nil]]
      exact r4)
    rw [show m + 1 - m = 1 by omega] at hcl
    have hij : ¬ ((m : Int) = (m : Int) + 1) := by omega
    have hb1 : (m : Int) ≤ (m : Int) + 1 := by omega
    have hb3 : (0 : Int) ≤ (m : Int) + 1 := by omega
    have hb4 : m ≤ m + 1 := by omega
    clear r4 t4
    go_enter Tryd.func85, Tryd.ntmps85
    go_wp2_with fail
    go_region_law (fail)
    go_wp2_with fail
    go_ret
    exact ⟨rfl, HEND.out⟩
  · have hci' : ¬ cap = i + 1 := hci
    go_enter Tryd.func85, Tryd.ntmps85
    go_wp2_with fail
    go_region_law ((refine step_append_runI rfl _ _ 22 rfl _ _ (by simp [Act.eval, Act.put]) (by simp [Act.eval, Act.put]) (hap _ ⟨g, off + (i + 1) * 6, none⟩ (cap - (i + 1)) (.inr rfl)) ?_))
    go_wp2_with fail
    go_ret
    exact ⟨rfl, HEND.out⟩
end
end Go.Proofs.YthhingihjpkipaaDoor.Sto.Del
