/- Parts of the proof, joined: (*Index).Find, walked.; The index beside a list of entries: what each call does to it, in plain Lean; then the index's contracts, told by the list alone.; Rows of records: a row of the program's, its cells; a record as a value; slices.Equal of records; note.; A store in memory: an index, a list of records, their bytes, the last number.; How many subjects there are; what a store tells of a record, without its index. No program here.; The laws SubjectTwo, SubjectThree, SubjectSelf, walked: each returns true.; rillref.Subject, Filter, walked; and these and subject's as calls that keep.; The first entry for which a predicate holds: slices.IndexFunc, walked (XDrawRun turned to entries).; The reference's index, a list of entries, in memory: at, Get.; The reference's index: Drop. -/
import Derived.Test.YthhgfdeegnimjaaGreatDoorConsumerPlaysUptoM2
import Derived.Test.YthhgfdeegnimjaaGreatDoorConsumerPlaysUptoM10
import Derived.Test.YthhgfdeegnimjaaGreatDoorConsumerPlaysUptoM11
import Derived.Test.YthhgfdeegnimjaaGreatDoorConsumerPlaysUptoM12
import Derived.Test.YthhgfdeegnimjaaGreatDoorConsumerPlaysUptoM13
import Derived.Test.YthhgfdeegnimjaaGreatDoorConsumerPlaysUptoM14
import Derived.Laws.StructEq
import Derived.BigRegion
import Derived.Lib.SliceRun
import Derived.Shelf.SlicesQ.Load
import Derived.Deep.LoopGhost
import Derived.Lib.SlBy
import Derived.Deep.RegionLaw
namespace Go.Proofs.YthhgfdeegnimjaaGreatDoor.Idx
open Go.RowKit Heap
open Subj (Tok ML pieces StrsAt strAt Strs)

section
variable {W w : World} {M : Nat → Prop} {x : Nat} {H : Hp} {vf : Nat → Value} {cnt N : Nat}

end
end Go.Proofs.YthhgfdeegnimjaaGreatDoor.Idx

namespace Go.Proofs.YthhgfdeegnimjaaGreatDoor.Shf
open Go.RowKit Heap Idx
open Subj (Tok ML pieces)

section
variable {H H' : Hp} {x : Nat} {L : Ents}

theorem rel_same (h : Rel H x L) (hd : SameDen H H' x) : Rel H' x L := ⟨fun ts n => (hd ts n).trans (h.den ts n), h.sorted⟩

theorem no_den (h : Rel H x L) {s : Tok} (hn : ∀ m, ¬ Den H x (pieces s) m) : ∀ y ∈ L, y.1 ≠ s := fun y hy e => by
  subst e
  exact hn y.2 (h.mem.2 hy)

theorem no_ent (h : Rel H x L) {s : Tok} (hn : ∀ y ∈ L, y.1 ≠ s) : ∀ m, ¬ Den H x (pieces s) m := fun _m hd => hn _ (h.mem.1 hd) rfl

theorem rel_pos (h : Rel H x L) : (∃ ts m, Den H x ts m) → 1 ≤ L.length := fun ⟨ts, m, hd⟩ => by
  obtain ⟨s, hs, _⟩ := (h.den ts m).1 hd
  exact List.length_pos_of_mem hs

theorem put_rel (h : Rel H x L) {er r cnt' : Nat} {s : Tok} {v : Int} (hp :
    (er ≠ 0 ∧ r = er ∧ cnt' = L.length ∧ SameDen H H' x) ∨
     (er = 0 ∧ (∀ m, ¬ Den H x (pieces s) m) ∧ L.length = 100 ∧ r = 8 ∧ cnt' = L.length ∧ SameDen H H' x) ∨
     (er = 0 ∧ ((∃ m, Den H x (pieces s) m) ∧ cnt' = L.length ∨ (∀ m, ¬ Den H x (pieces s) m) ∧ L.length ≠ 100 ∧ cnt' = L.length + 1) ∧ r = 0 ∧ ∀ us m, Den H' x us m ↔ (us = pieces s ∧ m = v) ∨ (us ≠ pieces s ∧ Den H x us m))) :
    Rel H' x (putL er L s v).1 ∧ r = (putL er L s v).2 ∧ cnt' = (putL er L s v).1.length := by
  rcases hp with ⟨h1, rfl, rfl, h2⟩ | ⟨rfl, h1, h2, rfl, rfl, h3⟩ | ⟨rfl, h1, rfl, h3⟩
  · rw [show putL r L s v = (L, r) from by unfold putL; rw [if_pos h1]]
    exact ⟨rel_same h h2, rfl, rfl⟩
  · have e := no_den h h1
    rcases idxL_cases L s with ⟨e1, _⟩ | ⟨k, p, e1, e2, e3, _⟩
    · rw [show putL 0 L s v = (L, 8) from by unfold putL; rw [if_neg (by simp), if_neg (by omega), if_pos h2]]
      exact ⟨rel_same h h3, rfl, rfl⟩
    · exact absurd e3 (e p (List.mem_of_getElem? e2))
  · rcases idxL_cases L s with ⟨e1, e2⟩ | ⟨k, p, e1, e2, e3, _⟩
    · rcases h1 with ⟨⟨m, hm⟩, _⟩ | ⟨_, h4, rfl⟩
      · exact absurd hm (no_ent h e2 m)
      · rw [show putL 0 L s v = (insL L s v, 0) from by unfold putL; rw [if_neg (by simp), if_neg (by omega), if_neg h4]]
        exact ⟨rel_ins h e2 h3, rfl, (insL_len L s v).symm⟩
    · rcases h1 with ⟨_, rfl⟩ | ⟨h4, _⟩
      · rw [show putL 0 L s v = (setL L k s v, 0) from by unfold putL; rw [if_neg (by simp), if_pos (by omega), e1]; rfl]
        exact ⟨rel_set h e2 e3 h3, rfl, by simp [setL]⟩
      · exact absurd e3 (no_den h h4 p (List.mem_of_getElem? e2))

theorem drop_rel (h : Rel H x L) {er r cnt' : Nat} {s : Tok} (hp :
    (er ≠ 0 ∧ r = er ∧ cnt' = L.length ∧ SameDen H H' x) ∨
     (er = 0 ∧ (∀ m, ¬ Den H x (pieces s) m) ∧ r = 4 ∧ cnt' = L.length ∧ SameDen H H' x) ∨
     (er = 0 ∧ (∃ m, Den H x (pieces s) m) ∧ r = 0 ∧ cnt' = L.length - 1 ∧ ∀ us m, Den H' x us m ↔ us ≠ pieces s ∧ Den H x us m)) :
    Rel H' x (dropL er L s).1 ∧ r = (dropL er L s).2 ∧ cnt' = (dropL er L s).1.length := by
  rcases hp with ⟨h1, rfl, rfl, h2⟩ | ⟨rfl, h1, rfl, rfl, h3⟩ | ⟨rfl, ⟨m, hm⟩, rfl, rfl, h3⟩
  · rw [show dropL r L s = (L, r) from by unfold dropL; rw [if_pos h1]]
    exact ⟨rel_same h h2, rfl, rfl⟩
  · have e := no_den h h1
    rcases idxL_cases L s with ⟨e1, _⟩ | ⟨k, p, e1, e2, e3, _⟩
    · rw [show dropL 0 L s = (L, 4) from by unfold dropL; rw [if_neg (by simp), if_pos (by omega)]]
      exact ⟨rel_same h h3, rfl, rfl⟩
    · exact absurd e3 (e p (List.mem_of_getElem? e2))
  · rcases idxL_cases L s with ⟨e1, e2⟩ | ⟨k, p, e1, e2, e3, _⟩
    · exact absurd hm (no_ent h e2 m)
    · rw [show dropL 0 L s = (delL L k, 0) from by unfold dropL; rw [if_neg (by simp), if_neg (by omega), e1]; rfl]
      have hkl := (List.getElem?_eq_some_iff.1 e2).1
      exact ⟨rel_del h e2 e3 h3, rfl, by simp [delL]; omega⟩

theorem get_rel (h : Rel H x L) {er r : Nat} {a : Int} {s : Tok} (hp :
    (er ≠ 0 ∧ a = 0 ∧ r = er) ∨ (er = 0 ∧ (∀ m, ¬ Den H x (pieces s) m) ∧ a = 0 ∧ r = 4) ∨ (er = 0 ∧ Den H x (pieces s) a ∧ r = 0)) : (a, r) = getL er L s := by
  rcases hp with ⟨h1, rfl, rfl⟩ | ⟨rfl, h1, rfl, rfl⟩ | ⟨rfl, h1, rfl⟩
  · unfold getL; rw [if_pos h1]
  · have e := no_den h h1
    rcases idxL_cases L s with ⟨e1, _⟩ | ⟨k, p, e1, e2, e3, _⟩
    · unfold getL; rw [if_neg (by simp), if_pos (by omega)]
    · exact absurd e3 (e p (List.mem_of_getElem? e2))
  · rcases idxL_cases L s with ⟨e1, e2⟩ | ⟨k, p, e1, e2, e3, _⟩
    · exact absurd h1 (no_ent h e2 a)
    · have hq := h.uniq e2 (h.mem.1 h1) e3.symm
      unfold getL; rw [if_neg (by simp), if_neg (by omega), e1]
      simp [List.getD, e2, ← hq]
end


theorem putL_few {er : Nat} {L : Ents} {s : Tok} {v : Int} (h : L.length ≤ 100) : (putL er L s v).1.length ≤ 100 := by
  unfold putL
  split
  · exact h
  · split
    · simpa [setL] using h
    · split
      · exact h
      · rw [insL_len]; omega

theorem dropL_few {er : Nat} {L : Ents} {s : Tok} (h : L.length ≤ 100) : (dropL er L s).1.length ≤ 100 := by
  unfold dropL
  split
  · exact h
  · split
    · exact h
    · simp [delL]; omega

/-- The index x in memory, of the blocks M, tells the list L. -/
structure XAt (W : World) (M : Nat → Prop) (x N : Nat) (L : Ents) (w : World) : Prop where
  few : L.length ≤ 100
  ex : ∃ (H : Hp) (vf : Nat → Value), Idx.Good N H x ∧ IdxAt W M x H vf L.length w ∧ Rel H x L

/-- An index that has come of another one. -/
def NextX (W : World) (M : Nat → Prop) (x N : Nat) (w : World) (L' : Ents) (w' : World) : Prop :=
  (∃ M', XAt W M' x N L' w' ∧ ∀ k, M' k → M k ∨ w.heap.size ≤ k) ∧ Heap.Touch M w w'

section
variable {W w w1 : World} {M : Nat → Prop} {x N N' : Nat} {L L' : Ents}

theorem XAt.below (h : XAt W M x N L w) : Below W.heap.size W w := by
  obtain ⟨H, vf, _, h2, _⟩ := h.ex
  exact h2.below
theorem XAt.sorted (h : XAt W M x N L w) : SortedE L := by
  obtain ⟨H, vf, _, _, h3⟩ := h.ex
  exact h3.sorted
theorem XAt.bM (h : XAt W M x N L w) {k : Nat} (hk : M k) : k < w.heap.size := by
  obtain ⟨H, vf, _, h2, _⟩ := h.ex
  exact h2.bM k hk
theorem XAt.newM (h : XAt W M x N L w) {k : Nat} (hk : M k) : W.heap.size ≤ k := by
  obtain ⟨H, vf, _, h2, _⟩ := h.ex
  exact h2.newM k hk
theorem XAt.kept (h : XAt W M x N L w) (hb : Below W.heap.size W w1) (hsz : w.heap.size ≤ w1.heap.size) (hs : Same M w w1) : XAt W M x N L w1 := by
  obtain ⟨H, vf, h1, h2, h3⟩ := h.ex
  exact ⟨h.few, H, vf, h1, h2.kept hb hsz hs, h3⟩
theorem XAt.next (h : XAt W M x N L w) (hb : Below w.heap.size w w1) : XAt W M x N L w1 := by
  obtain ⟨H, vf, h1, h2, h3⟩ := h.ex
  exact ⟨h.few, H, vf, h1, h2.next hb, h3⟩
theorem XAt.mono (h : XAt W M x N L w) (hN : N ≤ N') : XAt W M x N' L w := by
  obtain ⟨H, vf, h1, h2, h3⟩ := h.ex
  exact ⟨h.few, H, vf, h1.mono hN, h2, h3⟩

theorem NextX.below (h : NextX W M x N w L' w1) : Below W.heap.size W w1 := by
  obtain ⟨⟨M', h1, _⟩, _⟩ := h
  exact h1.below

theorem next_x {H' : Hp} {cnt' : Nat} (hn : Idx.Next W M x N' cnt' w H' w1) (hr : Rel H' x L') (hc : cnt' = L'.length) (hf : L'.length ≤ 100) : NextX W M x N' w L' w1 := by
  obtain ⟨hG, ⟨M', vf', hI, hM⟩, ht⟩ := hn
  subst hc
  exact ⟨⟨M', ⟨hf, H', vf', hG, hI, hr⟩, hM⟩, ht⟩

theorem put_x (h : XAt W M x N L w) (hN : N ≤ 90000) (hm : ML W) (s : ByteArray) (hs : s.size ≤ 1048576) (v : Int) :
    Calls Tryz.prog 150 #[ptrV x, .string s, .int .i64 v] w fun e w' => e = .returned (.int .i64 ((putL (Subj.err false s.data.toList) L s.data.toList v).2 : Nat)) ∧ NextX W M x (N + 8) w (putL (Subj.err false s.data.toList) L s.data.toList v).1 w' := by
  obtain ⟨H, vf, h1, h2, h3⟩ := h.ex
  refine (put_any h1 h2 hN hm s hs v h.few).mono ?_
  rintro e w' ⟨H', cnt', r, rfl, hn, hc⟩
  obtain ⟨r1, r2, r3⟩ := put_rel h3 hc
  exact ⟨by rw [r2], next_x hn r1 r3 (putL_few h.few)⟩

theorem drop_x (h : XAt W M x N L w) (hN : N ≤ 90000) (hm : ML W) (s : ByteArray) (hs : s.size ≤ 1048576) :
    Calls Tryz.prog 149 #[ptrV x, .string s] w fun e w' => e = .returned (.int .i64 ((dropL (Subj.err false s.data.toList) L s.data.toList).2 : Nat)) ∧ NextX W M x N w (dropL (Subj.err false s.data.toList) L s.data.toList).1 w' := by
  obtain ⟨H, vf, h1, h2, h3⟩ := h.ex
  refine (dropAll_any h1 h2 hN hm s hs h.few (rel_pos h3)).mono ?_
  rintro e w' ⟨H', cnt', r, rfl, hn, hc⟩
  obtain ⟨r1, r2, r3⟩ := drop_rel h3 hc
  exact ⟨by rw [r2], next_x hn r1 r3 (dropL_few h.few)⟩

theorem get_x (h : XAt W M x N L w) (hN : N ≤ 90000) (hm : ML W) (s : ByteArray) (hs : s.size ≤ 1048576) :
    Calls Tryz.prog 147 #[ptrV x, .string s] w fun e w' => e = .returned (.tuple #[.int .i64 (getL (Subj.err false s.data.toList) L s.data.toList).1, .int .i64 ((getL (Subj.err false s.data.toList) L s.data.toList).2 : Nat)]) ∧ Below w.heap.size w w' := by
  obtain ⟨H, vf, h1, h2, h3⟩ := h.ex
  refine (get_any h1 h2 hN hm s hs).mono ?_
  rintro e w' ⟨hb, a, r, rfl, hc⟩
  rw [← get_rel h3 hc]
  exact ⟨rfl, hb⟩

theorem count_x (h : XAt W M x N L w) : Calls Tryz.prog 148 #[ptrV x] w fun e w' => e = .returned (.int .i64 L.length) ∧ w = w' := by
  obtain ⟨H, vf, h1, h2, h3⟩ := h.ex
  exact count_any h1 h2

theorem x_new (hb : Below W.heap.size W w) : XAt W (fun k => k = w.heap.size) w.heap.size 0 [] (w.alloc (.cells #[.string ⟨#[]⟩, .slice none 0 0, .bool false, .int .i64 0, .int .i64 0] 236)) :=
  ⟨by simp, newH w.heap.size, _, good_new _, idx_new hb, ⟨fun ts n => ⟨fun hd => absurd hd (den_new _ ts n), fun ⟨s, hs, _⟩ => by cases hs⟩, List.Pairwise.nil⟩⟩
end
end Go.Proofs.YthhgfdeegnimjaaGreatDoor.Shf

namespace Go.Proofs.YthhgfdeegnimjaaGreatDoor.Sto
open Go.RowKit Heap
open Subj (ML)
open Rec (Rc recErr far recA rcOf)

def recC (r : Rc) : List Value := [.int .i64 r.kind, .int .i64 r.seq, .int .i64 r.time, .string ⟨r.subj.toArray⟩, .string ⟨r.head.toArray⟩, .string ⟨r.data.toArray⟩]
def recsV (L : List Rc) : List Value := L.flatMap recC

theorem recsV_cons (r : Rc) (L : List Rc) : recsV (r :: L) = recC r ++ recsV L := rfl
theorem recsV_append (a b : List Rc) : recsV (a ++ b) = recsV a ++ recsV b := by simp [recsV]
theorem recsV_one (L : List Rc) : ∀ u ∈ recsV L, u.oneCell' = true := by
  intro u hu
  obtain ⟨e, _, h⟩ := List.mem_flatMap.1 hu
  simp only [recC, List.mem_cons, List.not_mem_nil, or_false] at h
  rcases h with rfl | rfl | rfl | rfl | rfl | rfl <;> rfl
theorem recsV_take (A : List Rc) (k : Nat) : (recsV A).take (k * 6) = recsV (A.take k) := by
  induction A generalizing k with
  | nil => simp [recsV]
  | cons a r ih =>
    cases k with
    | zero => simp [recsV]
    | succ k =>
      have hl : (recC a).length = 6 := rfl
      rw [recsV_cons, List.take_append, hl, show (k + 1) * 6 - 6 = k * 6 by omega, ih, List.take_of_length_le (by rw [hl]; omega)]
      rfl
theorem recsV_drop (A : List Rc) (k : Nat) : (recsV A).drop (k * 6) = recsV (A.drop k) := by
  induction A generalizing k with
  | nil => simp [recsV]
  | cons a r ih =>
    cases k with
    | zero => simp [recsV]
    | succ k =>
      have hl : (recC a).length = 6 := rfl
      rw [recsV_cons, List.drop_append, hl, show (k + 1) * 6 - 6 = k * 6 by omega, ih, List.drop_of_length_le (by rw [hl]; omega)]
      rfl
theorem recsV_at (l : List Rc) (k : Nat) (p : Rc) (h : l[k]? = some p) (i : Nat) (hi : i < 6) : (recsV l)[k * 6 + i]? = (recC p)[i]? := by
  induction l generalizing k with
  | nil => simp at h
  | cons q l ih =>
    rw [recsV_cons]
    cases k with
    | zero =>
      simp at h; subst h
      rw [List.getElem?_append_left (by simp [recC]; omega)]
      simp
    | succ k =>
      rw [List.getElem?_append_right (by simp [recC]; omega)]
      rw [show (k + 1) * 6 + i - (recC q).length = k * 6 + i by simp [recC]; omega]
      exact ih k (by simpa using h)

/-- A record's cells in a row of records. -/
theorem cells_rec {w : World} {g off n cap : Nat} {l : List Rc} (h : Row w 33 6 (.slice (some ⟨g, off, none⟩) n cap) n (recsV l)) (k : Nat) (p : Rc) (hp : l[k]? = some p) (hk : k < n) :
    w.cell? ⟨g, off + k * 6, none⟩ = some (.int .i64 p.kind) ∧ w.cell? ⟨g, off + k * 6 + 1, none⟩ = some (.int .i64 p.seq) ∧ w.cell? ⟨g, off + k * 6 + 2, none⟩ = some (.int .i64 p.time) ∧
      w.cell? ⟨g, off + k * 6 + 3, none⟩ = some (.string ⟨p.subj.toArray⟩) ∧ w.cell? ⟨g, off + k * 6 + 4, none⟩ = some (.string ⟨p.head.toArray⟩) ∧ w.cell? ⟨g, off + k * 6 + 5, none⟩ = some (.string ⟨p.data.toArray⟩) := by
  have e : ∀ i, i < 6 → w.cell? ⟨g, off + k * 6 + i, none⟩ = (recC p)[i]? := fun i hi => by
    rw [show off + k * 6 + i = off + (k * 6 + i) by omega, (h.cell (k * 6 + i) (by omega)).1, recsV_at l k p hp i hi]
  exact ⟨e 0 (by omega), e 1 (by omega), e 2 (by omega), e 3 (by omega), e 4 (by omega), e 5 (by omega)⟩

/-- A record as a value, of six parts that are told apart. -/
structure Parts (r : Rc) (s h d : ByteArray) : Prop where
  s1 : (⟨r.subj.toArray⟩ : ByteArray) = s
  h1 : (⟨r.head.toArray⟩ : ByteArray) = h
  d1 : (⟨r.data.toArray⟩ : ByteArray) = d
  s2 : s.data.toList = r.subj
  h2 : h.data.toList = r.head
  d2 : d.data.toList = r.data
  s3 : s.size = r.subj.length
  h3 : h.size = r.head.length
  d3 : d.size = r.data.length

theorem parts (r : Rc) : ∃ s h d, Parts r s h d := ⟨_, _, _, rfl, rfl, rfl, by simp, by simp, by simp, by show r.subj.toArray.size = _; simp, by show r.head.toArray.size = _; simp, by show r.data.toArray.size = _; simp⟩

theorem Parts.rc {r : Rc} {s h d : ByteArray} (p : Parts r s h d) : rcOf r.kind r.seq r.time s h d = r := by
  unfold rcOf
  rw [p.s2, p.h2, p.d2]

/-- A record as a value. -/
def recV (r : Rc) : Value := .agg #[.int .i64 r.kind, .int .i64 r.seq, .int .i64 r.time, .string ⟨r.subj.toArray⟩, .string ⟨r.head.toArray⟩, .string ⟨r.data.toArray⟩]

/-- A record of texts that are not too long. -/
structure Fits (r : Rc) : Prop where
  s : r.subj.length ≤ 1048576
  h : r.head.length ≤ 1048576
  d : r.data.length ≤ 1048576

theorem sixC {bx : Nat} {a0 a1 a2 a3 a4 a5 : Value} {t : TypeId} {w : World} (h : w.heap[bx]? = some (.cells #[a0, a1, a2, a3, a4, a5] t (0, 0))) :
    w.cell? ⟨bx, 0, none⟩ = some a0 ∧ w.cell? ⟨bx, 1, none⟩ = some a1 ∧ w.cell? ⟨bx, 2, none⟩ = some a2 ∧ w.cell? ⟨bx, 3, none⟩ = some a3 ∧ w.cell? ⟨bx, 4, none⟩ = some a4 ∧ w.cell? ⟨bx, 5, none⟩ = some a5 := by
  refine ⟨?_, ?_, ?_, ?_, ?_, ?_⟩
  · rw [cell_of_row w bx 0 _ _ _ h]; rfl
  · rw [cell_of_row w bx 1 _ _ _ h]; rfl
  · rw [cell_of_row w bx 2 _ _ _ h]; rfl
  · rw [cell_of_row w bx 3 _ _ _ h]; rfl
  · rw [cell_of_row w bx 4 _ _ _ h]; rfl
  · rw [cell_of_row w bx 5 _ _ _ h]; rfl

theorem info_rec : (Tryz.prog.info? 33).map (fun i => (i.zero, i.size, i.bytes)) = some (some (Value.agg #[.int .i64 0, .int .i64 0, .int .i64 0, .string ⟨#[]⟩, .string ⟨#[]⟩, .string ⟨#[]⟩]), 6, 72) := by kernel_rfl

theorem news_rec (w : World) (a0 a1 a2 a3 a4 a5 : Value) (t : TypeId) : ∀ j u, ([a0, a1, a2, a3, a4, a5] : List Value)[j]? = some u → (w.alloc (.cells #[a0, a1, a2, a3, a4, a5] t)).cell? ((⟨w.heap.size, 0, none⟩ : Addr).add j) = some u := fun j u hj => by
  rw [Addr.add_lit, cell_of_row _ w.heap.size (0 + j) _ _ _ (heap_alloc_new w _), Nat.zero_add]
  rcases j with _ | _ | _ | _ | _ | _ | j
  · simpa using hj
  · simpa using hj
  · simpa using hj
  · simpa using hj
  · simpa using hj
  · simpa using hj
  · simp at hj

/-- Records side by side somewhere. -/
def RecsAt (w : World) (v : Value) (l : List Rc) : Prop := ∃ ao cap, v = .slice ao l.length cap ∧ (l ≠ [] → ∃ g off, ao = some ⟨g, off, none⟩ ∧ ∀ i p, l[i]? = some p →
  w.cell? ⟨g, off + i * 6, none⟩ = some (.int .i64 p.kind) ∧ w.cell? ⟨g, off + i * 6 + 1, none⟩ = some (.int .i64 p.seq) ∧ w.cell? ⟨g, off + i * 6 + 2, none⟩ = some (.int .i64 p.time) ∧
      w.cell? ⟨g, off + i * 6 + 3, none⟩ = some (.string ⟨p.subj.toArray⟩) ∧ w.cell? ⟨g, off + i * 6 + 4, none⟩ = some (.string ⟨p.head.toArray⟩) ∧ w.cell? ⟨g, off + i * 6 + 5, none⟩ = some (.string ⟨p.data.toArray⟩))

theorem row_recs {w : World} {v : Value} {l : List Rc} (h : Row w 33 6 v l.length (recsV l)) : RecsAt w v l := by
  have h0 := h
  rcases h.2 with ⟨rfl, e⟩ | ⟨g, off, cap, cur, rfl, hg, hle, _⟩
  · exact ⟨none, 0, by rw [e], fun hne => absurd (List.eq_nil_of_length_eq_zero e) hne⟩
  · exact ⟨_, cap, rfl, fun _ => ⟨g, off, rfl, fun i p hp => cells_rec h0 i p hp (List.getElem?_eq_some_iff.1 hp).1⟩⟩

theorem RecsAt.below {w w' : World} {v : Value} {l : List Rc} {n : Nat} (h : RecsAt w v l) (hb : Below n w w') (hn : w.heap.size ≤ n) : RecsAt w' v l := by
  obtain ⟨ao, cap, rfl, ha⟩ := h
  refine ⟨ao, cap, rfl, fun hne => ?_⟩
  obtain ⟨g, off, rfl, hc⟩ := ha hne
  refine ⟨g, off, rfl, fun i p hp => ?_⟩
  obtain ⟨c0, c1, c2, c3, c4, c5⟩ := hc i p hp
  have hg : g < w.heap.size := World.block_lt_of_cell? w _ c0
  have hblk := hb.block g (by omega)
  exact ⟨(World.cell?_of_block (a := ⟨g, off + i * 6, none⟩) hblk).trans c0, (World.cell?_of_block (a := ⟨g, off + i * 6 + 1, none⟩) hblk).trans c1, (World.cell?_of_block (a := ⟨g, off + i * 6 + 2, none⟩) hblk).trans c2, (World.cell?_of_block (a := ⟨g, off + i * 6 + 3, none⟩) hblk).trans c3, (World.cell?_of_block (a := ⟨g, off + i * 6 + 4, none⟩) hblk).trans c4, (World.cell?_of_block (a := ⟨g, off + i * 6 + 5, none⟩) hblk).trans c5⟩

theorem RecsAt.touch {w w' : World} {v : Value} {l : List Rc} {F : Nat → Prop} (h : RecsAt w v l) (ht : Heap.Touch F w w') (hn : ∀ k, own v k → ¬ F k) : RecsAt w' v l := by
  obtain ⟨ao, cap, rfl, ha⟩ := h
  refine ⟨ao, cap, rfl, fun hne => ?_⟩
  obtain ⟨g, off, rfl, hc⟩ := ha hne
  refine ⟨g, off, rfl, fun i p hp => ?_⟩
  obtain ⟨c0, c1, c2, c3, c4, c5⟩ := hc i p hp
  have hg : g < w.heap.size := World.block_lt_of_cell? w _ c0
  have hblk := ht.block g hg (hn g (by simp [own, Value.ownBlock]))
  exact ⟨(World.cell?_of_block (a := ⟨g, off + i * 6, none⟩) hblk).trans c0, (World.cell?_of_block (a := ⟨g, off + i * 6 + 1, none⟩) hblk).trans c1, (World.cell?_of_block (a := ⟨g, off + i * 6 + 2, none⟩) hblk).trans c2, (World.cell?_of_block (a := ⟨g, off + i * 6 + 3, none⟩) hblk).trans c3, (World.cell?_of_block (a := ⟨g, off + i * 6 + 4, none⟩) hblk).trans c4, (World.cell?_of_block (a := ⟨g, off + i * 6 + 5, none⟩) hblk).trans c5⟩

section
variable {w : World}

end

theorem set6 {w : World} {R : Nat} {b0 b1 b2 b3 b4 b5 : Value} {t : TypeId} (a0 a1 a2 a3 a4 a5 : Value) (hR : w.heap[R]? = some (.cells #[b0, b1, b2, b3, b4, b5] t (0, 0))) :
    ((((((w.setCell ⟨R, 0, none⟩ a0).setCell ⟨R, 1, none⟩ a1).setCell ⟨R, 2, none⟩ a2).setCell ⟨R, 3, none⟩ a3).setCell ⟨R, 4, none⟩ a4).setCell ⟨R, 5, none⟩ a5).heap[R]? = some (.cells #[a0, a1, a2, a3, a4, a5] t (0, 0)) := by
  have h1 := heap_setCell_same w R 0 _ _ a0 hR
  have h2 := heap_setCell_same _ R 1 _ _ a1 h1
  have h3 := heap_setCell_same _ R 2 _ _ a2 h2
  have h4 := heap_setCell_same _ R 3 _ _ a3 h3
  have h5 := heap_setCell_same _ R 4 _ _ a4 h4
  exact heap_setCell_same _ R 5 _ _ a5 h5

section
variable {w : World}
end

end Go.Proofs.YthhgfdeegnimjaaGreatDoor.Sto

namespace Go.Proofs.YthhgfdeegnimjaaGreatDoor.Sto
open Go.RowKit Heap
open Subj (Tok ML pieces takes)
open Rec (Rc recErr far recA rcOf)
open Idx (Ents ptrV idxL)
open Shf (XAt NextX getL dropL putL SortedE)

/-- A store in memory. -/
structure SAt (W : World) (M : Nat → Prop) (x N : Nat) (I : Ents) (D : Nat) (v : Value) (L : List Rc) (bt last : Int) (w : World) : Prop where
  idx : XAt W M x N I w
  cell : w.heap[D]? = some (.cells #[v, ptrV x, .int .i64 bt, .int .i64 last] 124 (0, 0))
  row : Row w 33 6 v L.length (recsV L)
  mD : ¬ M D
  oldD : W.heap.size ≤ D
  vM : ∀ k, own v k → ¬ M k ∧ W.heap.size ≤ k

theorem fourS {D : Nat} {a0 a1 a2 a3 : Value} {t : TypeId} {w : World} (h : w.heap[D]? = some (.cells #[a0, a1, a2, a3] t (0, 0))) :
    w.cell? ⟨D, 0, none⟩ = some a0 ∧ w.cell? ⟨D, 1, none⟩ = some a1 ∧ w.cell? ⟨D, 2, none⟩ = some a2 ∧ w.cell? ⟨D, 3, none⟩ = some a3 ∧ ∀ j, w.frozen? ⟨D, j, none⟩ = false := by
  refine ⟨?_, ?_, ?_, ?_, fun j => frozen_of_row w D j _ _ h⟩
  · rw [cell_of_row w D 0 _ _ _ h]; rfl
  · rw [cell_of_row w D 1 _ _ _ h]; rfl
  · rw [cell_of_row w D 2 _ _ _ h]; rfl
  · rw [cell_of_row w D 3 _ _ _ h]; rfl

theorem ne_rec {D n : Nat} {w : World} {v a0 a1 a2 a3 : Value} {xs : List Value} (h : w.heap[D]? = some (.cells #[a0, a1, a2, a3] 124 (0, 0))) (hr : Row w 33 6 v n xs) : ¬ own v D := fun ho => by
  rcases hr.2 with ⟨rfl, _⟩ | ⟨g, off, cap, cur, rfl, hg, _⟩
  · simp [own, Value.ownBlock] at ho
  · simp [own, Value.ownBlock] at ho
    subst ho
    rw [h] at hg
    simp at hg

section
variable {W w w1 : World} {M : Nat → Prop} {x N N' D : Nat} {I I' : Ents} {v v' : Value} {L L' : List Rc} {bt last bt' last' : Int}

theorem SAt.lt (h : SAt W M x N I D v L bt last w) : D < w.heap.size := heap_lt h.cell
theorem SAt.ne (h : SAt W M x N I D v L bt last w) : ¬ own v D := ne_rec h.cell h.row

/-- All but the index is turned. -/
theorem SAt.turn (h : SAt W M x N I D v L bt last w) (ht : Heap.Touch (fun k => own v k ∨ k = D) w w1) (hc : w1.heap[D]? = some (.cells #[v', ptrV x, .int .i64 bt', .int .i64 last'] 124 (0, 0)))
    (hr : Row w1 33 6 v' L'.length (recsV L')) (ho : ∀ k, own v' k → own v k ∨ w.heap.size ≤ k) : SAt W M x N I D v' L' bt' last' w1 := by
  have hb := h.idx.below
  refine ⟨h.idx.kept (hb.trans (ht.below hb.size fun k hk => ?_)) ht.size (ht.same fun k hm hk => ?_), hc, hr, h.mD, h.oldD, fun k hk => ?_⟩
  · rcases hk with hk | rfl
    · exact (h.vM k hk).2
    · exact h.oldD
  · rcases hk with hk | rfl
    · exact (h.vM k hk).1 hm
    · exact h.mD hm
  · rcases ho k hk with e | e
    · exact h.vM k e
    · exact ⟨fun hm => by have := h.idx.bM hm; omega, Nat.le_trans hb.size e⟩

theorem SAt.next (h : SAt W M x N I D v L bt last w) (hb : Below w.heap.size w w1) : SAt W M x N I D v L bt last w1 :=
  h.turn (Heap.Touch.ofBelow hb) ((hb.block D h.lt).trans h.cell) (h.row.kept fun k _ hk => hb.block k hk) fun _ hk => .inl hk

theorem touch_D (w : World) (D j : Nat) (u : Value) : Heap.Touch (fun k => k = D) w (w.setCell ⟨D, j, none⟩ u) := Heap.Touch.setCell (F := fun k => k = D) (p := ⟨D, j, none⟩) (Heap.Touch.refl _ w) (.inl rfl) _

theorem SAt.setBytes (h : SAt W M x N I D v L bt last w) (b : Int) : SAt W M x N I D v L b last (w.setCell ⟨D, 2, none⟩ (.int .i64 b)) :=
  h.turn ((touch_D w D 2 _).mono fun _ _ e => .inr e) (heap_setCell_same _ _ _ _ _ _ h.cell) (h.row.kept fun k hk hlt => (touch_D w D 2 _).block k hlt fun e => h.ne (e ▸ hk)) fun _ hk => .inl hk

theorem SAt.setLast (h : SAt W M x N I D v L bt last w) (b : Int) : SAt W M x N I D v L bt b (w.setCell ⟨D, 3, none⟩ (.int .i64 b)) :=
  h.turn ((touch_D w D 3 _).mono fun _ _ e => .inr e) (heap_setCell_same _ _ _ _ _ _ h.cell) (h.row.kept fun k hk hlt => (touch_D w D 3 _).block k hlt fun e => h.ne (e ▸ hk)) fun _ hk => .inl hk

/-- Another list, of the same array or of a new one. -/
theorem SAt.setList (h : SAt W M x N I D v L bt last w) (ht : Heap.Touch (own v) w w1) (hr : Row w1 33 6 v' L'.length (recsV L')) (ho : ∀ k, own v' k → own v k ∨ w.heap.size ≤ k) :
    SAt W M x N I D v' L' bt last (w1.setCell ⟨D, 0, none⟩ v') := by
  have hD1 : w1.heap[D]? = _ := (ht.block D h.lt h.ne).trans h.cell
  have hne : ¬ own v' D := ne_rec hD1 hr
  exact h.turn ((ht.mono fun _ _ e => .inl e).setCell (.inl (.inr rfl)) _) (by rw [heap_setCell_same _ _ _ _ _ _ hD1]; rfl) (hr.kept fun k hk hlt => (touch_D w1 D 0 _).block k hlt fun e => hne (e ▸ hk)) ho

/-- The index has been called. -/
theorem SAt.call (h : SAt W M x N I D v L bt last w) (hn : NextX W M x N' w I' w1) : ∃ M', SAt W M' x N' I' D v L bt last w1 ∧ ∀ k, M' k → M k ∨ w.heap.size ≤ k := by
  obtain ⟨⟨M', hX, hM⟩, ht⟩ := hn
  refine ⟨M', ⟨hX, (ht.block D h.lt h.mD).trans h.cell, h.row.kept fun k hk hlt => ht.block k hlt (h.vM k hk).1, fun hk => ?_, h.oldD, fun k hk => ⟨fun hm => ?_, (h.vM k hk).2⟩⟩, hM⟩
  · rcases hM D hk with e | e
    · exact h.mD e
    · have := h.lt; omega
  · rcases hM k hm with e | e
    · exact (h.vM k hk).1 e
    · have := h.row.lt k hk; omega
end
end Go.Proofs.YthhgfdeegnimjaaGreatDoor.Sto

namespace Go.Proofs.YthhgfdeegnimjaaGreatDoor.Sto
open Subj (Tok pieces takes)
open Rec (Rc recErr far)
open Idx (Ents idxL before before_irrefl)
open Shf (SortedE)

/-- The subjects, each once. -/
def subjs : List Rc → List Tok
  | [] => []
  | r :: L => if r.subj ∈ subjs L then subjs L else r.subj :: subjs L

theorem mem_subjs : ∀ {L : List Rc} {s : Tok}, s ∈ subjs L ↔ ∃ r ∈ L, r.subj = s
  | [], s => by simp [subjs]
  | a :: L, s => by
    unfold subjs
    split
    · rename_i h
      rw [mem_subjs]
      constructor
      · rintro ⟨r, hr, e⟩; exact ⟨r, by simp [hr], e⟩
      · rintro ⟨r, hr, e⟩
        rcases List.mem_cons.1 hr with rfl | hr
        · rw [← e]; exact mem_subjs.1 h
        · exact ⟨r, hr, e⟩
    · rw [List.mem_cons, mem_subjs]
      constructor
      · rintro (rfl | ⟨r, hr, e⟩)
        · exact ⟨a, by simp, rfl⟩
        · exact ⟨r, by simp [hr], e⟩
      · rintro ⟨r, hr, e⟩
        rcases List.mem_cons.1 hr with rfl | hr
        · exact .inl e.symm
        · exact .inr ⟨r, hr, e⟩

theorem nodup_subjs : ∀ L : List Rc, (subjs L).Nodup
  | [] => List.nodup_nil
  | a :: L => by
    unfold subjs
    split
    · exact nodup_subjs L
    · rename_i h
      exact List.nodup_cons.2 ⟨h, nodup_subjs L⟩

theorem nodup_le {α : Type} [DecidableEq α] : ∀ {A B : List α}, A.Nodup → (∀ x ∈ A, x ∈ B) → A.length ≤ B.length
  | [], _, _, _ => Nat.zero_le _
  | a :: A, B, hn, h => by
    have ha := h a (by simp)
    have h1 := nodup_le (A := A) (B := B.erase a) (List.nodup_cons.1 hn).2 fun x hx => by
      have hne : x ≠ a := fun e => (List.nodup_cons.1 hn).1 (e ▸ hx)
      exact (List.mem_erase_of_ne hne).2 (h x (by simp [hx]))
    have h2 := List.length_erase_of_mem ha
    have h3 := List.length_pos_of_mem ha
    rw [List.length_cons]
    omega

theorem nodup_len {α : Type} [DecidableEq α] {A B : List α} (ha : A.Nodup) (hb : B.Nodup) (h : ∀ x, x ∈ A ↔ x ∈ B) : A.length = B.length :=
  Nat.le_antisymm (nodup_le ha fun x hx => (h x).1 hx) (nodup_le hb fun x hx => (h x).2 hx)

theorem sorted_nodup {I : Ents} (h : SortedE I) : (I.map (·.1)).Nodup := by
  unfold SortedE at h
  rw [List.nodup_iff_pairwise_ne, List.pairwise_map]
  refine h.imp fun {a b} hab e => ?_
  rw [e, before_irrefl] at hab; cases hab

theorem cnt_ne {L : List Rc} {s : Tok} : cntR L s ≠ 0 ↔ ∃ r ∈ L, r.subj = s := by
  unfold cntR
  rw [← Nat.pos_iff_ne_zero, List.countP_pos_iff]
  simp

def dist (L : List Rc) : Nat := (subjs L).length

theorem counts_dist {I : Ents} {L : List Rc} (h : SortedE I) (hc : Counts I L) : I.length = dist L := by
  rw [← List.length_map (f := fun e : Tok × Int => e.1)]
  refine nodup_len (sorted_nodup h) (nodup_subjs L) fun s => ?_
  rw [mem_subjs, ← cnt_ne, List.mem_map]
  constructor
  · rintro ⟨e, he, rfl⟩
    exact ((hc e.1 e.2).1 he).2
  · intro h0
    exact ⟨(s, cntR L s), (hc _ _).2 ⟨rfl, h0⟩, rfl⟩

/-- What is told of a record ahead of it. -/
def tryD (L : List Rc) (last : Int) (r : Rc) : Nat :=
  if recErr r ≠ 0 then recErr r
  else if r.kind = 1 then if r.seq ≤ last then 9 else if L.length = 200 ∨ (cntR L r.subj = 0 ∧ dist L = 100) then 8 else 0
  else if r.kind = 2 then if hasSeq L r.seq then 0 else 4
  else 0

theorem tryS_D {I : Ents} {L : List Rc} (h : SortedE I) (hc : Counts I L) (last : Int) (r : Rc) : tryS L last I r = tryD L last r := by
  unfold tryS tryD
  rw [counts_dist h hc]

/-- Behind a record. -/
def after (L : List Rc) (last : Int) (r : Rc) : List Rc × Int := if tryD L last r = 0 then (leftS L r, lastS last r) else (L, last)
end Go.Proofs.YthhgfdeegnimjaaGreatDoor.Sto

namespace Go.Proofs.YthhgfdeegnimjaaGreatDoor.Subj
open Go.RowKit

/-! ### What 'is' tells, on lists -/

/-! ### The calls, from a world to a world -/

/-- What every call keeps: the length's cell is there; nothing of the first world is turned. -/
def Inv (w0 w : World) : Prop := ML w ∧ Below w0.heap.size w0 w

theorem Inv.refl {w : World} (h : ML w) : Inv w w := ⟨h, Below.refl _ _⟩
theorem Inv.step {w0 w w' : World} (h : Inv w0 w) (hb : Below w.heap.size w w') : Inv w0 w' := ⟨h.1.below hb, h.2.trans (hb.mono h.2.size)⟩

def IsRet (w0 : World) (b : Bool) (e : Ending) (w' : World) : Prop := e = .returned (.bool b) ∧ Inv w0 w'

end Go.Proofs.YthhgfdeegnimjaaGreatDoor.Subj

namespace Go.Proofs.YthhgfdeegnimjaaGreatDoor.Subj
open Go.RowKit

/-- A call that returns a number and keeps. -/
def IntRet (w0 : World) (n : Nat) (e : Ending) (w' : World) : Prop := e = .returned (.int .i64 n) ∧ Inv w0 w'

theorem filterN_inv {w0 : World} (s : ByteArray) (hs : s.size ≤ 1048576) (w : World) (h : Inv w0 w) : Calls Tryz.prog 158 #[.string s] w (IntRet w0 (err true s.data.toList)) :=
  (filter_any s w hs h.1).mono fun _ _ ⟨a, b⟩ => ⟨a, h.step b⟩
theorem refFilter_inv {w0 : World} (s : ByteArray) (hs : s.size ≤ 1048576) (w : World) (h : Inv w0 w) : Calls Tryz.prog 63 #[.string s] w (IntRet w0 (err true s.data.toList)) :=
  (refFilter_any s w hs).mono fun _ _ ⟨a, b⟩ => ⟨a, h.step b⟩

end Go.Proofs.YthhgfdeegnimjaaGreatDoor.Subj

namespace Go.Proofs.YthhgfdeegnimjaaGreatDoor.Shf
open Go.RowKit Heap Idx
open Subj (Tok ML pieces)

theorem entV_at (l : Ents) (k : Nat) (p : (Tok × Int)) (h : l[k]? = some p) (i : Nat) (hi : i < 2) : (entV l)[k * 2 + i]? = (entC p)[i]? := by
  induction l generalizing k with
  | nil => simp at h
  | cons q l ih =>
    show (entC q ++ entV l)[k * 2 + i]? = _
    cases k with
    | zero =>
      simp at h; subst h
      rw [List.getElem?_append_left (by simp [entC]; omega)]
      simp
    | succ k =>
      rw [List.getElem?_append_right (by simp [entC]; omega)]
      rw [show (k + 1) * 2 + i - (entC q).length = k * 2 + i by simp [entC]; omega]
      exact ih k (by simpa using h)

/-- A predicate on the entries of a list: what a call of it answers in every world that C holds of. -/
def Tells (l : Ents) (g : Nat) (lb : Array Value) (p : (Tok × Int) → Bool) (C : World → Prop) : Prop :=
  ∀ (W : World) (x : (Tok × Int)), x ∈ l → C W → Calls Tryz.prog g (#[.agg #[.string ⟨x.1.toArray⟩, .int .i64 x.2]] ++ lb) W fun e w' => e = .returned (.bool (p x)) ∧ Below W.heap.size W w'

def KeptBy (v : Value) (C : World → Prop) : Prop := ∀ W W', C W → Heap.Touch (own v) W W' → C W'

theorem cells_pull {w : World} {g off n cap : Nat} {l : Ents} (h : Row w 183 2 (.slice (some ⟨g, off, none⟩) n cap) n (entV l)) (k : Nat) (p : (Tok × Int)) (hp : l[k]? = some p) (hk : k < n) :
    w.cell? ⟨g, off + k * 2, none⟩ = some (.string ⟨p.1.toArray⟩) ∧ w.cell? ⟨g, off + k * 2 + 1, none⟩ = some (.int .i64 p.2) := by
  have e : ∀ i, i < 2 → w.cell? ⟨g, off + k * 2 + i, none⟩ = (entC p)[i]? := fun i hi => by
    rw [show off + k * 2 + i = off + (k * 2 + i) by omega, (h.cell (k * 2 + i) (by omega)).1, entV_at l k p hp i hi]
  exact ⟨e 0 (by omega), e 1 (by omega)⟩

set_option maxHeartbeats 2000000 in
set_option maxRecDepth 100000 in
theorem index_any (g : Nat) (lb : Array Value) (p : (Tok × Int) → Bool) (C : World → Prop) (eg : ∀ args w, (callFunc g args).run Tryz.prog w = .ok (.enter g args) w)
    (v : Value) (l : Ents) (w : World) (hrow : Row w 183 2 v l.length (entV l)) (hl : l.length ≤ 1000) (hC : C w) (hk : KeptBy v C) (hp : Tells l g lb p C)
    (r : Int) (hr : (r = -1 ∧ ∀ x ∈ l, p x = false) ∨ ∃ (k : Nat) (x : (Tok × Int)), r = (k : Int) ∧ l[k]? = some x ∧ p x = true ∧ ∀ y ∈ l.take k, p y = false) :
    Calls Tryz.prog 317 #[v, .func (.func g) #[] lb] w fun e w' => e = .returned (.int .i64 r) ∧ Below w.heap.size w w' := by
  rcases hrow.2 with ⟨rfl, h0⟩ | ⟨b, off, cap, cur, rfl, hg, _⟩
  · obtain rfl : l = [] := List.eq_nil_of_length_eq_zero h0
    have : r = -1 := by
      rcases hr with h | ⟨k, x, _, h, _⟩
      · exact h.1
      · simp at h
    subst this
    clear hrow hr hp hk
    go_enter Tryz.func317, Tryz.ntmps317
    go_wp2_with fail
    go_loopw [5, 8] (fun _ i wr => i = .int .i64 0 ∧ wr = w) (fun _ _ _ => 0)
    case atStart => exact ⟨rfl, rfl⟩
    case round =>
      obtain ⟨rfl, rfl⟩ := hrel
      go_wp2
      go_ret
      exact ⟨rfl, Below.refl _ _⟩
  · have hb : b < w.heap.size := heap_lt hg
    have HR := Lib.hid hrow; have HQ := Lib.hid hr; have HP := Lib.hid hp; have HKB := Lib.hid hk; have HCC := Lib.hid hC
    clear hrow hr hp hk hC hg
    generalize hn : l.length = n at *
    have HN := Lib.hid hn
    clear hn
    go_enter Tryz.func317, Tryz.ntmps317
    go_wp2_with fail
    go_loopw [5, 8] (fun _ i wr => ∃ k : Nat, k ≤ n ∧ i = .int .i64 k ∧ Below w.heap.size w wr ∧ Hid (∀ y ∈ l.take k, p y = false)) (fun _ i _ => n - (intOf i).toNat)
    case atStart => exact ⟨0, Nat.zero_le _, rfl, Below.refl _ _, Lib.hid fun y h => by simp at h⟩
    case round =>
      obtain ⟨k, hkn, rfl, BW, A⟩ := hrel
      have BB := Lib.hid BW
      by_cases hlt : k < n
      · have hltz : (k : Int) < (n : Int) := by omega
        have hlt' : k < l.length := by rw [HN.out]; exact hlt
        obtain ⟨x, hx⟩ : ∃ x, l[k]? = some x := ⟨l[k], List.getElem?_eq_getElem hlt'⟩
        have hrow' := HR.out.kept (w' := wr) (fun j _ hj => BW.block j hj)
        obtain ⟨c0, c1⟩ := cells_pull hrow' k x hx hlt
        have hcall := HP.out wr x (List.mem_of_getElem? hx) (HKB.out w wr HCC.out (Heap.Touch.ofBelow BW))
        have X := Lib.hid hx
        clear hrow' hx BW
        cases hq : p x with
        | true =>
          rw [hq] at hcall
          have hrk : r = (k : Int) := by
            rcases HQ.out with ⟨_, h⟩ | ⟨k', x', rfl, h1, h2, h3⟩
            · have := h x (List.mem_of_getElem? X.out)
              rw [hq] at this; cases this
            · have e : k' = k := by
                rcases Nat.lt_trichotomy k' k with hlt2 | hlt2 | hlt2
                · have := A.out x' (List.mem_of_getElem? (i := k') (by rw [List.getElem?_take, if_pos hlt2]; exact h1))
                  rw [h2] at this; cases this
                · exact hlt2
                · have := h3 x (List.mem_of_getElem? (i := k) (by rw [List.getElem?_take, if_pos hlt2]; exact X.out))
                  rw [hq] at this; cases this
              rw [e]
          subst hrk
          go_wp2_with (go_at_fn g; refine hcall.mono ?_; rintro e w' ⟨rfl, hb'⟩)
          go_ret
          exact ⟨rfl, BB.out.trans (hb'.mono BB.out.size)⟩
        | false =>
          rw [hq] at hcall
          go_wp2_with (go_at_fn g; refine hcall.mono ?_; rintro e w' ⟨rfl, hb'⟩)
          refine ⟨⟨k + 1, by omega, by go_num, BB.out.trans (hb'.mono BB.out.size), Lib.hid fun y hy => ?_⟩, by simp [intOf]; omega⟩
          obtain ⟨j, hj, rfl⟩ := List.mem_iff_getElem.1 hy
          rw [List.length_take] at hj
          rw [List.getElem_take]
          by_cases e : j = k
          · subst e
            have := X.out
            rw [List.getElem?_eq_getElem hlt'] at this
            simp at this
            rw [this]; exact hq
          · exact A.out _ (List.mem_of_getElem? (i := j) (by rw [List.getElem?_take, if_pos (by omega)]; exact List.getElem?_eq_getElem (by omega)))
      · have hltz : ¬ (k : Int) < (n : Int) := by omega
        obtain rfl : k = n := by omega
        have hrk : r = -1 := by
          rcases HQ.out with ⟨h, _⟩ | ⟨k', x', rfl, h1, h2, h3⟩
          · exact h
          · have h4 := (List.getElem?_eq_some_iff.1 h1).1
            have := A.out x' (List.mem_of_getElem? (i := k') (by rw [List.getElem?_take, if_pos (by rw [← HN.out]; exact h4)]; exact h1))
            rw [h2] at this; cases this
        subst hrk
        go_wp2
        go_ret
        exact ⟨rfl, BB.out⟩

end Go.Proofs.YthhgfdeegnimjaaGreatDoor.Shf

namespace Go.Proofs.YthhgfdeegnimjaaGreatDoor.Shf
open Go.RowKit Heap Idx
open Subj (Tok ML pieces)

structure ShelfAt (W : World) (G : Nat → Prop) (E : Nat) (L : Ents) (w : World) : Prop where
  few : L.length ≤ 100
  short : ∀ e ∈ L, e.1.length ≤ 200
  below : Below W.heap.size W w
  newG : ∀ k, G k → W.heap.size ≤ k
  bG : ∀ k, G k → k < w.heap.size
  gE : G E
  mem : ∃ v, w.heap[E]? = some (.cells #[v] 284 (0, 0)) ∧ Row w 183 2 v L.length (entV L) ∧ ∀ k, own v k → G k

/-- A shelf that has come of another one. -/
def NextS (W : World) (G : Nat → Prop) (E : Nat) (w : World) (L' : Ents) (w' : World) : Prop :=
  (∃ G', ShelfAt W G' E L' w' ∧ ∀ k, G' k → G k ∨ w.heap.size ≤ k) ∧ Heap.Touch G w w'

section
variable {W w w' : World} {G : Nat → Prop} {E : Nat} {L : Ents}

theorem ShelfAt.kept (h : ShelfAt W G E L w) (hb : Below W.heap.size W w') (hsz : w.heap.size ≤ w'.heap.size) (hs : Same G w w') : ShelfAt W G E L w' := by
  obtain ⟨v, h1, h2, h3⟩ := h.mem
  exact ⟨h.few, h.short, hb, h.newG, fun k hk => Nat.lt_of_lt_of_le (h.bG k hk) hsz, h.gE, v, (hs E h.gE (heap_lt h1)).trans h1, h2.kept (fun k hk hlt => hs k (h3 k hk) hlt), h3⟩

theorem ShelfAt.next (h : ShelfAt W G E L w) (hb : Below w.heap.size w w') : ShelfAt W G E L w' :=
  h.kept (h.below.trans (hb.mono h.below.size)) hb.size fun k _ hk => hb.block k hk

theorem NextS.refl (h : ShelfAt W G E L w) (hb : Below w.heap.size w w') : NextS W G E w L w' := ⟨⟨G, h.next hb, fun _ hk => .inl hk⟩, Heap.Touch.ofBelow hb⟩

end
end Go.Proofs.YthhgfdeegnimjaaGreatDoor.Shf

namespace Go.Proofs.YthhgfdeegnimjaaGreatDoor.Shf
open Go.RowKit Heap Idx
open Subj (Tok ML pieces)

/-- Another list in the shelf's place. -/
theorem ShelfAt.put {W w w3 : World} {G : Nat → Prop} {E : Nat} {L L' : Ents} {a0 v3 : Value} (h : ShelfAt W G E L w) (hf : L'.length ≤ 100) (hs : ∀ e ∈ L', e.1.length ≤ 200) (hE : w3.heap[E]? = some (.cells #[a0] 284 (0, 0)))
    (ht : Heap.Touch G w w3) (hr : Row w3 183 2 v3 L'.length (entV L')) (ho : ∀ k, own v3 k → G k ∨ w.heap.size ≤ k) (hne : ¬ own v3 E) : NextS W G E w L' (w3.setCell ⟨E, 0, none⟩ v3) := by
  have hE4 := heap_setCell_same w3 E 0 _ _ v3 hE
  have hlt := heap_lt hE4
  have tf : Heap.Touch G w (w3.setCell ⟨E, 0, none⟩ v3) := ht.setCell (.inl h.gE) _
  refine ⟨⟨fun k => (G k ∨ w.heap.size ≤ k) ∧ k < (w3.setCell ⟨E, 0, none⟩ v3).heap.size, ⟨hf, hs, h.below.trans (tf.below h.below.size h.newG), fun k hk => ?_, fun k hk => hk.2, ⟨.inl h.gE, hlt⟩, v3, hE4, ?_, fun k hk => ⟨ho k hk, ?_⟩⟩, fun k hk => hk.1⟩, tf⟩
  · rcases hk.1 with hk | hk
    · exact h.newG k hk
    · exact Nat.le_trans h.below.size hk
  · refine hr.kept fun j hj _ => heap_setCell_other _ _ _ _ (fun e => ?_)
    exact hne (by rw [← show j = E from e]; exact hj)
  · have := hr.lt k hk
    have h2 : (w3.setCell ⟨E, 0, none⟩ v3).heap.size = w3.heap.size := by simp [World.setCell]
    rw [h2]; exact this

section
variable {W w : World} {G : Nat → Prop} {E : Nat} {A : Ents}
end
end Go.Proofs.YthhgfdeegnimjaaGreatDoor.Shf
