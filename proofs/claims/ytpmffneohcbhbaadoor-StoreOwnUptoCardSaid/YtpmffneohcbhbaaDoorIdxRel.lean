/- The index beside a list of entries: what each call does to it, in plain Lean; then the index's contracts, told by the list alone. -/
import Derived.Test.YtpmffneohcbhbaaDoorIdxAll
import Derived.Test.YtpmffneohcbhbaaDoorIdxPut2
namespace Go.Proofs.YtpmffneohcbhbaaDoor.Shf
open Go.RowKit Heap Idx
open Subj (Tok ML pieces)

section
variable {H H' : Hp} {x : Nat} {L : Ents}

theorem rel_same (h : Rel H x L) (hd : SameDen H H' x) : Rel H' x L := ⟨fun ts n => (hd ts n).trans (h.den ts n), h.sorted⟩

theorem no_den (h : Rel H x L) {s : Tok} (hn : ∀ m, ¬ Den H x (pieces s) m) : ∀ y ∈ L, y.1 ≠ s := fun y hy e => by
  subst e
  exact hn y.2 (h.mem.2 hy)

theorem no_ent (h : Rel H x L) {s : Tok} (hn : ∀ y ∈ L, y.1 ≠ s) : ∀ m, ¬ Den H x (pieces s) m := fun m hd => hn _ (h.mem.1 hd) rfl

theorem rel_pos (h : Rel H x L) : (∃ ts m, Den H x ts m) → 1 ≤ L.length := fun ⟨ts, m, hd⟩ => by
  obtain ⟨s, hs, _⟩ := (h.den ts m).1 hd
  exact List.length_pos_of_mem hs

theorem put_rel (h : Rel H x L) {er r cnt' : Nat} {s : Tok} {v : Int} (hp :
    (er ≠ 0 ∧ r = er ∧ cnt' = L.length ∧ SameDen H H' x) ∨
     (er = 0 ∧ (∀ m, ¬ Den H x (pieces s) m) ∧ L.length = 100 ∧ r = 8 ∧ cnt' = L.length ∧ SameDen H H' x) ∨
     (er = 0 ∧ ((∃ m, Den H x (pieces s) m) ∧ cnt' = L.length ∨ (∀ m, ¬ Den H x (pieces s) m) ∧ L.length ≠ 100 ∧ cnt' = L.length + 1) ∧ r = 0 ∧ ∀ us m, Den H' x us m ↔ (us = pieces s ∧ m = v) ∨ (us ≠ pieces s ∧ Den H x us m))) :
    Rel H' x (putL er L s v).1 ∧ r = (putL er L s v).2 ∧ cnt' = (putL er L s v).1.length := by
  rcases hp with ⟨h1, rfl, rfl, h2⟩ | ⟨rfl, h1, h2, rfl, rfl, h3⟩ | ⟨rfl, h1, rfl, h3⟩
  · rw [show putL r L s v = (L, r) from by unfold putL; rw [if_pos h1]]
    exact ⟨rel_same h h2, rfl, rfl⟩
  · have e := no_den h h1
    rcases idxL_cases L s with ⟨e1, _⟩ | ⟨k, p, e1, e2, e3, _⟩
    · rw [show putL 0 L s v = (L, 8) from by unfold putL; rw [if_neg (by simp), if_neg (by omega), if_pos h2]]
      exact ⟨rel_same h h3, rfl, rfl⟩
    · exact absurd e3 (e p (List.mem_of_getElem? e2))
  · rcases idxL_cases L s with ⟨e1, e2⟩ | ⟨k, p, e1, e2, e3, _⟩
    · rcases h1 with ⟨⟨m, hm⟩, _⟩ | ⟨_, h4, rfl⟩
      · exact absurd hm (no_ent h e2 m)
      · rw [show putL 0 L s v = (insL L s v, 0) from by unfold putL; rw [if_neg (by simp), if_neg (by omega), if_neg h4]]
        exact ⟨rel_ins h e2 h3, rfl, (insL_len L s v).symm⟩
    · rcases h1 with ⟨_, rfl⟩ | ⟨h4, _⟩
      · rw [show putL 0 L s v = (setL L k s v, 0) from by unfold putL; rw [if_neg (by simp), if_pos (by omega), e1]; rfl]
        exact ⟨rel_set h e2 e3 h3, rfl, by simp [setL]⟩
      · exact absurd e3 (no_den h h4 p (List.mem_of_getElem? e2))

theorem drop_rel (h : Rel H x L) {er r cnt' : Nat} {s : Tok} (hp :
    (er ≠ 0 ∧ r = er ∧ cnt' = L.length ∧ SameDen H H' x) ∨
     (er = 0 ∧ (∀ m, ¬ Den H x (pieces s) m) ∧ r = 4 ∧ cnt' = L.length ∧ SameDen H H' x) ∨
     (er = 0 ∧ (∃ m, Den H x (pieces s) m) ∧ r = 0 ∧ cnt' = L.length - 1 ∧ ∀ us m, Den H' x us m ↔ us ≠ pieces s ∧ Den H x us m)) :
    Rel H' x (dropL er L s).1 ∧ r = (dropL er L s).2 ∧ cnt' = (dropL er L s).1.length := by
  rcases hp with ⟨h1, rfl, rfl, h2⟩ | ⟨rfl, h1, rfl, rfl, h3⟩ | ⟨rfl, ⟨m, hm⟩, rfl, rfl, h3⟩
  · rw [show dropL r L s = (L, r) from by unfold dropL; rw [if_pos h1]]
    exact ⟨rel_same h h2, rfl, rfl⟩
  · have e := no_den h h1
    rcases idxL_cases L s with ⟨e1, _⟩ | ⟨k, p, e1, e2, e3, _⟩
    · rw [show dropL 0 L s = (L, 4) from by unfold dropL; rw [if_neg (by simp), if_pos (by omega)]]
      exact ⟨rel_same h h3, rfl, rfl⟩
    · exact absurd e3 (e p (List.mem_of_getElem? e2))
  · rcases idxL_cases L s with ⟨e1, e2⟩ | ⟨k, p, e1, e2, e3, _⟩
    · exact absurd hm (no_ent h e2 m)
    · rw [show dropL 0 L s = (delL L k, 0) from by unfold dropL; rw [if_neg (by simp), if_neg (by omega), e1]; rfl]
      have hkl := (List.getElem?_eq_some_iff.1 e2).1
      exact ⟨rel_del h e2 e3 h3, rfl, by simp [delL]; omega⟩

theorem get_rel (h : Rel H x L) {er r : Nat} {a : Int} {s : Tok} (hp :
    (er ≠ 0 ∧ a = 0 ∧ r = er) ∨ (er = 0 ∧ (∀ m, ¬ Den H x (pieces s) m) ∧ a = 0 ∧ r = 4) ∨ (er = 0 ∧ Den H x (pieces s) a ∧ r = 0)) : (a, r) = getL er L s := by
  rcases hp with ⟨h1, rfl, rfl⟩ | ⟨rfl, h1, rfl, rfl⟩ | ⟨rfl, h1, rfl⟩
  · unfold getL; rw [if_pos h1]
  · have e := no_den h h1
    rcases idxL_cases L s with ⟨e1, _⟩ | ⟨k, p, e1, e2, e3, _⟩
    · unfold getL; rw [if_neg (by simp), if_pos (by omega)]
    · exact absurd e3 (e p (List.mem_of_getElem? e2))
  · rcases idxL_cases L s with ⟨e1, e2⟩ | ⟨k, p, e1, e2, e3, _⟩
    · exact absurd h1 (no_ent h e2 a)
    · have hq := h.uniq e2 (h.mem.1 h1) e3.symm
      unfold getL; rw [if_neg (by simp), if_neg (by omega), e1]
      simp [List.getD, e2, ← hq]
end


theorem putL_few {er : Nat} {L : Ents} {s : Tok} {v : Int} (h : L.length ≤ 100) : (putL er L s v).1.length ≤ 100 := by
  unfold putL
  split
  · exact h
  · split
    · simpa [setL] using h
    · split
      · exact h
      · rw [insL_len]; omega

theorem dropL_few {er : Nat} {L : Ents} {s : Tok} (h : L.length ≤ 100) : (dropL er L s).1.length ≤ 100 := by
  unfold dropL
  split
  · exact h
  · split
    · exact h
    · simp [delL]; omega

/-- The index x in memory, of the blocks M, tells the list L. -/
structure XAt (W : World) (M : Nat → Prop) (x N : Nat) (L : Ents) (w : World) : Prop where
  few : L.length ≤ 100
  ex : ∃ (H : Hp) (vf : Nat → Value), Idx.Good N H x ∧ IdxAt W M x H vf L.length w ∧ Rel H x L

/-- An index that has come of another one. -/
def NextX (W : World) (M : Nat → Prop) (x N : Nat) (w : World) (L' : Ents) (w' : World) : Prop :=
  (∃ M', XAt W M' x N L' w' ∧ ∀ k, M' k → M k ∨ w.heap.size ≤ k) ∧ Heap.Touch M w w'

section
variable {W w w1 : World} {M : Nat → Prop} {x N N' : Nat} {L L' : Ents}

theorem XAt.below (h : XAt W M x N L w) : Below W.heap.size W w := by
  obtain ⟨H, vf, _, h2, _⟩ := h.ex
  exact h2.below
theorem XAt.sorted (h : XAt W M x N L w) : SortedE L := by
  obtain ⟨H, vf, _, _, h3⟩ := h.ex
  exact h3.sorted
theorem XAt.bM (h : XAt W M x N L w) {k : Nat} (hk : M k) : k < w.heap.size := by
  obtain ⟨H, vf, _, h2, _⟩ := h.ex
  exact h2.bM k hk
theorem XAt.newM (h : XAt W M x N L w) {k : Nat} (hk : M k) : W.heap.size ≤ k := by
  obtain ⟨H, vf, _, h2, _⟩ := h.ex
  exact h2.newM k hk
theorem XAt.kept (h : XAt W M x N L w) (hb : Below W.heap.size W w1) (hsz : w.heap.size ≤ w1.heap.size) (hs : Same M w w1) : XAt W M x N L w1 := by
  obtain ⟨H, vf, h1, h2, h3⟩ := h.ex
  exact ⟨h.few, H, vf, h1, h2.kept hb hsz hs, h3⟩
theorem XAt.next (h : XAt W M x N L w) (hb : Below w.heap.size w w1) : XAt W M x N L w1 := by
  obtain ⟨H, vf, h1, h2, h3⟩ := h.ex
  exact ⟨h.few, H, vf, h1, h2.next hb, h3⟩
theorem XAt.mono (h : XAt W M x N L w) (hN : N ≤ N') : XAt W M x N' L w := by
  obtain ⟨H, vf, h1, h2, h3⟩ := h.ex
  exact ⟨h.few, H, vf, h1.mono hN, h2, h3⟩

theorem NextX.below (h : NextX W M x N w L' w1) : Below W.heap.size W w1 := by
  obtain ⟨⟨M', h1, _⟩, _⟩ := h
  exact h1.below

theorem next_x {H' : Hp} {cnt' : Nat} (hn : Idx.Next W M x N' cnt' w H' w1) (hr : Rel H' x L') (hc : cnt' = L'.length) (hf : L'.length ≤ 100) : NextX W M x N' w L' w1 := by
  obtain ⟨hG, ⟨M', vf', hI, hM⟩, ht⟩ := hn
  subst hc
  exact ⟨⟨M', ⟨hf, H', vf', hG, hI, hr⟩, hM⟩, ht⟩

theorem put_x (h : XAt W M x N L w) (hN : N ≤ 90000) (hm : ML W) (s : ByteArray) (hs : s.size ≤ 1048576) (v : Int) :
    Calls Tryd.prog 11 #[ptrV x, .string s, .int .i64 v] w fun e w' => e = .returned (.int .i64 ((putL (Subj.err false s.data.toList) L s.data.toList v).2 : Nat)) ∧ NextX W M x (N + 8) w (putL (Subj.err false s.data.toList) L s.data.toList v).1 w' := by
  obtain ⟨H, vf, h1, h2, h3⟩ := h.ex
  refine (put_any h1 h2 hN hm s hs v h.few).mono ?_
  rintro e w' ⟨H', cnt', r, rfl, hn, hc⟩
  obtain ⟨r1, r2, r3⟩ := put_rel h3 hc
  exact ⟨by rw [r2], next_x hn r1 r3 (putL_few h.few)⟩

theorem drop_x (h : XAt W M x N L w) (hN : N ≤ 90000) (hm : ML W) (s : ByteArray) (hs : s.size ≤ 1048576) :
    Calls Tryd.prog 13 #[ptrV x, .string s] w fun e w' => e = .returned (.int .i64 ((dropL (Subj.err false s.data.toList) L s.data.toList).2 : Nat)) ∧ NextX W M x N w (dropL (Subj.err false s.data.toList) L s.data.toList).1 w' := by
  obtain ⟨H, vf, h1, h2, h3⟩ := h.ex
  refine (dropAll_any h1 h2 hN hm s hs h.few (rel_pos h3)).mono ?_
  rintro e w' ⟨H', cnt', r, rfl, hn, hc⟩
  obtain ⟨r1, r2, r3⟩ := drop_rel h3 hc
  exact ⟨by rw [r2], next_x hn r1 r3 (dropL_few h.few)⟩

theorem get_x (h : XAt W M x N L w) (hN : N ≤ 90000) (hm : ML W) (s : ByteArray) (hs : s.size ≤ 1048576) :
    Calls Tryd.prog 15 #[ptrV x, .string s] w fun e w' => e = .returned (.tuple #[.int .i64 (getL (Subj.err false s.data.toList) L s.data.toList).1, .int .i64 ((getL (Subj.err false s.data.toList) L s.data.toList).2 : Nat)]) ∧ Below w.heap.size w w' := by
  obtain ⟨H, vf, h1, h2, h3⟩ := h.ex
  refine (get_any h1 h2 hN hm s hs).mono ?_
  rintro e w' ⟨hb, a, r, rfl, hc⟩
  rw [← get_rel h3 hc]
  exact ⟨rfl, hb⟩

theorem count_x (h : XAt W M x N L w) : Calls Tryd.prog 20 #[ptrV x] w fun e w' => e = .returned (.int .i64 L.length) ∧ w = w' := by
  obtain ⟨H, vf, h1, h2, h3⟩ := h.ex
  exact count_any h1 h2

theorem find_x (h : XAt W M x N L w) (hN : N ≤ 90000) (hm : ML W) (s : ByteArray) (hs : s.size ≤ 1048576) :
    Calls Tryd.prog 17 #[ptrV x, .string s] w (FindPost (Subj.err true s.data.toList) (findL L s.data.toList) w) := by
  obtain ⟨H, vf, h1, h2, h3⟩ := h.ex
  have e := find_same h1 h3 s.data.toList
  rw [← e]
  refine findAll_any h1 h2 (by omega) hm s hs ?_
  have e2 := congrArg List.length e
  rw [toldL_len] at e2
  rw [e2]
  have := List.length_filter_le (fun y : Tok × Int => Subj.takes (pieces s.data.toList) (pieces y.1)) L
  have := h.few
  unfold findL
  omega

theorem x_new (hb : Below W.heap.size W w) : XAt W (fun k => k = w.heap.size) w.heap.size 0 [] (w.alloc (.cells #[.string ⟨#[]⟩, .slice none 0 0, .bool false, .int .i64 0, .int .i64 0] 84)) :=
  ⟨by simp, newH w.heap.size, _, good_new _, idx_new hb, ⟨fun ts n => ⟨fun hd => absurd hd (den_new _ ts n), fun ⟨s, hs, _⟩ => by cases hs⟩, List.Pairwise.nil⟩⟩
end
end Go.Proofs.YtpmffneohcbhbaaDoor.Shf
