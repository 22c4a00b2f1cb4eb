/- Parts of the proof, joined: (*node).walk, walked by its own recursion.; (*node).walk: kid by kid.; (*Index).Find, walked.; The index beside a list of entries: what each call does to it, in plain Lean; then the index's contracts, told by the list alone.; A store in memory: an index, a list of records, their bytes, the last number.; A number's place among a store's records: slices.BinarySearchFunc, walked. -/
import Derived.Test.YtapmhpnkpjgefaaDoorConsumerRulesUptoM8
import Derived.Test.YtapmhpnkpjgefaaDoorConsumerRulesUptoM9
import Derived.Test.YtapmhpnkpjgefaaDoorConsumerRulesUptoM12
import Derived.Test.YtapmhpnkpjgefaaDoorConsumerRulesUptoM13
import Derived.Test.YtapmhpnkpjgefaaDoorConsumerRulesUptoM14
import Derived.Test.YtapmhpnkpjgefaaDoorConsumerRulesUptoM16
import Derived.Deep.LoopGhost
namespace Go.Proofs.YtapmhpnkpjgefaaDoor.Idx
open Go.RowKit Heap
open Subj (Tok ML pieces StrsAt strAt Strs)

/-- The slice of entries lies apart from the tree, and above W. -/
def OutOk (W : World) (M : Nat → Prop) (v : Value) : Prop := ∀ k, own v k → W.heap.size ≤ k ∧ ¬ M k

section
variable {W : World} {M : Nat → Prop} {x : Nat} {H : Hp} {vf : Nat → Value} {cnt N : Nat}

theorem OutOk.next {w : World} {v v' : Value} (h : IdxAt W M x H vf cnt w) (ho : OutOk W M v) (hv : ∀ k, own v' k → own v k ∨ w.heap.size ≤ k) : OutOk W M v' := fun k hk => by
  rcases hv k hk with h1 | h1
  · exact ho k h1
  · exact ⟨Nat.le_trans h.below.size h1, fun hM => by have := h.bM k hM; omega⟩

end
end Go.Proofs.YtapmhpnkpjgefaaDoor.Idx

namespace Go.Proofs.YtapmhpnkpjgefaaDoor.Idx
open Go.RowKit Heap
open Subj (Tok ML pieces StrsAt strAt Strs)

section
variable {W : World} {M : Nat → Prop} {x : Nat} {H : Hp} {vf : Nat → Value} {cnt N : Nat}
end
end Go.Proofs.YtapmhpnkpjgefaaDoor.Idx

namespace Go.Proofs.YtapmhpnkpjgefaaDoor.Idx
open Go.RowKit Heap
open Subj (Tok ML pieces StrsAt strAt Strs)
section
variable {W w : World} {M : Nat → Prop} {x : Nat} {H : Hp} {vf : Nat → Value} {cnt N : Nat}
end
end Go.Proofs.YtapmhpnkpjgefaaDoor.Idx

namespace Go.Proofs.YtapmhpnkpjgefaaDoor.Shf
open Go.RowKit Heap Idx
open Subj (Tok ML pieces)

section
variable {H H' : Hp} {x : Nat} {L : Ents}

theorem rel_same (h : Rel H x L) (hd : SameDen H H' x) : Rel H' x L := ⟨fun ts n => (hd ts n).trans (h.den ts n), h.sorted⟩

theorem no_den (h : Rel H x L) {s : Subj.Tok} (hn : ∀ m, ¬ Den H x (pieces s) m) : ∀ y ∈ L, y.1 ≠ s := fun y hy e => by
  subst e
  exact hn y.2 (h.mem.2 hy)

theorem no_ent (h : Rel H x L) {s : Subj.Tok} (hn : ∀ y ∈ L, y.1 ≠ s) : ∀ m, ¬ Den H x (pieces s) m := fun _m hd => hn _ (h.mem.1 hd) rfl

theorem rel_pos (h : Rel H x L) : (∃ ts m, Den H x ts m) → 1 ≤ L.length := fun ⟨ts, m, hd⟩ => by
  obtain ⟨s, hs, _⟩ := (h.den ts m).1 hd
  exact List.length_pos_of_mem hs

theorem put_rel (h : Rel H x L) {er r cnt' : Nat} {s : Subj.Tok} {v : Int} (hp :
    (er ≠ 0 ∧ r = er ∧ cnt' = L.length ∧ SameDen H H' x) ∨
     (er = 0 ∧ (∀ m, ¬ Den H x (pieces s) m) ∧ L.length = 100 ∧ r = 8 ∧ cnt' = L.length ∧ SameDen H H' x) ∨
     (er = 0 ∧ ((∃ m, Den H x (pieces s) m) ∧ cnt' = L.length ∨ (∀ m, ¬ Den H x (pieces s) m) ∧ L.length ≠ 100 ∧ cnt' = L.length + 1) ∧ r = 0 ∧ ∀ us m, Den H' x us m ↔ (us = pieces s ∧ m = v) ∨ (us ≠ pieces s ∧ Den H x us m))) :
    Rel H' x (putL er L s v).1 ∧ r = (putL er L s v).2 ∧ cnt' = (putL er L s v).1.length := by
  rcases hp with ⟨h1, rfl, rfl, h2⟩ | ⟨rfl, h1, h2, rfl, rfl, h3⟩ | ⟨rfl, h1, rfl, h3⟩
  · rw [show putL r L s v = (L, r) from by unfold putL; rw [if_pos h1]]
    exact ⟨rel_same h h2, rfl, rfl⟩
  · have e := no_den h h1
    rcases idxL_cases L s with ⟨e1, _⟩ | ⟨k, p, e1, e2, e3, _⟩
    · rw [show putL 0 L s v = (L, 8) from by unfold putL; rw [if_neg (by simp), if_neg (by omega), if_pos h2]]
      exact ⟨rel_same h h3, rfl, rfl⟩
    · exact absurd e3 (e p (List.mem_of_getElem? e2))
  · rcases idxL_cases L s with ⟨e1, e2⟩ | ⟨k, p, e1, e2, e3, _⟩
    · rcases h1 with ⟨⟨m, hm⟩, _⟩ | ⟨_, h4, rfl⟩
      · exact absurd hm (no_ent h e2 m)
      · rw [show putL 0 L s v = (insL L s v, 0) from by unfold putL; rw [if_neg (by simp), if_neg (by omega), if_neg h4]]
        exact ⟨rel_ins h e2 h3, rfl, (insL_len L s v).symm⟩
    · rcases h1 with ⟨_, rfl⟩ | ⟨h4, _⟩
      · rw [show putL 0 L s v = (setL L k s v, 0) from by unfold putL; rw [if_neg (by simp), if_pos (by omega), e1]; rfl]
        exact ⟨rel_set h e2 e3 h3, rfl, by simp [setL]⟩
      · exact absurd e3 (no_den h h4 p (List.mem_of_getElem? e2))

theorem drop_rel (h : Rel H x L) {er r cnt' : Nat} {s : Subj.Tok} (hp :
    (er ≠ 0 ∧ r = er ∧ cnt' = L.length ∧ SameDen H H' x) ∨
     (er = 0 ∧ (∀ m, ¬ Den H x (pieces s) m) ∧ r = 4 ∧ cnt' = L.length ∧ SameDen H H' x) ∨
     (er = 0 ∧ (∃ m, Den H x (pieces s) m) ∧ r = 0 ∧ cnt' = L.length - 1 ∧ ∀ us m, Den H' x us m ↔ us ≠ pieces s ∧ Den H x us m)) :
    Rel H' x (dropL er L s).1 ∧ r = (dropL er L s).2 ∧ cnt' = (dropL er L s).1.length := by
  rcases hp with ⟨h1, rfl, rfl, h2⟩ | ⟨rfl, h1, rfl, rfl, h3⟩ | ⟨rfl, ⟨m, hm⟩, rfl, rfl, h3⟩
  · rw [show dropL r L s = (L, r) from by unfold dropL; rw [if_pos h1]]
    exact ⟨rel_same h h2, rfl, rfl⟩
  · have e := no_den h h1
    rcases idxL_cases L s with ⟨e1, _⟩ | ⟨k, p, e1, e2, e3, _⟩
    · rw [show dropL 0 L s = (L, 4) from by unfold dropL; rw [if_neg (by simp), if_pos (by omega)]]
      exact ⟨rel_same h h3, rfl, rfl⟩
    · exact absurd e3 (e p (List.mem_of_getElem? e2))
  · rcases idxL_cases L s with ⟨e1, e2⟩ | ⟨k, p, e1, e2, e3, _⟩
    · exact absurd hm (no_ent h e2 m)
    · rw [show dropL 0 L s = (delL L k, 0) from by unfold dropL; rw [if_neg (by simp), if_neg (by omega), e1]; rfl]
      have hkl := (List.getElem?_eq_some_iff.1 e2).1
      exact ⟨rel_del h e2 e3 h3, rfl, by simp [delL]; omega⟩

theorem get_rel (h : Rel H x L) {er r : Nat} {a : Int} {s : Subj.Tok} (hp :
    (er ≠ 0 ∧ a = 0 ∧ r = er) ∨ (er = 0 ∧ (∀ m, ¬ Den H x (pieces s) m) ∧ a = 0 ∧ r = 4) ∨ (er = 0 ∧ Den H x (pieces s) a ∧ r = 0)) : (a, r) = getL er L s := by
  rcases hp with ⟨h1, rfl, rfl⟩ | ⟨rfl, h1, rfl, rfl⟩ | ⟨rfl, h1, rfl⟩
  · unfold getL; rw [if_pos h1]
  · have e := no_den h h1
    rcases idxL_cases L s with ⟨e1, _⟩ | ⟨k, p, e1, e2, e3, _⟩
    · unfold getL; rw [if_neg (by simp), if_pos (by omega)]
    · exact absurd e3 (e p (List.mem_of_getElem? e2))
  · rcases idxL_cases L s with ⟨e1, e2⟩ | ⟨k, p, e1, e2, e3, _⟩
    · exact absurd h1 (no_ent h e2 a)
    · have hq := h.uniq e2 (h.mem.1 h1) e3.symm
      unfold getL; rw [if_neg (by simp), if_neg (by omega), e1]
      simp [List.getD, e2, ← hq]
end


theorem putL_few {er : Nat} {L : Ents} {s : Subj.Tok} {v : Int} (h : L.length ≤ 100) : (putL er L s v).1.length ≤ 100 := by
  unfold putL
  split
  · exact h
  · split
    · simpa [setL] using h
    · split
      · exact h
      · rw [insL_len]; omega

theorem dropL_few {er : Nat} {L : Ents} {s : Subj.Tok} (h : L.length ≤ 100) : (dropL er L s).1.length ≤ 100 := by
  unfold dropL
  split
  · exact h
  · split
    · exact h
    · simp [delL]; omega

/-- The index x in memory, of the blocks M, tells the list L. -/
structure XAt (W : World) (M : Nat → Prop) (x N : Nat) (L : Ents) (w : World) : Prop where
  few : L.length ≤ 100
  ex : ∃ (H : Hp) (vf : Nat → Value), Idx.Good N H x ∧ IdxAt W M x H vf L.length w ∧ Rel H x L

/-- An index that has come of another one. -/
def NextX (W : World) (M : Nat → Prop) (x N : Nat) (w : World) (L' : Ents) (w' : World) : Prop :=
  (∃ M', XAt W M' x N L' w' ∧ ∀ k, M' k → M k ∨ w.heap.size ≤ k) ∧ Heap.Touch M w w'

section
variable {W w w1 : World} {M : Nat → Prop} {x N N' : Nat} {L L' : Ents}

theorem XAt.below (h : XAt W M x N L w) : Below W.heap.size W w := by
  obtain ⟨H, vf, _, h2, _⟩ := h.ex
  exact h2.below
theorem XAt.sorted (h : XAt W M x N L w) : SortedE L := by
  obtain ⟨H, vf, _, _, h3⟩ := h.ex
  exact h3.sorted
theorem XAt.bM (h : XAt W M x N L w) {k : Nat} (hk : M k) : k < w.heap.size := by
  obtain ⟨H, vf, _, h2, _⟩ := h.ex
  exact h2.bM k hk
theorem XAt.newM (h : XAt W M x N L w) {k : Nat} (hk : M k) : W.heap.size ≤ k := by
  obtain ⟨H, vf, _, h2, _⟩ := h.ex
  exact h2.newM k hk
theorem XAt.kept (h : XAt W M x N L w) (hb : Below W.heap.size W w1) (hsz : w.heap.size ≤ w1.heap.size) (hs : Same M w w1) : XAt W M x N L w1 := by
  obtain ⟨H, vf, h1, h2, h3⟩ := h.ex
  exact ⟨h.few, H, vf, h1, h2.kept hb hsz hs, h3⟩
theorem XAt.next (h : XAt W M x N L w) (hb : Below w.heap.size w w1) : XAt W M x N L w1 := by
  obtain ⟨H, vf, h1, h2, h3⟩ := h.ex
  exact ⟨h.few, H, vf, h1, h2.next hb, h3⟩
theorem XAt.mono (h : XAt W M x N L w) (hN : N ≤ N') : XAt W M x N' L w := by
  obtain ⟨H, vf, h1, h2, h3⟩ := h.ex
  exact ⟨h.few, H, vf, h1.mono hN, h2, h3⟩

theorem NextX.below (h : NextX W M x N w L' w1) : Below W.heap.size W w1 := by
  obtain ⟨⟨M', h1, _⟩, _⟩ := h
  exact h1.below

theorem next_x {H' : Hp} {cnt' : Nat} (hn : Idx.Next W M x N' cnt' w H' w1) (hr : Rel H' x L') (hc : cnt' = L'.length) (hf : L'.length ≤ 100) : NextX W M x N' w L' w1 := by
  obtain ⟨hG, ⟨M', vf', hI, hM⟩, ht⟩ := hn
  subst hc
  exact ⟨⟨M', ⟨hf, H', vf', hG, hI, hr⟩, hM⟩, ht⟩

theorem put_x (h : XAt W M x N L w) (hN : N ≤ 90000) (hm : ML W) (s : ByteArray) (hs : s.size ≤ 1048576) (v : Int) :
    Calls Tryd.prog 50 #[ptrV x, .string s, .int .i64 v] w fun e w' => e = .returned (.int .i64 ((putL (Subj.err false s.data.toList) L s.data.toList v).2 : Nat)) ∧ NextX W M x (N + 8) w (putL (Subj.err false s.data.toList) L s.data.toList v).1 w' := by
  obtain ⟨H, vf, h1, h2, h3⟩ := h.ex
  refine (put_any h1 h2 hN hm s hs v h.few).mono ?_
  rintro e w' ⟨H', cnt', r, rfl, hn, hc⟩
  obtain ⟨r1, r2, r3⟩ := put_rel h3 hc
  exact ⟨by rw [r2], next_x hn r1 r3 (putL_few h.few)⟩

theorem drop_x (h : XAt W M x N L w) (hN : N ≤ 90000) (hm : ML W) (s : ByteArray) (hs : s.size ≤ 1048576) :
    Calls Tryd.prog 49 #[ptrV x, .string s] w fun e w' => e = .returned (.int .i64 ((dropL (Subj.err false s.data.toList) L s.data.toList).2 : Nat)) ∧ NextX W M x N w (dropL (Subj.err false s.data.toList) L s.data.toList).1 w' := by
  obtain ⟨H, vf, h1, h2, h3⟩ := h.ex
  refine (dropAll_any h1 h2 hN hm s hs h.few (rel_pos h3)).mono ?_
  rintro e w' ⟨H', cnt', r, rfl, hn, hc⟩
  obtain ⟨r1, r2, r3⟩ := drop_rel h3 hc
  exact ⟨by rw [r2], next_x hn r1 r3 (dropL_few h.few)⟩

theorem get_x (h : XAt W M x N L w) (hN : N ≤ 90000) (hm : ML W) (s : ByteArray) (hs : s.size ≤ 1048576) :
    Calls Tryd.prog 47 #[ptrV x, .string s] w fun e w' => e = .returned (.tuple #[.int .i64 (getL (Subj.err false s.data.toList) L s.data.toList).1, .int .i64 ((getL (Subj.err false s.data.toList) L s.data.toList).2 : Nat)]) ∧ Below w.heap.size w w' := by
  obtain ⟨H, vf, h1, h2, h3⟩ := h.ex
  refine (get_any h1 h2 hN hm s hs).mono ?_
  rintro e w' ⟨hb, a, r, rfl, hc⟩
  rw [← get_rel h3 hc]
  exact ⟨rfl, hb⟩

theorem count_x (h : XAt W M x N L w) : Calls Tryd.prog 48 #[ptrV x] w fun e w' => e = .returned (.int .i64 L.length) ∧ w = w' := by
  obtain ⟨H, vf, h1, h2, h3⟩ := h.ex
  exact count_any h1 h2

theorem x_new (hb : Below W.heap.size W w) : XAt W (fun k => k = w.heap.size) w.heap.size 0 [] (w.alloc (.cells #[.string ⟨#[]⟩, .slice none 0 0, .bool false, .int .i64 0, .int .i64 0] 117)) :=
  ⟨by simp, newH w.heap.size, _, good_new _, idx_new hb, ⟨fun ts n => ⟨fun hd => absurd hd (den_new _ ts n), fun ⟨s, hs, _⟩ => by cases hs⟩, List.Pairwise.nil⟩⟩
end
end Go.Proofs.YtapmhpnkpjgefaaDoor.Shf

namespace Go.Proofs.YtapmhpnkpjgefaaDoor.Sto
open Go.RowKit Heap
open Subj (Tok ML pieces takes)
open Rec (Rc recErr far recA rcOf)
open Idx (Ents ptrV idxL)
open Shf (XAt NextX getL dropL putL SortedE)

/-- A store in memory. -/
structure SAt (W : World) (M : Nat → Prop) (x N : Nat) (I : Ents) (D : Nat) (v : Value) (L : List Rc) (bt last : Int) (w : World) : Prop where
  idx : XAt W M x N I w
  cell : w.heap[D]? = some (.cells #[v, ptrV x, .int .i64 bt, .int .i64 last] 85 (0, 0))
  row : Row w 42 6 v L.length (recsV L)
  mD : ¬ M D
  oldD : W.heap.size ≤ D
  vM : ∀ k, own v k → ¬ M k ∧ W.heap.size ≤ k

theorem fourS {D : Nat} {a0 a1 a2 a3 : Value} {t : TypeId} {w : World} (h : w.heap[D]? = some (.cells #[a0, a1, a2, a3] t (0, 0))) :
    w.cell? ⟨D, 0, none⟩ = some a0 ∧ w.cell? ⟨D, 1, none⟩ = some a1 ∧ w.cell? ⟨D, 2, none⟩ = some a2 ∧ w.cell? ⟨D, 3, none⟩ = some a3 ∧ ∀ j, w.frozen? ⟨D, j, none⟩ = false := by
  refine ⟨?_, ?_, ?_, ?_, fun j => frozen_of_row w D j _ _ h⟩
  · rw [cell_of_row w D 0 _ _ _ h]; rfl
  · rw [cell_of_row w D 1 _ _ _ h]; rfl
  · rw [cell_of_row w D 2 _ _ _ h]; rfl
  · rw [cell_of_row w D 3 _ _ _ h]; rfl

theorem ne_rec {D n : Nat} {w : World} {v a0 a1 a2 a3 : Value} {xs : List Value} (h : w.heap[D]? = some (.cells #[a0, a1, a2, a3] 85 (0, 0))) (hr : Row w 42 6 v n xs) : ¬ own v D := fun ho => by
  rcases hr.2 with ⟨rfl, _⟩ | ⟨g, off, cap, cur, rfl, hg, _⟩
  · simp [own, Value.ownBlock] at ho
  · simp [own, Value.ownBlock] at ho
    subst ho
    rw [h] at hg
    simp at hg

section
variable {W w w1 : World} {M : Nat → Prop} {x N N' D : Nat} {I I' : Ents} {v v' : Value} {L L' : List Rc} {bt last bt' last' : Int}

theorem SAt.lt (h : SAt W M x N I D v L bt last w) : D < w.heap.size := heap_lt h.cell
theorem SAt.ne (h : SAt W M x N I D v L bt last w) : ¬ own v D := ne_rec h.cell h.row

/-- All but the index is turned. -/
theorem SAt.turn (h : SAt W M x N I D v L bt last w) (ht : Heap.Touch (fun k => own v k ∨ k = D) w w1) (hc : w1.heap[D]? = some (.cells #[v', ptrV x, .int .i64 bt', .int .i64 last'] 85 (0, 0)))
    (hr : Row w1 42 6 v' L'.length (recsV L')) (ho : ∀ k, own v' k → own v k ∨ w.heap.size ≤ k) : SAt W M x N I D v' L' bt' last' w1 := by
  have hb := h.idx.below
  refine ⟨h.idx.kept (hb.trans (ht.below hb.size fun k hk => ?_)) ht.size (ht.same fun k hm hk => ?_), hc, hr, h.mD, h.oldD, fun k hk => ?_⟩
  · rcases hk with hk | rfl
    · exact (h.vM k hk).2
    · exact h.oldD
  · rcases hk with hk | rfl
    · exact (h.vM k hk).1 hm
    · exact h.mD hm
  · rcases ho k hk with e | e
    · exact h.vM k e
    · exact ⟨fun hm => by have := h.idx.bM hm; omega, Nat.le_trans hb.size e⟩

theorem SAt.next (h : SAt W M x N I D v L bt last w) (hb : Below w.heap.size w w1) : SAt W M x N I D v L bt last w1 :=
  h.turn (Heap.Touch.ofBelow hb) ((hb.block D h.lt).trans h.cell) (h.row.kept fun k _ hk => hb.block k hk) fun _ hk => .inl hk

theorem touch_D (w : World) (D j : Nat) (u : Value) : Heap.Touch (fun k => k = D) w (w.setCell ⟨D, j, none⟩ u) := Heap.Touch.setCell (F := fun k => k = D) (p := ⟨D, j, none⟩) (Heap.Touch.refl _ w) (.inl rfl) _

theorem SAt.setBytes (h : SAt W M x N I D v L bt last w) (b : Int) : SAt W M x N I D v L b last (w.setCell ⟨D, 2, none⟩ (.int .i64 b)) :=
  h.turn ((touch_D w D 2 _).mono fun _ _ e => .inr e) (heap_setCell_same _ _ _ _ _ _ h.cell) (h.row.kept fun k hk hlt => (touch_D w D 2 _).block k hlt fun e => h.ne (e ▸ hk)) fun _ hk => .inl hk

theorem SAt.setLast (h : SAt W M x N I D v L bt last w) (b : Int) : SAt W M x N I D v L bt b (w.setCell ⟨D, 3, none⟩ (.int .i64 b)) :=
  h.turn ((touch_D w D 3 _).mono fun _ _ e => .inr e) (heap_setCell_same _ _ _ _ _ _ h.cell) (h.row.kept fun k hk hlt => (touch_D w D 3 _).block k hlt fun e => h.ne (e ▸ hk)) fun _ hk => .inl hk

/-- Another list, of the same array or of a new one. -/
theorem SAt.setList (h : SAt W M x N I D v L bt last w) (ht : Heap.Touch (own v) w w1) (hr : Row w1 42 6 v' L'.length (recsV L')) (ho : ∀ k, own v' k → own v k ∨ w.heap.size ≤ k) :
    SAt W M x N I D v' L' bt last (w1.setCell ⟨D, 0, none⟩ v') := by
  have hD1 : w1.heap[D]? = _ := (ht.block D h.lt h.ne).trans h.cell
  have hne : ¬ own v' D := ne_rec hD1 hr
  exact h.turn ((ht.mono fun _ _ e => .inl e).setCell (.inl (.inr rfl)) _) (by rw [heap_setCell_same _ _ _ _ _ _ hD1]; rfl) (hr.kept fun k hk hlt => (touch_D w1 D 0 _).block k hlt fun e => hne (e ▸ hk)) ho

/-- The index has been called. -/
theorem SAt.call (h : SAt W M x N I D v L bt last w) (hn : NextX W M x N' w I' w1) : ∃ M', SAt W M' x N' I' D v L bt last w1 ∧ ∀ k, M' k → M k ∨ w.heap.size ≤ k := by
  obtain ⟨⟨M', hX, hM⟩, ht⟩ := hn
  refine ⟨M', ⟨hX, (ht.block D h.lt h.mD).trans h.cell, h.row.kept fun k hk hlt => ht.block k hlt (h.vM k hk).1, fun hk => ?_, h.oldD, fun k hk => ⟨fun hm => ?_, (h.vM k hk).2⟩⟩, hM⟩
  · rcases hM D hk with e | e
    · exact h.mD e
    · have := h.lt; omega
  · rcases hM k hm with e | e
    · exact (h.vM k hk).1 e
    · have := h.row.lt k hk; omega
end
end Go.Proofs.YtapmhpnkpjgefaaDoor.Sto

namespace Go.Proofs.YtapmhpnkpjgefaaDoor.Sto
open Go.RowKit Heap
open Subj (Tok ML pieces takes)
open Rec (Rc recErr far recA rcOf)
open Idx (Ents ptrV mem_take_get mem_drop_get)
open Shf (XAt NextX)

/-- The comparison. -/
def cmpR (q : Int) (r : Rc) : Int := IntKind.i64.wrap (r.seq - q)

theorem cmpR_in {q : Int} {r : Rc} (h1 : 0 ≤ r.seq ∧ r.seq ≤ far) (h2 : -4611686018427387904 ≤ q ∧ q ≤ 9223372036854775807) : cmpR q r = r.seq - q := by
  unfold cmpR
  unfold far at h1
  exact IntWalk.i64_in _ (by omega)

theorem cmpR_zero {q : Int} {r : Rc} (h1 : 0 ≤ r.seq ∧ r.seq ≤ far) (h2 : -9223372036854775808 ≤ q ∧ q ≤ 9223372036854775807) (h : cmpR q r = 0) : r.seq = q := by
  unfold cmpR at h
  unfold far at h1
  rw [IntKind.wrap_i64] at h
  omega

set_option maxRecDepth 100000 in
theorem cmp_rec (r : Rc) (q : Int) (w : World) : Calls Tryd.prog 52 #[.agg #[.int .i64 r.kind, .int .i64 r.seq, .int .i64 r.time, .string ⟨r.subj.toArray⟩, .string ⟨r.head.toArray⟩, .string ⟨r.data.toArray⟩], .int .i64 q] w fun e w' => e = .returned (.int .i64 (cmpR q r)) ∧ Below w.heap.size w w' := by
  obtain ⟨s, h, d, hp⟩ := parts r
  rw [hp.s1, hp.h1, hp.d1]
  obtain ⟨z, hz⟩ : ∃ z, cmpR q r = z := ⟨_, rfl⟩
  have HZ := Lib.hid hz
  rw [hz]
  unfold cmpR at hz
  go_enter Tryd.func52, Tryd.ntmps52
  go_wp2
  go_ret
  exact ⟨ret_int rfl, (Below.refl _ _).alloc (Nat.le_refl _) _⟩

/-- Where a search ends. -/
structure Found (L : List Rc) (q : Int) (i : Nat) (fd : Bool) : Prop where
  le : i ≤ L.length
  yes : fd = true → ∃ r, L[i]? = some r ∧ cmpR q r = 0
  no : fd = false → ∀ r, L[i]? = some r → cmpR q r ≠ 0
  sides : (∀ (j k : Nat) (a b : Rc), j < k → L[j]? = some a → L[k]? = some b → cmpR q a < cmpR q b) → (∀ r ∈ L.take i, cmpR q r < 0) ∧ ∀ r ∈ L.drop i, 0 ≤ cmpR q r

def Mono (L : List Rc) (q : Int) : Prop := ∀ (j k : Nat) (a b : Rc), j < k → L[j]? = some a → L[k]? = some b → cmpR q a < cmpR q b

section
variable {w : World}

set_option maxHeartbeats 4000000 in
set_option maxRecDepth 100000 in
theorem search_rec {v : Value} {L : List Rc} (hrow : Row w 42 6 v L.length (recsV L)) (hfew : L.length ≤ 100000) (q : Int) :
    Calls Tryd.prog 51 #[v, .int .i64 q, .func (.func 52) #[] #[]] w fun e w' =>
      ∃ i fd, e = .returned (.tuple #[.int .i64 (i : Nat), .bool fd]) ∧ Found L q i fd ∧ Below w.heap.size w w' := by
  obtain ⟨n, hn⟩ : ∃ n, L.length = n := ⟨_, rfl⟩
  rw [hn] at hrow hfew
  have HN := Lib.hid hn
  clear hn
  rcases hrow.2 with ⟨e, h0⟩ | ⟨g, off, cap, cur, e, hg, hle, hcapm, _⟩
  · rw [e]
    subst h0
    have hk0 : L = [] := List.eq_nil_of_length_eq_zero HN.out
    have HF := Lib.hid (show Found L q 0 false from ⟨Nat.zero_le _, (fun h => by cases h), (fun _ r h => by rw [hk0] at h; simp at h), fun _ => ⟨(fun r h => by simp at h), (fun r h => by rw [hk0] at h; simp at h)⟩⟩)
    clear hrow e hk0
    go_enter Tryd.func51, Tryd.ntmps51
    go_wp2_with fail
    go_loopw [9, 10] (fun a b wr => a = .int .i64 0 ∧ b = .int .i64 0 ∧ wr = w) (fun _ _ _ => 0)
    case atStart => exact ⟨rfl, rfl, rfl⟩
    case round =>
      obtain ⟨rfl, rfl, rfl⟩ := hrel
      go_wp2
      go_ret2
      exact ⟨0, false, rfl, HF.out, Below.refl _ _⟩
  · rw [e] at hrow ⊢
    have HR := Lib.hid hrow
    have hglt : g < w.heap.size := heap_lt hg
    clear hrow e hg
    go_enter Tryd.func51, Tryd.ntmps51
    go_wp2_with fail
    go_loopw [9, 10] (fun a b wr => ∃ lo hi : Nat, a = .int .i64 lo ∧ b = .int .i64 hi ∧ lo ≤ hi ∧ hi ≤ n ∧ Below w.heap.size w wr ∧ Hid (Mono L q → (∀ j k, j < lo → L[j]? = some k → cmpR q k < 0) ∧ (∀ j k, hi ≤ j → L[j]? = some k → 0 ≤ cmpR q k))) (fun a b _ => (intOf b).toNat - (intOf a).toNat)
    case atStart => exact ⟨0, n, rfl, rfl, Nat.zero_le _, Nat.le_refl _, Below.refl _ _, Lib.hid fun _ => ⟨fun j k hj => absurd hj (Nat.not_lt_zero _), fun j k hj hk => by have h1 := (List.getElem?_eq_some_iff.1 hk).1; rw [HN.out] at h1; omega⟩⟩
    case round =>
      obtain ⟨lo, hi, rfl, rfl, hlh, hin, BW, I⟩ := hrel
      have BB := Lib.hid BW
      by_cases hlt : lo < hi
      · obtain ⟨k, hk⟩ : ∃ k, L[(lo + hi) / 2]? = some k := ⟨_, List.getElem?_eq_getElem (by rw [HN.out]; omega)⟩
        have hrow' := HR.out.kept (w' := wr) (fun j _ hj => BW.block j hj)
        obtain ⟨m0, m1, m2, m3, m4, m5⟩ := cells_rec hrow' ((lo + hi) / 2) k hk (by omega)
        have hc := cmp_rec k q wr
        have K := Lib.hid hk
        obtain ⟨s, h, d, hp⟩ := parts k
        rw [hp.s1] at m3 hc
        rw [hp.h1] at m4 hc
        rw [hp.d1] at m5 hc
        clear hrow' hk BW hp
        by_cases hyx : cmpR q k < 0
        · generalize hz : cmpR q k = z at hc hyx
          have Z := Lib.hid hz
          clear hz
          go_wp2_with fail
          refine hc.mono ?_
          rintro e w' ⟨rfl, hb'⟩
          go_wp2_with fail
          refine ⟨⟨(lo + hi) / 2 + 1, hi, by rw [show ((lo : Int) + (hi : Int)) / 2 + 1 = (((lo + hi) / 2 + 1 : Nat) : Int) by omega], rfl, by omega, hin, BB.out.trans (hb'.mono BB.out.size), Lib.hid fun hP => ⟨fun j k' hj hk' => ?_, (I.out hP).2⟩⟩, by simp [intOf]; omega⟩
          by_cases e : j = (lo + hi) / 2
          · subst e
            rw [K.out] at hk'
            cases hk'
            rw [Z.out]; exact hyx
          · have h9 := hP j _ _ _ (show j < (lo + hi) / 2 by omega) hk' K.out
            rw [Z.out] at h9
            omega
        · generalize hz : cmpR q k = z at hc hyx
          have Z := Lib.hid hz
          clear hz
          go_wp2_with fail
          refine hc.mono ?_
          rintro e w' ⟨rfl, hb'⟩
          go_wp2_with fail
          refine ⟨⟨lo, (lo + hi) / 2, rfl, by rw [show ((lo : Int) + (hi : Int)) / 2 = (((lo + hi) / 2 : Nat) : Int) by omega], by omega, by omega, BB.out.trans (hb'.mono BB.out.size), Lib.hid fun hP => ⟨(I.out hP).1, fun j k' hj hk' => ?_⟩⟩, by simp [intOf]; omega⟩
          by_cases e : j = (lo + hi) / 2
          · subst e
            rw [K.out] at hk'
            cases hk'
            rw [Z.out]; omega
          · have h9 := hP _ j _ _ (show (lo + hi) / 2 < j by omega) K.out hk'
            rw [Z.out] at h9
            omega
      · obtain rfl : hi = lo := by omega
        have HLO := Lib.hid (show Mono L q → (∀ y ∈ L.take hi, cmpR q y < 0) ∧ (∀ y ∈ L.drop hi, 0 ≤ cmpR q y) from fun hP =>
          ⟨fun y hy => let ⟨j, hj, e⟩ := mem_take_get hy; (I.out hP).1 j y hj e, fun y hy => let ⟨j, hj, e⟩ := mem_drop_get hy; (I.out hP).2 j y hj e⟩)
        by_cases hlt2 : hi < n
        · obtain ⟨k, hk⟩ : ∃ k, L[hi]? = some k := ⟨_, List.getElem?_eq_getElem (by rw [HN.out]; omega)⟩
          have hrow' := HR.out.kept (w' := wr) (fun j _ hj => BW.block j hj)
          obtain ⟨m0, m1, m2, m3, m4, m5⟩ := cells_rec hrow' hi k hk (by omega)
          have hc := cmp_rec k q wr
          have K := Lib.hid hk
          obtain ⟨s, h, d, hp⟩ := parts k
          rw [hp.s1] at m3 hc
          rw [hp.h1] at m4 hc
          rw [hp.d1] at m5 hc
          clear hrow' hk BW hp
          by_cases hyx : cmpR q k = 0
          · have Z := Lib.hid hyx
            rw [hyx] at hc
            clear hyx
            go_wp2_with fail
            refine hc.mono ?_
            rintro e w' ⟨rfl, hb'⟩
            go_wp2_with fail
            go_ret2
            exact ⟨hi, true, rfl, ⟨by rw [HN.out]; exact hin, fun _ => ⟨k, K.out, Z.out⟩, (fun h => by cases h), HLO.out⟩, BB.out.trans (hb'.mono BB.out.size)⟩
          · generalize hz : cmpR q k = z at hc hyx
            have Z := Lib.hid hz
            have hz0 : (z == 0) = false := by simpa using hyx
            clear hz
            go_wp2_with fail
            refine hc.mono ?_
            rintro e w' ⟨rfl, hb'⟩
            go_wp2_with fail
            go_ret2
            exact ⟨hi, false, by simp, ⟨by rw [HN.out]; exact hin, (fun h => by cases h), (fun _ r hr => by
              rw [K.out] at hr
              cases hr
              rw [Z.out]; exact hyx), HLO.out⟩, BB.out.trans (hb'.mono BB.out.size)⟩
        · obtain rfl : hi = n := by omega
          have HF := Lib.hid (show Found L q hi false from ⟨by rw [HN.out]; exact hin, (fun h => by cases h), (fun _ r hr => by
            have h1 := (List.getElem?_eq_some_iff.1 hr).1
            rw [HN.out] at h1; omega), HLO.out⟩)
          clear BW
          go_wp2
          go_ret2
          exact ⟨hi, false, rfl, HF.out, BB.out⟩

variable {W : World} {M : Nat → Prop} {x N D : Nat} {I : Ents} {v : Value} {L : List Rc} {bt last : Int}

set_option maxRecDepth 100000 in
theorem place_rec (h : SAt W M x N I D v L bt last w) (hfew : L.length ≤ 100000) (q : Int) :
    Calls Tryd.prog 32 #[.pointer (some ⟨D, 0, none⟩), .int .i64 q] w fun e w' =>
      ∃ i fd, e = .returned (.tuple #[.int .i64 (i : Nat), .bool fd]) ∧ Found L q i fd ∧ Below w.heap.size w w' := by
  obtain ⟨c0, c1, c2, c3, cf⟩ := fourS h.cell
  have hlt := h.lt
  have HS := Lib.hid (search_rec h.row hfew q)
  clear h
  go_enter Tryd.func32, Tryd.ntmps32
  go_wp2_with fail
  refine HS.out.mono ?_
  rintro e w' ⟨i, fd, rfl, hp, hb'⟩
  have HF := Lib.hid (show Found L q i fd ∧ Below w.heap.size w w' from ⟨hp, hb'⟩)
  clear hp hb'
  go_wp2
  go_ret2
  exact ⟨i, fd, rfl, HF.out⟩

/-- Every number's place among rising ones. -/
theorem Found.in {i : Nat} {fd : Bool} {q : Int} (h : Found L q i fd) (hr : L.Pairwise fun a b => a.seq < b.seq) (hs : ∀ r ∈ L, 0 ≤ r.seq ∧ r.seq ≤ far) (hq : -4611686018427387904 ≤ q ∧ q ≤ 9223372036854775807) :
    (∀ r ∈ L.take i, r.seq < q) ∧ (∀ r ∈ L.drop i, q ≤ r.seq) ∧ fd = hasSeq L q ∧ (fd = true → ∃ r, L[i]? = some r ∧ r.seq = q) := by
  have hz : ∀ r ∈ L, cmpR q r = r.seq - q := fun r hr => cmpR_in (hs r hr) hq
  have hm : Mono L q := fun j k a b hjk h1 h2 => by
    rw [hz a (List.mem_of_getElem? h1), hz b (List.mem_of_getElem? h2)]
    obtain ⟨hi, rfl⟩ := List.getElem?_eq_some_iff.1 h1
    obtain ⟨hj, rfl⟩ := List.getElem?_eq_some_iff.1 h2
    have := List.pairwise_iff_getElem.1 hr j k hi hj hjk
    omega
  obtain ⟨hl, hu⟩ := h.sides hm
  have hl' : ∀ r ∈ L.take i, r.seq < q := fun r hr => by
    have := hl r hr
    rw [hz r (List.mem_of_mem_take hr)] at this; omega
  have hu' : ∀ r ∈ L.drop i, q ≤ r.seq := fun r hr => by
    have := hu r hr
    rw [hz r (List.mem_of_mem_drop hr)] at this; omega
  refine ⟨hl', hu', ?_, fun hf => ?_⟩
  · cases fd with
    | true =>
      obtain ⟨r, h1, h2⟩ := h.yes rfl
      have h3 := List.mem_of_getElem? h1
      rw [hz r h3] at h2
      symm
      unfold hasSeq
      rw [List.any_eq_true]
      exact ⟨r, h3, by simp; omega⟩
    | false =>
      symm
      unfold hasSeq
      rw [List.any_eq_false]
      intro r hrm he
      have he : r.seq = q := by simpa using he
      rw [← List.take_append_drop i L, List.mem_append] at hrm
      rcases hrm with h1 | h1
      · have := hl' r h1; omega
      · obtain ⟨j, hj, e⟩ := mem_drop_get h1
        by_cases e3 : j = i
        · subst e3
          have h4 := h.no rfl r e
          rw [hz r (List.mem_of_getElem? e)] at h4
          omega
        · have hjl := (List.getElem?_eq_some_iff.1 e).1
          obtain ⟨k, hk⟩ : ∃ k, L[i]? = some k := ⟨_, List.getElem?_eq_getElem (by omega)⟩
          have h5 := hm i j k r (by omega) hk e
          rw [hz k (List.mem_of_getElem? hk), hz r (List.mem_of_getElem? e)] at h5
          have h6 := hu' k (List.mem_iff_getElem?.2 ⟨0, by rw [List.getElem?_drop, Nat.add_zero]; exact hk⟩)
          omega
  · subst hf
    obtain ⟨r, h1, h2⟩ := h.yes rfl
    rw [hz r (List.mem_of_getElem? h1)] at h2
    exact ⟨r, h1, by omega⟩
end
end Go.Proofs.YtapmhpnkpjgefaaDoor.Sto
