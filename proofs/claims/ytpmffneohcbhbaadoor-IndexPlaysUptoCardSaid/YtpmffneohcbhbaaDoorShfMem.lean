/- The reference's index, a list of entries, in memory: at, Get. -/
import Derived.Test.YtpmffneohcbhbaaDoorShfRun
import Derived.Test.YtpmffneohcbhbaaDoorIdxAll
import Derived.Test.YtpmffneohcbhbaaDoorRefSubj1
namespace Go.Proofs.YtpmffneohcbhbaaDoor.Shf
open Go.RowKit Heap Idx
open Subj (Tok ML pieces)

structure ShelfAt (W : World) (G : Nat → Prop) (E : Nat) (L : Ents) (w : World) : Prop where
  few : L.length ≤ 100
  short : ∀ e ∈ L, e.1.length ≤ 200
  below : Below W.heap.size W w
  newG : ∀ k, G k → W.heap.size ≤ k
  bG : ∀ k, G k → k < w.heap.size
  gE : G E
  mem : ∃ v, w.heap[E]? = some (.cells #[v] 28 (0, 0)) ∧ Row w 40 2 v L.length (entV L) ∧ ∀ k, own v k → G k

theorem oneC {B : Nat} {w : World} {t : TypeId} {a0 : Value} (h : w.heap[B]? = some (.cells #[a0] t (0, 0))) :
    w.cell? ⟨B, 0, none⟩ = some a0 ∧ ∀ j, w.frozen? ⟨B, j, none⟩ = false := by
  refine ⟨?_, fun j => ?_⟩
  · rw [cell_of_row w B 0 _ _ _ h]; rfl
  · exact frozen_of_row w B j _ _ h

theorem ne_row {E n : Nat} {w : World} {v a0 : Value} {xs : List Value} (h : w.heap[E]? = some (.cells #[a0] 28 (0, 0))) (hr : Row w 40 2 v n xs) : ¬ own v E := fun ho => by
  rcases hr.2 with ⟨rfl, _⟩ | ⟨g, off, cap, cur, rfl, hg, _⟩
  · simp [own, Value.ownBlock] at ho
  · simp [own, Value.ownBlock] at ho
    subst ho
    rw [h] at hg
    simp at hg

/-- A shelf that has come of another one. -/
def NextS (W : World) (G : Nat → Prop) (E : Nat) (w : World) (L' : Ents) (w' : World) : Prop :=
  (∃ G', ShelfAt W G' E L' w' ∧ ∀ k, G' k → G k ∨ w.heap.size ≤ k) ∧ Heap.Touch G w w'

section
variable {W w w' : World} {G : Nat → Prop} {E : Nat} {L : Ents}

theorem ShelfAt.kept (h : ShelfAt W G E L w) (hb : Below W.heap.size W w') (hsz : w.heap.size ≤ w'.heap.size) (hs : Same G w w') : ShelfAt W G E L w' := by
  obtain ⟨v, h1, h2, h3⟩ := h.mem
  exact ⟨h.few, h.short, hb, h.newG, fun k hk => Nat.lt_of_lt_of_le (h.bG k hk) hsz, h.gE, v, (hs E h.gE (heap_lt h1)).trans h1, h2.kept (fun k hk hlt => hs k (h3 k hk) hlt), h3⟩

theorem ShelfAt.next (h : ShelfAt W G E L w) (hb : Below w.heap.size w w') : ShelfAt W G E L w' :=
  h.kept (h.below.trans (hb.mono h.below.size)) hb.size fun k _ hk => hb.block k hk

theorem NextS.refl (h : ShelfAt W G E L w) (hb : Below w.heap.size w w') : NextS W G E w L w' := ⟨⟨G, h.next hb, fun _ hk => .inl hk⟩, Heap.Touch.ofBelow hb⟩

theorem tells_s (l : Ents) (s : ByteArray) (X : Nat) : Tells l 86 #[.pointer (some ⟨X, 0, none⟩)] (fun p => p.1 == s.data.toList) (fun w => w.cell? ⟨X, 0, none⟩ = some (.string s)) := by
  intro W x _ hC
  show Calls Tryd.prog _ #[.agg #[.string ⟨x.1.toArray⟩, .int .i64 x.2], .pointer (some ⟨X, 0, none⟩)] W fun e w' => e = .returned (.bool (x.1 == s.data.toList)) ∧ Below W.heap.size W w'
  have hX := World.block_lt_of_cell? W _ hC
  have e1 : (⟨x.1.toArray⟩ : ByteArray).toList = x.1 := Subj.bytes_toList _
  have e2 : s.toList = s.data.toList := ByteArray.toList_eq _
  obtain ⟨p, hp⟩ : ∃ p : ByteArray, (⟨x.1.toArray⟩ : ByteArray) = p := ⟨_, rfl⟩
  rw [hp] at e1 ⊢
  rw [← e1, ← e2]
  clear hp e1 e2
  go_enter Tryd.func86, Tryd.ntmps86
  go_wp2
  go_ret
  exact ⟨rfl, (Below.refl _ _).alloc (Nat.le_refl _) _⟩

set_option maxHeartbeats 1000000 in
set_option maxRecDepth 100000 in
theorem at_any (h : ShelfAt W G E L w) (s : ByteArray) :
    Calls Tryd.prog 54 #[.pointer (some ⟨E, 0, none⟩), .string s] w fun e w' => e = .returned (.int .i64 (idxL L s.data.toList)) ∧ Below w.heap.size w w' := by
  obtain ⟨v, h1, h2, h3⟩ := h.mem
  obtain ⟨w1, hw1⟩ : ∃ w1, w1 = w.alloc (.cells #[.string s] 9) := ⟨_, rfl⟩
  have hb1 : Below w.heap.size w w1 := by rw [hw1]; exact (Below.refl _ _).alloc (Nat.le_refl _) _
  have hc : w1.cell? ⟨w.heap.size, 0, none⟩ = some (.string s) := by rw [hw1, World.cell?_alloc_at _ _ _ _ rfl]; rfl
  have hE1 := (hb1.block E (heap_lt h1)).trans h1
  obtain ⟨c0, cf⟩ := oneC hE1
  have hEl := heap_lt hE1
  have hr1 := h2.kept (w' := w1) fun k _ hk => hb1.block k hk
  have hlen := h.few
  have hidx := index_any 86 #[.pointer (some ⟨w.heap.size, 0, none⟩)] (fun p => p.1 == s.data.toList) (fun w => w.cell? ⟨_, 0, none⟩ = some (.string s)) (fun _ _ => rfl) v L w1 hr1 (by omega) hc
    (fun Wa Wb hCa ht => (ht.cell (World.block_lt_of_cell? Wa _ hCa) (fun ho => by have h4 : w.heap.size < w.heap.size := h2.lt _ ho; omega)).trans hCa) (tells_s _ s _) (idxL L s.data.toList) (by
      rcases idxL_cases L s.data.toList with ⟨e1, e2⟩ | ⟨k, p, e1, e2, e3, e5⟩
      · exact .inl ⟨e1, fun x hx => by have := e2 x hx; simpa using this⟩
      · exact .inr ⟨k, p, e1, e2, by simpa using e3, fun y hy => by have := e5 y hy; simpa using this⟩)
  have HI := Lib.hid hidx; have HB := Lib.hid hb1
  clear h h1 h2 h3 hc hE1 hr1 hlen hidx hb1
  go_enter Tryd.func54, Tryd.ntmps54
  go_upto_region 1 with fail
  rw [← hw1]
  clear hw1
  go_wp2_with fail
  refine HI.out.mono ?_
  rintro e w' ⟨rfl, hb⟩
  have HF := Lib.hid (HB.out.trans (hb.mono HB.out.size))
  clear hb
  go_wp2
  go_ret
  exact ⟨rfl, HF.out⟩

set_option maxHeartbeats 1000000 in
set_option maxRecDepth 100000 in
theorem get_shf (h : ShelfAt W G E L w) (s : ByteArray) (hs : s.size ≤ 1048576) :
    Calls Tryd.prog 16 #[.pointer (some ⟨E, 0, none⟩), .string s] w fun e w' => e = .returned (.tuple #[.int .i64 (getL (Subj.err false s.data.toList) L s.data.toList).1, .int .i64 (getL (Subj.err false s.data.toList) L s.data.toList).2]) ∧ Below w.heap.size w w' := by
  have HSU := Lib.hid (Subj.refSubject_any s w hs)
  have HA := Lib.hid (fun w1 (hb : Below w.heap.size w w1) => at_any (h.next hb) s)
  have HH := Lib.hid h
  generalize Subj.err false s.data.toList = er at *
  generalize s.data.toList = t at *
  clear h hs
  by_cases he : er = 0
  · subst he
    rcases idxL_cases L t with ⟨e1, e2⟩ | ⟨k, p, e1, e2, e3, e5⟩
    · have hr : getL 0 L t = (0, 4) := by unfold getL; rw [if_neg (by simp), if_pos (by omega)]
      rw [hr]
      rw [e1] at HA
      clear hr e1 e2
      go_enter Tryd.func16, Tryd.ntmps16
      go_wp2_with fail
      refine HSU.out.mono ?_
      rintro e w1 ⟨rfl, hb1⟩
      have HB1 := Lib.hid hb1
      clear hb1 HSU
      go_wp2_with fail
      refine (HA.out w1 HB1.out).mono ?_
      rintro e w2 ⟨rfl, hb2⟩
      have HB2 := Lib.hid (HB1.out.trans (hb2.mono HB1.out.size))
      clear hb2
      go_wp2_with fail
      go_ret2
      exact ⟨rfl, HB2.out⟩
    · have hr : getL 0 L t = (p.2, 0) := by unfold getL; rw [if_neg (by simp), if_neg (by omega), e1]; simp [List.getD, e2]
      rw [hr]
      rw [e1] at HA
      have HP := Lib.hid e2
      have hkl := (List.getElem?_eq_some_iff.1 e2).1
      obtain ⟨n, hn⟩ : ∃ n, L.length = n := ⟨_, rfl⟩
      have HN := Lib.hid hn
      rw [hn] at hkl
      clear hr e1 e2 e3 e5 hn
      go_enter Tryd.func16, Tryd.ntmps16
      go_wp2_with fail
      refine HSU.out.mono ?_
      rintro e w1 ⟨rfl, hb1⟩
      have HB1 := Lib.hid hb1
      clear hb1 HSU
      go_wp2_with fail
      refine (HA.out w1 HB1.out).mono ?_
      rintro e w2 ⟨rfl, hb2⟩
      have HB2 := Lib.hid (HB1.out.trans (hb2.mono HB1.out.size))
      have hS := HH.out.next HB2.out
      obtain ⟨v, h1, h2, h3⟩ := hS.mem
      obtain ⟨c0, cf⟩ := oneC h1
      have hEl := heap_lt h1
      rw [HN.out] at h2
      have hrow := h2.2
      rcases hrow with ⟨_, h0⟩ | ⟨g, off, cap, cur, rfl, _⟩
      · omega
      obtain ⟨d0, d1⟩ := cells_pull h2 k p HP.out hkl
      clear hb2 hS h1 h2 h3
      go_wp2_with fail
      go_ret2
      exact ⟨rfl, HB2.out⟩
  · have hr : getL er L t = (0, er) := by unfold getL; rw [if_pos he]
    rw [hr]
    have he0 : ((er : Int) != 0) = true := by simpa using he
    clear hr he
    go_enter Tryd.func16, Tryd.ntmps16
    go_wp2_with fail
    refine HSU.out.mono ?_
    rintro e w1 ⟨rfl, hb1⟩
    have HB1 := Lib.hid hb1
    clear hb1 HSU
    go_wp2_with fail
    go_ret2
    exact ⟨rfl, HB1.out⟩
end
end Go.Proofs.YtpmffneohcbhbaaDoor.Shf
