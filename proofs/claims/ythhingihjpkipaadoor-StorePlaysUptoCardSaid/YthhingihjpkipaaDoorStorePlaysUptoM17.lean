/- Parts of the proof, joined: The first entry for which a predicate holds: slices.IndexFunc, walked (XDrawRun turned to entries).; The reference's index, a list of entries, in memory: at, Get.; The reference's index: Drop.; rillref.before, walked.; The reference's index: Put. -/
import Derived.Test.YthhingihjpkipaaDoorStorePlaysUptoM16
import Derived.Shelf.SlicesQ.Load
import Derived.Lib.SlBy
namespace Go.Proofs.YthhingihjpkipaaDoor.Shf
open Go.RowKit Heap Idx
open Subj (Tok ML pieces)

theorem entV_at (l : Ents) (k : Nat) (p : (Tok × Int)) (h : l[k]? = some p) (i : Nat) (hi : i < 2) : (entV l)[k * 2 + i]? = (entC p)[i]? := by
  induction l generalizing k with
  | nil => simp at h
  | cons q l ih =>
    show (entC q ++ entV l)[k * 2 + i]? = _
    cases k with
    | zero =>
      simp at h; subst h
      rw [List.getElem?_append_left (by simp [entC]; omega)]
      simp
    | succ k =>
      rw [List.getElem?_append_right (by simp [entC]; omega)]
      rw [show (k + 1) * 2 + i - (entC q).length = k * 2 + i by simp [entC]; omega]
      exact ih k (by simpa using h)

/-- A predicate on the entries of a list: what a call of it answers in every world that C holds of. -/
def Tells (l : Ents) (g : Nat) (lb : Array Value) (p : (Tok × Int) → Bool) (C : World → Prop) : Prop :=
  ∀ (W : World) (x : (Tok × Int)), x ∈ l → C W → Calls Tryd.prog g (#[.agg #[.string ⟨x.1.toArray⟩, .int .i64 x.2]] ++ lb) W fun e w' => e = .returned (.bool (p x)) ∧ Below W.heap.size W w'

def KeptBy (v : Value) (C : World → Prop) : Prop := ∀ W W', C W → Heap.Touch (own v) W W' → C W'

theorem cells_pull {w : World} {g off n cap : Nat} {l : Ents} (h : Row w 108 2 (.slice (some ⟨g, off, none⟩) n cap) n (entV l)) (k : Nat) (p : (Tok × Int)) (hp : l[k]? = some p) (hk : k < n) :
    w.cell? ⟨g, off + k * 2, none⟩ = some (.string ⟨p.1.toArray⟩) ∧ w.cell? ⟨g, off + k * 2 + 1, none⟩ = some (.int .i64 p.2) := by
  have e : ∀ i, i < 2 → w.cell? ⟨g, off + k * 2 + i, none⟩ = (entC p)[i]? := fun i hi => by
    rw [show off + k * 2 + i = off + (k * 2 + i) by omega, (h.cell (k * 2 + i) (by omega)).1, entV_at l k p hp i hi]
  exact ⟨e 0 (by omega), e 1 (by omega)⟩

theorem frozen_pull {w : World} {g off n cap : Nat} {l : Ents} (h : Row w 108 2 (.slice (some ⟨g, off, none⟩) n cap) n (entV l)) (k : Nat) (hk : k < n) :
    w.frozen? ⟨g, off + k * 2, none⟩ = false ∧ w.frozen? ⟨g, off + k * 2 + 1, none⟩ = false := by
  have e : ∀ i, i < 2 → w.frozen? ⟨g, off + k * 2 + i, none⟩ = false := fun i hi => by
    rw [show off + k * 2 + i = off + (k * 2 + i) by omega, (h.cell (k * 2 + i) (by omega)).2]
  exact ⟨e 0 (by omega), e 1 (by omega)⟩

/-- The first place where p holds, or none. -/
theorem first_cases (p : (Tok × Int) → Bool) (l : Ents) : (∀ x ∈ l, p x = false) ∨ ∃ k x, l[k]? = some x ∧ p x = true ∧ ∀ y ∈ l.take k, p y = false := by
  induction l with
  | nil => exact .inl (fun x h => by cases h)
  | cons y l ih =>
    cases hy : p y with
    | true => exact .inr ⟨0, y, rfl, hy, fun z h => by simp at h⟩
    | false =>
      rcases ih with h | ⟨k, x, hk, hx, h⟩
      · exact .inl fun z hz => by
          rcases List.mem_cons.1 hz with rfl | hz
          · exact hy
          · exact h z hz
      · exact .inr ⟨k + 1, x, by simpa using hk, hx, fun z hz => by
          rw [List.take_succ_cons] at hz
          rcases List.mem_cons.1 hz with rfl | hz
          · exact hy
          · exact h z hz⟩

set_option maxHeartbeats 2000000 in
set_option maxRecDepth 100000 in
theorem index_any (g : Nat) (lb : Array Value) (p : (Tok × Int) → Bool) (C : World → Prop) (eg : ∀ args w, (callFunc g args).run Tryd.prog w = .ok (.enter g args) w)
    (v : Value) (l : Ents) (w : World) (hrow : Row w 108 2 v l.length (entV l)) (hl : l.length ≤ 1000) (hC : C w) (hk : KeptBy v C) (hp : Tells l g lb p C)
    (r : Int) (hr : (r = -1 ∧ ∀ x ∈ l, p x = false) ∨ ∃ (k : Nat) (x : (Tok × Int)), r = (k : Int) ∧ l[k]? = some x ∧ p x = true ∧ ∀ y ∈ l.take k, p y = false) :
    Calls Tryd.prog 132 #[v, .func (.func g) #[] lb] w fun e w' => e = .returned (.int .i64 r) ∧ Below w.heap.size w w' := by
  rcases hrow.2 with ⟨rfl, h0⟩ | ⟨b, off, cap, cur, rfl, hg, _⟩
  · obtain rfl : l = [] := List.eq_nil_of_length_eq_zero h0
    have : r = -1 := by
      rcases hr with h | ⟨k, x, _, h, _⟩
      · exact h.1
      · simp at h
    subst this
    clear hrow hr hp hk
    go_enter Tryd.func132, Tryd.ntmps132
    go_wp2_with fail
    go_loopw [5, 8] (fun _ i wr => i = .int .i64 0 ∧ wr = w) (fun _ _ _ => 0)
    case atStart => exact ⟨rfl, rfl⟩
    case round =>
      obtain ⟨rfl, rfl⟩ := hrel
      go_wp2
      go_ret
      exact ⟨rfl, Below.refl _ _⟩
  · have hb : b < w.heap.size := heap_lt hg
    have HR := Lib.hid hrow; have HQ := Lib.hid hr; have HP := Lib.hid hp; have HKB := Lib.hid hk; have HCC := Lib.hid hC
    clear hrow hr hp hk hC hg
    generalize hn : l.length = n at *
    have HN := Lib.hid hn
    clear hn
    go_enter Tryd.func132, Tryd.ntmps132
    go_wp2_with fail
    go_loopw [5, 8] (fun _ i wr => ∃ k : Nat, k ≤ n ∧ i = .int .i64 k ∧ Below w.heap.size w wr ∧ Hid (∀ y ∈ l.take k, p y = false)) (fun _ i _ => n - (intOf i).toNat)
    case atStart => exact ⟨0, Nat.zero_le _, rfl, Below.refl _ _, Lib.hid fun y h => by simp at h⟩
    case round =>
      obtain ⟨k, hkn, rfl, BW, A⟩ := hrel
      have BB := Lib.hid BW
      by_cases hlt : k < n
      · have hltz : (k : Int) < (n : Int) := by omega
        have hlt' : k < l.length := by rw [HN.out]; exact hlt
        obtain ⟨x, hx⟩ : ∃ x, l[k]? = some x := ⟨l[k], List.getElem?_eq_getElem hlt'⟩
        have hrow' := HR.out.kept (w' := wr) (fun j _ hj => BW.block j hj)
        obtain ⟨c0, c1⟩ := cells_pull hrow' k x hx hlt
        have hcall := HP.out wr x (List.mem_of_getElem? hx) (HKB.out w wr HCC.out (Heap.Touch.ofBelow BW))
        have X := Lib.hid hx
        clear hrow' hx BW
        cases hq : p x with
        | true =>
          rw [hq] at hcall
          have hrk : r = (k : Int) := by
            rcases HQ.out with ⟨_, h⟩ | ⟨k', x', rfl, h1, h2, h3⟩
            · have := h x (List.mem_of_getElem? X.out)
              rw [hq] at this; cases this
            · have e : k' = k := by
                rcases Nat.lt_trichotomy k' k with hlt2 | hlt2 | hlt2
                · have := A.out x' (List.mem_of_getElem? (i := k') (by rw [List.getElem?_take, if_pos hlt2]; exact h1))
                  rw [h2] at this; cases this
                · exact hlt2
                · have := h3 x (List.mem_of_getElem? (i := k) (by rw [List.getElem?_take, if_pos hlt2]; exact X.out))
                  rw [hq] at this; cases this
              rw [e]
          subst hrk
          go_wp2_with (go_at_fn g; refine hcall.mono ?_; rintro e w' ⟨rfl, hb'⟩)
          go_ret
          exact ⟨rfl, BB.out.trans (hb'.mono BB.out.size)⟩
        | false =>
          rw [hq] at hcall
          go_wp2_with (go_at_fn g; refine hcall.mono ?_; rintro e w' ⟨rfl, hb'⟩)
          refine ⟨⟨k + 1, by omega, by go_num, BB.out.trans (hb'.mono BB.out.size), Lib.hid fun y hy => ?_⟩, by simp [intOf]; omega⟩
          obtain ⟨j, hj, rfl⟩ := List.mem_iff_getElem.1 hy
          rw [List.length_take] at hj
          rw [List.getElem_take]
          by_cases e : j = k
          · subst e
            have := X.out
            rw [List.getElem?_eq_getElem hlt'] at this
            simp at this
            rw [this]; exact hq
          · exact A.out _ (List.mem_of_getElem? (i := j) (by rw [List.getElem?_take, if_pos (by omega)]; exact List.getElem?_eq_getElem (by omega)))
      · have hltz : ¬ (k : Int) < (n : Int) := by omega
        obtain rfl : k = n := by omega
        have hrk : r = -1 := by
          rcases HQ.out with ⟨h, _⟩ | ⟨k', x', rfl, h1, h2, h3⟩
          · exact h
          · have h4 := (List.getElem?_eq_some_iff.1 h1).1
            have := A.out x' (List.mem_of_getElem? (i := k') (by rw [List.getElem?_take, if_pos (by rw [← HN.out]; exact h4)]; exact h1))
            rw [h2] at this; cases this
        subst hrk
        go_wp2
        go_ret
        exact ⟨rfl, BB.out⟩

end Go.Proofs.YthhingihjpkipaaDoor.Shf

namespace Go.Proofs.YthhingihjpkipaaDoor.Shf
open Go.RowKit Heap Idx
open Subj (Tok ML pieces)

structure ShelfAt (W : World) (G : Nat → Prop) (E : Nat) (L : Ents) (w : World) : Prop where
  few : L.length ≤ 100
  short : ∀ e ∈ L, e.1.length ≤ 200
  below : Below W.heap.size W w
  newG : ∀ k, G k → W.heap.size ≤ k
  bG : ∀ k, G k → k < w.heap.size
  gE : G E
  mem : ∃ v, w.heap[E]? = some (.cells #[v] 165 (0, 0)) ∧ Row w 108 2 v L.length (entV L) ∧ ∀ k, own v k → G k

theorem oneC {B : Nat} {w : World} {t : TypeId} {a0 : Value} (h : w.heap[B]? = some (.cells #[a0] t (0, 0))) :
    w.cell? ⟨B, 0, none⟩ = some a0 ∧ ∀ j, w.frozen? ⟨B, j, none⟩ = false := by
  refine ⟨?_, fun j => ?_⟩
  · rw [cell_of_row w B 0 _ _ _ h]; rfl
  · exact frozen_of_row w B j _ _ h

theorem ne_row {E n : Nat} {w : World} {v a0 : Value} {xs : List Value} (h : w.heap[E]? = some (.cells #[a0] 165 (0, 0))) (hr : Row w 108 2 v n xs) : ¬ own v E := fun ho => by
  rcases hr.2 with ⟨rfl, _⟩ | ⟨g, off, cap, cur, rfl, hg, _⟩
  · simp [own, Value.ownBlock] at ho
  · simp [own, Value.ownBlock] at ho
    subst ho
    rw [h] at hg
    simp at hg

/-- A shelf that has come of another one. -/
def NextS (W : World) (G : Nat → Prop) (E : Nat) (w : World) (L' : Ents) (w' : World) : Prop :=
  (∃ G', ShelfAt W G' E L' w' ∧ ∀ k, G' k → G k ∨ w.heap.size ≤ k) ∧ Heap.Touch G w w'

section
variable {W w w' : World} {G : Nat → Prop} {E : Nat} {L : Ents}

theorem ShelfAt.kept (h : ShelfAt W G E L w) (hb : Below W.heap.size W w') (hsz : w.heap.size ≤ w'.heap.size) (hs : Same G w w') : ShelfAt W G E L w' := by
  obtain ⟨v, h1, h2, h3⟩ := h.mem
  exact ⟨h.few, h.short, hb, h.newG, fun k hk => Nat.lt_of_lt_of_le (h.bG k hk) hsz, h.gE, v, (hs E h.gE (heap_lt h1)).trans h1, h2.kept (fun k hk hlt => hs k (h3 k hk) hlt), h3⟩

theorem ShelfAt.next (h : ShelfAt W G E L w) (hb : Below w.heap.size w w') : ShelfAt W G E L w' :=
  h.kept (h.below.trans (hb.mono h.below.size)) hb.size fun k _ hk => hb.block k hk

theorem NextS.refl (h : ShelfAt W G E L w) (hb : Below w.heap.size w w') : NextS W G E w L w' := ⟨⟨G, h.next hb, fun _ hk => .inl hk⟩, Heap.Touch.ofBelow hb⟩

theorem tells_s (l : Ents) (s : ByteArray) (X : Nat) : Tells l 133 #[.pointer (some ⟨X, 0, none⟩)] (fun p => p.1 == s.data.toList) (fun w => w.cell? ⟨X, 0, none⟩ = some (.string s)) := by
  intro W x _ hC
  show Calls Tryd.prog _ #[.agg #[.string ⟨x.1.toArray⟩, .int .i64 x.2], .pointer (some ⟨X, 0, none⟩)] W fun e w' => e = .returned (.bool (x.1 == s.data.toList)) ∧ Below W.heap.size W w'
  have hX := World.block_lt_of_cell? W _ hC
  have e1 : (⟨x.1.toArray⟩ : ByteArray).toList = x.1 := Subj.bytes_toList _
  have e2 : s.toList = s.data.toList := ByteArray.toList_eq _
  obtain ⟨p, hp⟩ : ∃ p : ByteArray, (⟨x.1.toArray⟩ : ByteArray) = p := ⟨_, rfl⟩
  rw [hp] at e1 ⊢
  rw [← e1, ← e2]
  clear hp e1 e2
  go_enter Tryd.func133, Tryd.ntmps133
  go_wp2
  go_ret
  exact ⟨rfl, (Below.refl _ _).alloc (Nat.le_refl _) _⟩

set_option maxHeartbeats 1000000 in
set_option maxRecDepth 100000 in
theorem at_any (h : ShelfAt W G E L w) (s : ByteArray) :
    Calls Tryd.prog 113 #[.pointer (some ⟨E, 0, none⟩), .string s] w fun e w' => e = .returned (.int .i64 (idxL L s.data.toList)) ∧ Below w.heap.size w w' := by
  obtain ⟨v, h1, h2, h3⟩ := h.mem
  obtain ⟨w1, hw1⟩ : ∃ w1, w1 = w.alloc (.cells #[.string s] 9) := ⟨_, rfl⟩
  have hb1 : Below w.heap.size w w1 := by rw [hw1]; exact (Below.refl _ _).alloc (Nat.le_refl _) _
  have hc : w1.cell? ⟨w.heap.size, 0, none⟩ = some (.string s) := by rw [hw1, World.cell?_alloc_at _ _ _ _ rfl]; rfl
  have hE1 := (hb1.block E (heap_lt h1)).trans h1
  obtain ⟨c0, cf⟩ := oneC hE1
  have hEl := heap_lt hE1
  have hr1 := h2.kept (w' := w1) fun k _ hk => hb1.block k hk
  have hlen := h.few
  have hidx := index_any 133 #[.pointer (some ⟨w.heap.size, 0, none⟩)] (fun p => p.1 == s.data.toList) (fun w => w.cell? ⟨_, 0, none⟩ = some (.string s)) (fun _ _ => rfl) v L w1 hr1 (by omega) hc
    (fun Wa Wb hCa ht => (ht.cell (World.block_lt_of_cell? Wa _ hCa) (fun ho => by have h4 : w.heap.size < w.heap.size := h2.lt _ ho; omega)).trans hCa) (tells_s _ s _) (idxL L s.data.toList) (by
      rcases idxL_cases L s.data.toList with ⟨e1, e2⟩ | ⟨k, p, e1, e2, e3, e5⟩
      · exact .inl ⟨e1, fun x hx => by have := e2 x hx; simpa using this⟩
      · exact .inr ⟨k, p, e1, e2, by simpa using e3, fun y hy => by have := e5 y hy; simpa using this⟩)
  have HI := Lib.hid hidx; have HB := Lib.hid hb1
  clear h h1 h2 h3 hc hE1 hr1 hlen hidx hb1
  go_enter Tryd.func113, Tryd.ntmps113
  go_upto_region 1 with fail
  rw [← hw1]
  clear hw1
  go_wp2_with fail
  refine HI.out.mono ?_
  rintro e w' ⟨rfl, hb⟩
  have HF := Lib.hid (HB.out.trans (hb.mono HB.out.size))
  clear hb
  go_wp2
  go_ret
  exact ⟨rfl, HF.out⟩

set_option maxHeartbeats 1000000 in
set_option maxRecDepth 100000 in
theorem get_shf (h : ShelfAt W G E L w) (s : ByteArray) (hs : s.size ≤ 1048576) :
    Calls Tryd.prog 92 #[.pointer (some ⟨E, 0, none⟩), .string s] w fun e w' => e = .returned (.tuple #[.int .i64 (getL (Subj.err false s.data.toList) L s.data.toList).1, .int .i64 (getL (Subj.err false s.data.toList) L s.data.toList).2]) ∧ Below w.heap.size w w' := by
  have HSU := Lib.hid (Subj.refSubject_any s w hs)
  have HA := Lib.hid (fun w1 (hb : Below w.heap.size w w1) => at_any (h.next hb) s)
  have HH := Lib.hid h
  generalize Subj.err false s.data.toList = er at *
  generalize s.data.toList = t at *
  clear h hs
  by_cases he : er = 0
  · subst he
    rcases idxL_cases L t with ⟨e1, e2⟩ | ⟨k, p, e1, e2, e3, e5⟩
    · have hr : getL 0 L t = (0, 4) := by unfold getL; rw [if_neg (by simp), if_pos (by omega)]
      rw [hr]
      rw [e1] at HA
      clear hr e1 e2
      go_enter Tryd.func92, Tryd.ntmps92
      go_wp2_with fail
      refine HSU.out.mono ?_
      rintro e w1 ⟨rfl, hb1⟩
      have HB1 := Lib.hid hb1
      clear hb1 HSU
      go_wp2_with fail
      refine (HA.out w1 HB1.out).mono ?_
      rintro e w2 ⟨rfl, hb2⟩
      have HB2 := Lib.hid (HB1.out.trans (hb2.mono HB1.out.size))
      clear hb2
      go_wp2_with fail
      go_ret2
      exact ⟨rfl, HB2.out⟩
    · have hr : getL 0 L t = (p.2, 0) := by unfold getL; rw [if_neg (by simp), if_neg (by omega), e1]; simp [List.getD, e2]
      rw [hr]
      rw [e1] at HA
      have HP := Lib.hid e2
      have hkl := (List.getElem?_eq_some_iff.1 e2).1
      obtain ⟨n, hn⟩ : ∃ n, L.length = n := ⟨_, rfl⟩
      have HN := Lib.hid hn
      rw [hn] at hkl
      clear hr e1 e2 e3 e5 hn
      go_enter Tryd.func92, Tryd.ntmps92
      go_wp2_with fail
      refine HSU.out.mono ?_
      rintro e w1 ⟨rfl, hb1⟩
      have HB1 := Lib.hid hb1
      clear hb1 HSU
      go_wp2_with fail
      refine (HA.out w1 HB1.out).mono ?_
      rintro e w2 ⟨rfl, hb2⟩
      have HB2 := Lib.hid (HB1.out.trans (hb2.mono HB1.out.size))
      have hS := HH.out.next HB2.out
      obtain ⟨v, h1, h2, h3⟩ := hS.mem
      obtain ⟨c0, cf⟩ := oneC h1
      have hEl := heap_lt h1
      rw [HN.out] at h2
      have hrow := h2.2
      rcases hrow with ⟨_, h0⟩ | ⟨g, off, cap, cur, rfl, _⟩
      · omega
      obtain ⟨d0, d1⟩ := cells_pull h2 k p HP.out hkl
      clear hb2 hS h1 h2 h3
      go_wp2_with fail
      go_ret2
      exact ⟨rfl, HB2.out⟩
  · have hr : getL er L t = (0, er) := by unfold getL; rw [if_pos he]
    rw [hr]
    have he0 : ((er : Int) != 0) = true := by simpa using he
    clear hr he
    go_enter Tryd.func92, Tryd.ntmps92
    go_wp2_with fail
    refine HSU.out.mono ?_
    rintro e w1 ⟨rfl, hb1⟩
    have HB1 := Lib.hid hb1
    clear hb1 HSU
    go_wp2_with fail
    go_ret2
    exact ⟨rfl, HB1.out⟩
end
end Go.Proofs.YthhingihjpkipaaDoor.Shf

namespace Go.Proofs.YthhingihjpkipaaDoor.Shf
open Go.RowKit Heap Idx
open Subj (Tok ML pieces)

theorem entV_cons (e : Tok × Int) (l : Ents) : entV (e :: l) = entC e ++ entV l := rfl

theorem entV_take (A : Ents) (k : Nat) : (entV A).take (k * 2) = entV (A.take k) := by
  induction A generalizing k with
  | nil => simp [entV]
  | cons a r ih =>
    cases k with
    | zero => simp [entV]
    | succ k =>
      have hl : (entC a).length = 2 := rfl
      rw [entV_cons, List.take_append, hl, show (k + 1) * 2 - 2 = k * 2 by omega, ih, List.take_of_length_le (by rw [hl]; omega)]
      rfl

theorem entV_drop (A : Ents) (k : Nat) : (entV A).drop (k * 2) = entV (A.drop k) := by
  induction A generalizing k with
  | nil => simp [entV]
  | cons a r ih =>
    cases k with
    | zero => simp
    | succ k =>
      have hl : (entC a).length = 2 := rfl
      rw [entV_cons, List.drop_append, hl, show (k + 1) * 2 - 2 = k * 2 by omega, ih, List.drop_of_length_le (by rw [hl]; omega)]
      rfl

/-- Another list in the shelf's place. -/
theorem ShelfAt.put {W w w3 : World} {G : Nat → Prop} {E : Nat} {L L' : Ents} {a0 v3 : Value} (h : ShelfAt W G E L w) (hf : L'.length ≤ 100) (hs : ∀ e ∈ L', e.1.length ≤ 200) (hE : w3.heap[E]? = some (.cells #[a0] 165 (0, 0)))
    (ht : Heap.Touch G w w3) (hr : Row w3 108 2 v3 L'.length (entV L')) (ho : ∀ k, own v3 k → G k ∨ w.heap.size ≤ k) (hne : ¬ own v3 E) : NextS W G E w L' (w3.setCell ⟨E, 0, none⟩ v3) := by
  have hE4 := heap_setCell_same w3 E 0 _ _ v3 hE
  have hlt := heap_lt hE4
  have tf : Heap.Touch G w (w3.setCell ⟨E, 0, none⟩ v3) := ht.setCell (.inl h.gE) _
  refine ⟨⟨fun k => (G k ∨ w.heap.size ≤ k) ∧ k < (w3.setCell ⟨E, 0, none⟩ v3).heap.size, ⟨hf, hs, h.below.trans (tf.below h.below.size h.newG), fun k hk => ?_, fun k hk => hk.2, ⟨.inl h.gE, hlt⟩, v3, hE4, ?_, fun k hk => ⟨ho k hk, ?_⟩⟩, fun k hk => hk.1⟩, tf⟩
  · rcases hk.1 with hk | hk
    · exact h.newG k hk
    · exact Nat.le_trans h.below.size hk
  · refine hr.kept fun j hj _ => heap_setCell_other _ _ _ _ (fun e => ?_)
    exact hne (by rw [← show j = E from e]; exact hj)
  · have := hr.lt k hk
    have h2 : (w3.setCell ⟨E, 0, none⟩ v3).heap.size = w3.heap.size := by simp [World.setCell]
    rw [h2]; exact this

section
variable {W w : World} {G : Nat → Prop} {E : Nat} {A : Ents}
end
end Go.Proofs.YthhingihjpkipaaDoor.Shf

namespace Go.Proofs.YthhingihjpkipaaDoor.Shf
open Go.RowKit Heap Idx
open Subj (Tok ML pieces Strs strAt StrsAt)

theorem bytesLess_cb : ∀ a b : Tok, Op.bytesLess a b = decide (cb a b < 0)
  | [], [] => rfl
  | _ :: _, [] => rfl
  | [], _ :: _ => rfl
  | x :: a, y :: b => by
    unfold Op.bytesLess
    rw [bytesLess_cb a b]
    show _ = decide (Lib.compareBytes (x :: a) (y :: b) < 0)
    have e0 : Lib.compareBytes (x :: a) (y :: b) = if x < y then -1 else if y < x then 1 else Lib.compareBytes a b := by rw [Lib.compareBytes]
    rw [e0]
    by_cases h : x < y
    · simp [h]
    · by_cases h2 : y < x
      · have hne : (x == y) = false := by
          simp only [beq_eq_false_iff_ne, ne_eq]
          rintro rfl; exact h h2
        simp [h, h2, hne]
      · have e : x = y := UInt8.le_antisymm (UInt8.not_lt.1 h2) (UInt8.not_lt.1 h)
        subst e
        rw [if_neg h, if_neg h, decide_eq_false h, beq_self_eq_true, Bool.true_and, Bool.false_or]

theorem before_drop {a b : List Tok} {k : Nat} (h : a.take k = b.take k) : before a b = before (a.drop k) (b.drop k) := by
  conv => lhs; rw [← List.take_append_drop k a, ← List.take_append_drop k b, h]
  exact before_app _ _ _

theorem before_step {a b : List Tok} {k : Nat} (ha : k < a.length) (hb : k < b.length) : before (a.drop k) (b.drop k) = if a.getD k [] = b.getD k [] then before (a.drop (k + 1)) (b.drop (k + 1)) else decide (cb (a.getD k []) (b.getD k []) < 0) := by
  rw [List.drop_eq_getElem_cons ha, List.drop_eq_getElem_cons hb]
  conv => lhs; unfold before
  simp [List.getD, ha, hb]

theorem before_end {a b : List Tok} {k : Nat} (ha : k ≤ a.length) (hb : k ≤ b.length) (h : ¬ (k < a.length ∧ k < b.length)) : before (a.drop k) (b.drop k) = decide (a.length < b.length) := by
  by_cases e : k = b.length
  · subst e
    rw [List.drop_length]
    have : ¬ a.length < b.length := by omega
    rw [decide_eq_false this]
    unfold before; rfl
  · have e2 : k = a.length := by omega
    subst e2
    rw [List.drop_length]
    have h3 : a.length < b.length := by omega
    rw [decide_eq_true h3, List.drop_eq_getElem_cons h3]
    rfl

theorem drew_more {w w1 : World} (h : ∃ q, w1 = w.drewN q) (n : Nat) : ∃ q, w1.drewN n = w.drewN q := by
  obtain ⟨q, rfl⟩ := h
  exact ⟨q + n, by simp [World.drewN, Nat.add_assoc]⟩

set_option maxHeartbeats 2000000 in
set_option maxRecDepth 100000 in
theorem before_any (a b : List Tok) (va vb : Value) (w : World) (ha : a.length ≤ 1048577) (hb : b.length ≤ 1048577) (hva : Strs w va a) (hvb : Strs w vb b) :
    Calls Tryd.prog 114 #[va, vb] w fun e w' => e = .returned (.bool (before a b)) ∧ ∃ q, w' = w.drewN q := by
  obtain ⟨r, hr⟩ : ∃ r, before a b = r := ⟨_, rfl⟩
  rw [hr]
  obtain ⟨aa, ca, rfl, hca, haa⟩ := hva
  obtain ⟨ab, cb', rfl, hcb, hab⟩ := hvb
  obtain ⟨n, hn⟩ : ∃ n, a.length = n := ⟨_, rfl⟩
  obtain ⟨m, hm⟩ : ∃ m, b.length = m := ⟨_, rfl⟩
  rw [hn] at ha hca ⊢
  rw [hm] at hb hcb ⊢
  have HAA := Lib.hid haa; have HAB := Lib.hid hab; have HR := Lib.hid hr; have HN := Lib.hid hn; have HM := Lib.hid hm
  clear haa hab hr hn hm
  go_enter Tryd.func114, Tryd.ntmps114
  go_wp2_with fail
  go_loopw [5] (fun i wr => ∃ k : Nat, k ≤ n ∧ k ≤ m ∧ i = .int .i64 k ∧ (∃ q, wr = w.drewN q) ∧ Hid (a.take k = b.take k)) (fun i _ => n - (intOf i).toNat)
  case atStart => exact ⟨0, Nat.zero_le _, Nat.zero_le _, rfl, ⟨0, rfl⟩, Lib.hid rfl⟩
  case round =>
    obtain ⟨k, hka, hkb, rfl, ⟨q, rfl⟩, HT⟩ := hrel
    by_cases h1 : k < n ∧ k < m
    · obtain ⟨hlta, hltb⟩ := h1
      have hza : (k : Int) < n := by omega
      have hzb : (k : Int) < m := by omega
      have hla : k < a.length := by rw [HN.out]; exact hlta
      have hlb : k < b.length := by rw [HM.out]; exact hltb
      obtain ⟨ga, oa, rfl, hsa⟩ := HAA.out (by intro e; rw [e] at hla; simp at hla)
      obtain ⟨gb, ob, rfl, hsb⟩ := HAB.out (by intro e; rw [e] at hlb; simp at hlb)
      have xa : w.cell? ⟨ga, oa + k, none⟩ = some (.string (strAt a k)) := hsa k hla
      have xb : w.cell? ⟨gb, ob + k, none⟩ = some (.string (strAt b k)) := hsb k hlb
      have e1 : (strAt a k).toList = a.getD k [] := Subj.strAt_toList a k
      have e2 : (strAt b k).toList = b.getD k [] := Subj.strAt_toList b k
      have hst := before_step hla hlb
      have hdr := (before_drop HT.out).symm.trans HR.out
      rw [hst] at hdr
      have htk : a.getD k [] = b.getD k [] → a.take (k + 1) = b.take (k + 1) := fun e => by
        have f1 : a.take (k + 1) = a.take k ++ [a.getD k []] := by
          rw [List.take_add_one, List.getElem?_eq_getElem hla]; simp [List.getD, hla]
        have f2 : b.take (k + 1) = b.take k ++ [b.getD k []] := by
          rw [List.take_add_one, List.getElem?_eq_getElem hlb]; simp [List.getD, hlb]
        rw [f1, f2, HT.out, e]
      generalize strAt a k = p at xa e1
      generalize strAt b k = p2 at xb e2
      rw [← e1, ← e2] at hdr
      rw [← e1, ← e2] at htk
      have HTK := Lib.hid htk; have HDR := Lib.hid hdr
      clear hst htk hdr e1 e2 hla hlb hsa hsb
      by_cases heq : p.toList = p2.toList
      · have hb2 : (p.toList == p2.toList) = true := by simpa using heq
        have HNX := Lib.hid (HTK.out heq)
        clear heq HDR HTK
        go_wp2_with fail
        go_quiet (fail)
        go_wp2_with fail
        exact ⟨⟨k + 1, by omega, by omega, by go_num, ⟨_, rfl⟩, HNX⟩, by simp [intOf]; omega⟩
      · have hb2 : (p.toList == p2.toList) = false := by simpa using heq
        have hrr : r = Op.bytesLess p.toList p2.toList := by
          have h9 := HDR.out
          rw [if_neg heq, ← bytesLess_cb] at h9
          exact h9.symm
        subst hrr
        clear heq HDR HTK
        go_wp2_with fail
        go_quiet (fail)
        go_wp2_with fail
        go_quiet (fail)
        go_wp2_with fail
        go_ret
        exact ⟨rfl, drew_more (drew_more ⟨q, rfl⟩ _) _⟩
    · have hdr := (before_drop HT.out).symm.trans HR.out
      rw [before_end (by rw [HN.out]; exact hka) (by rw [HM.out]; exact hkb) (by rw [HN.out, HM.out]; exact h1), HN.out, HM.out] at hdr
      have hzr : ((n : Int) < (m : Int)) ↔ n < m := by omega
      by_cases hlta : k < n
      · have hza : (k : Int) < n := by omega
        have hzb : ¬ (k : Int) < m := by omega
        have hf : ¬ n < m := by omega
        have hfz : ¬ (n : Int) < (m : Int) := by omega
        obtain rfl : r = false := by rw [← hdr, decide_eq_false hf]
        clear h1 hzr hdr
        go_wp2_with fail
        go_ret
        exact ⟨rfl, _, rfl⟩
      · have hza : ¬ (k : Int) < n := by omega
        clear h1
        by_cases hf : n < m
        · have hfz : (n : Int) < (m : Int) := by omega
          obtain rfl : r = true := by rw [← hdr, decide_eq_true hf]
          clear hzr hdr
          go_wp2_with fail
          go_ret
          exact ⟨rfl, _, rfl⟩
        · have hfz : ¬ (n : Int) < (m : Int) := by omega
          obtain rfl : r = false := by rw [← hdr, decide_eq_false hf]
          clear hzr hdr
          go_wp2_with fail
          go_ret
          exact ⟨rfl, _, rfl⟩
end Go.Proofs.YthhingihjpkipaaDoor.Shf

namespace Go.Proofs.YthhingihjpkipaaDoor.Shf
open Go.RowKit Heap Idx
open Subj (Tok ML pieces Strs strAt StrsAt)

/-- A right subject is short. -/
theorem err_short {l : List UInt8} (h : Subj.err false l = 0) : l.length ≤ 200 := by
  obtain ⟨h1, h2⟩ := err_toks h
  have h3 := joinT_len (pieces l) (fun t ht => (h2 t ht).2)
  rw [join_pieces] at h3
  omega

theorem entV_set (L : Ents) (k : Nat) (p : Tok × Int) (s : Tok) (n : Int) (h : L[k]? = some p) (hp : p.1 = s) : (entV L).set (k * 2 + 1) (.int .i64 n) = entV (L.set k (s, n)) := by
  induction L generalizing k with
  | nil => simp at h
  | cons a r ih =>
    cases k with
    | zero =>
      simp at h; subst h; subst hp; rfl
    | succ k =>
      have h2 : r[k]? = some p := by simpa using h
      rw [entV_cons, List.set_cons_succ, entV_cons, ← ih k h2]
      show ((entC a) ++ entV r).set _ _ = _
      rw [List.set_append, if_neg (by simp [entC]; omega), show (k + 1) * 2 + 1 - (entC a).length = k * 2 + 1 from by simp [entC]; omega]

theorem cntL_true {L : Ents} {s : Tok} {k : Nat} (h : k < cntL L s) : ∃ p, L[k]? = some p ∧ before (pieces p.1) (pieces s) = true := by
  have hl : k < L.length := Nat.lt_of_lt_of_le h (cntL_le L s)
  refine ⟨L[k], List.getElem?_eq_getElem hl, ?_⟩
  have h1 := (takeWhile_split (fun x : Tok × Int => before (pieces x.1) (pieces s)) L).1
  have h2 : L[k] ∈ L.takeWhile (fun x => before (pieces x.1) (pieces s)) := by
    rw [← h1]
    exact List.mem_iff_getElem?.2 ⟨k, by rw [List.getElem?_take, if_pos (show k < (L.takeWhile fun x => before (pieces x.1) (pieces s)).length from h)]; exact List.getElem?_eq_getElem hl⟩
  have h3 := List.all_takeWhile (p := fun x : Tok × Int => before (pieces x.1) (pieces s)) (l := L)
  exact List.all_eq_true.1 h3 _ h2

theorem cntL_false {L : Ents} {s : Tok} (h : cntL L s < L.length) : ∃ p, L[cntL L s]? = some p ∧ before (pieces p.1) (pieces s) = false := by
  refine ⟨L[cntL L s], List.getElem?_eq_getElem h, ?_⟩
  have h1 := (takeWhile_split (fun x : Tok × Int => before (pieces x.1) (pieces s)) L).2
  have h2 := List.head?_dropWhile_not (fun x : Tok × Int => before (pieces x.1) (pieces s)) L
  rw [← h1] at h2
  have h3 : (L.drop (L.takeWhile fun x => before (pieces x.1) (pieces s)).length).head? = some L[cntL L s] := by
    rw [List.head?_drop]; exact List.getElem?_eq_getElem h
  rw [h3] at h2
  simpa using h2

section
variable {W w : World} {G : Nat → Prop} {E : Nat} {A : Ents}

/-- Pieces, as a row of texts. -/
theorem pieces_strs (s : ByteArray) (w : World) (hs : s.size ≤ 1048576) :
    Calls Tryd.prog 88 #[.string s, .int .u8 46] w fun e w' => ∃ v, e = .returned v ∧ Strs w' v (pieces s.data.toList) ∧ Below w.heap.size w w' :=
  (Subj.pieces_any s w hs).mono fun _ _ ⟨v, a, b, c⟩ => ⟨v, a, Strs.own b, c⟩

set_option maxHeartbeats 4000000 in
set_option maxRecDepth 100000 in
theorem put_hit (h : ShelfAt W G E A w) (s : ByteArray) (n : Int) (hs : s.size ≤ 1048576) (he : Subj.err false s.data.toList = 0) (k : Nat) (p : Tok × Int) (e1 : idxL A s.data.toList = (k : Int)) (e2 : A[k]? = some p) (e3 : p.1 = s.data.toList) :
    Calls Tryd.prog 93 #[.pointer (some ⟨E, 0, none⟩), .string s, .int .i64 n] w fun e w' => e = .returned (.int .i64 0) ∧ NextS W G E w (setL A k s.data.toList n) w' := by
  have HSU := Lib.hid (Subj.refSubject_any s w hs)
  have HA := Lib.hid (fun w1 (hb : Below w.heap.size w w1) => at_any (h.next hb) s)
  have HH := Lib.hid h
  have hshort := err_short he
  rw [he] at HSU
  rw [e1] at HA
  generalize s.data.toList = t at *
  have HP := Lib.hid e2; have HP1 := Lib.hid e3; have HSH := Lib.hid hshort
  have hkl := (List.getElem?_eq_some_iff.1 e2).1
  obtain ⟨m, hm⟩ : ∃ m, A.length = m := ⟨_, rfl⟩
  have HN := Lib.hid hm
  have hfew := h.few
  rw [hm] at hkl hfew
  clear h e1 e2 e3 hm he hs hshort
  go_enter Tryd.func93, Tryd.ntmps93
  go_wp2_with fail
  refine HSU.out.mono ?_
  rintro e w1 ⟨rfl, hb1⟩
  have HB1 := Lib.hid hb1
  clear hb1 HSU
  go_wp2_with fail
  refine (HA.out w1 HB1.out).mono ?_
  rintro e w2 ⟨rfl, hb2⟩
  have HB2 := Lib.hid (HB1.out.trans (hb2.mono HB1.out.size))
  have hS := HH.out.next HB2.out
  obtain ⟨v, h1, h2, h3⟩ := hS.mem
  obtain ⟨c0, cf⟩ := oneC h1
  have hEl := heap_lt h1
  rw [HN.out] at h2
  have hrow := h2.2
  rcases hrow with ⟨_, h0⟩ | ⟨g, off, cap, cur, rfl, _⟩
  · omega
  obtain ⟨d0, d1⟩ := cells_pull h2 k p HP.out hkl
  obtain ⟨f0, f1⟩ := frozen_pull h2 k hkl
  have hglt := World.block_lt_of_cell? w2 _ d1
  have hset := h2.set (k * 2 + 1) (by omega) (.int .i64 n)
  rw [entV_set A k p t n HP.out HP1.out, ← Nat.add_assoc] at hset
  have hEg : E ≠ g := fun e => ne_row h1 h2 (by rw [e]; simp [own, Value.ownBlock])
  have hg : G g := h3 g (by simp [own, Value.ownBlock])
  have HF := Lib.hid (show NextS W G E w (setL A k t n) (w2.setCell ⟨g, off + k * 2 + 1, none⟩ (.int .i64 n)) from by
    have tg : Heap.Touch G w2 (w2.setCell ⟨g, off + k * 2 + 1, none⟩ (.int .i64 n)) := (Heap.Touch.refl _ w2).setCell (.inl hg) _
    have hl : (setL A k t n).length = m := by unfold setL; rw [List.length_set, HN.out]
    refine ⟨⟨G, ⟨by rw [hl]; exact hfew, fun e he => ?_, hS.below.trans (tg.below hS.below.size hS.newG), hS.newG, fun j hj => Nat.lt_of_lt_of_le (hS.bG j hj) tg.size, hS.gE, _, (heap_setCell_other _ _ _ _ hEg).trans h1, by rw [hl]; exact hset, h3⟩, fun _ hk => .inl hk⟩, (Heap.Touch.ofBelow HB2.out).after tg⟩
    unfold setL at he
    rcases List.mem_or_eq_of_mem_set he with he | rfl
    · exact HH.out.short e he
    · exact HSH.out)
  clear hb2 hS h1 h2 h3 hset hg hEg
  go_wp2_with fail
  go_ret
  exact ⟨rfl, HF.out⟩

/-- A new entry is laid in its place. -/
theorem ins_tail {wz : World} {v : Value} (h : ShelfAt W G E A w) (hb : Below w.heap.size w wz) (hm : A.length < 100) {t : Tok} {s : ByteArray} (hsh : t.length ≤ 200) (hst : (⟨t.toArray⟩ : ByteArray) = s) (n : Int)
    (h1 : wz.heap[E]? = some (.cells #[v] 165 (0, 0))) (h2 : Row wz 108 2 v A.length (entV A)) (h3 : ∀ k, own v k → G k) :
    Calls Tryd.prog 115 #[v, .int .i64 (cntL A t : Nat), .slice (some ⟨wz.heap.size, 0, none⟩) 1 1] (wz.alloc (.cells #[.string s, .int .i64 n] 108)) fun e w6 => ∃ a c, e = .returned (.slice a (A.length + 1) c) ∧ w6.heap[E]? = some (.cells #[v] 165 (0, 0)) ∧ NextS W G E w (insL A t n) (w6.setCell ⟨E, 0, none⟩ (.slice a (A.length + 1) c)) := by
  have hba : Below wz.heap.size wz (wz.alloc (.cells #[.string s, .int .i64 n] 108)) := (Below.refl _ _).alloc (Nat.le_refl _) _
  have hra := h2.kept (w' := wz.alloc (.cells #[.string s, .int .i64 n] 108)) fun j _ hj => hba.block j hj
  have hvb := heap_alloc_new wz (.cells #[.string s, .int .i64 n] 108)
  have hno : ¬ own v wz.heap.size := fun ho => by have := h2.lt _ ho; omega
  refine (Ins.insert_any (N := [.string s, .int .i64 n]) v (by omega) (cntL_le A t) hra (entV_one _) rfl (by
    intro u hu
    simp only [List.mem_cons, List.not_mem_nil, or_false] at hu
    rcases hu with rfl | rfl <;> rfl) hvb hno).mono ?_
  rintro e w6 ⟨v', rfl, r6, t6, o6⟩
  have hEa := (hba.block E (heap_lt h1)).trans h1
  have hE6 := (t6.block E (heap_lt hEa) (ne_row hEa hra)).trans hEa
  obtain ⟨a6, c6, rfl⟩ := r6.slice
  refine ⟨a6, c6, rfl, hE6, ShelfAt.put h (by rw [insL_len]; omega) (fun e he => ?_) hE6 (((Heap.Touch.ofBelow hb).after ((Heap.Touch.refl _ wz).alloc _ |>.mono fun _ _ hk => hk)).trans t6 fun k _ hk => h3 k hk) ?_ (fun k hk => ?_) (fun ho => ?_)⟩
  · rcases mem_insL.1 he with rfl | he
    · exact hsh
    · exact h.short e he
  · have e1 : entV (insL A t n) = (entV A).take (cntL A t * 2) ++ [.string s, .int .i64 n] ++ (entV A).drop (cntL A t * 2) := by
      rw [entV_take, entV_drop, insL, entV_append, entV_cons, ← hst, List.append_assoc]
      rfl
    rw [insL_len, e1]; exact r6
  · rcases o6 k hk with h9 | h9
    · exact .inl (h3 k h9)
    · exact .inr (by have := hb.size; have := hba.size; omega)
  · rcases o6 E ho with h9 | h9
    · exact ne_row hEa hra h9
    · have := heap_lt h1; have := hba.size; omega

set_option maxHeartbeats 4000000 in
set_option maxRecDepth 100000 in
theorem put_new (h : ShelfAt W G E A w) (s : ByteArray) (n : Int) (hs : s.size ≤ 1048576) (he : Subj.err false s.data.toList = 0) (e1 : idxL A s.data.toList = -1) (hlen : A.length ≠ 100) :
    Calls Tryd.prog 93 #[.pointer (some ⟨E, 0, none⟩), .string s, .int .i64 n] w fun e w' => e = .returned (.int .i64 0) ∧ NextS W G E w (insL A s.data.toList n) w' := by
  have HSU := Lib.hid (Subj.refSubject_any s w hs)
  have HA := Lib.hid (fun w1 (hb : Below w.heap.size w w1) => at_any (h.next hb) s)
  have HPS := Lib.hid (fun w1 => pieces_strs s w1 hs)
  have HH := Lib.hid h
  have hshort := err_short he
  rw [he] at HSU
  rw [e1] at HA
  have hpz := Subj.pieces_size s hs
  have hst : (⟨s.data.toList.toArray⟩ : ByteArray) = s := rfl
  have HST := Lib.hid hst
  generalize s.data.toList = t at *
  have HSH := Lib.hid hshort
  have hct := cntL_le A t
  obtain ⟨m, hm⟩ : ∃ m, A.length = m := ⟨_, rfl⟩
  have HN := Lib.hid hm
  have hfew := h.few
  rw [hm] at hct hfew hlen
  obtain ⟨ct, hc⟩ : ∃ ct, cntL A t = ct := ⟨_, rfl⟩
  have HCT := Lib.hid hc
  rw [hc] at hct
  have hmz : ((m : Int) == 100) = false := by
    have : ¬ (m : Int) = 100 := by omega
    simpa using this
  clear h e1 hm he hs hshort hst hc
  go_enter Tryd.func93, Tryd.ntmps93
  go_wp2_with fail
  refine HSU.out.mono ?_
  rintro e w1 ⟨rfl, hb1⟩
  have HB1 := Lib.hid hb1
  clear hb1 HSU
  go_wp2_with fail
  refine (HA.out w1 HB1.out).mono ?_
  rintro e w2 ⟨rfl, hb2⟩
  have HB2 := Lib.hid (HB1.out.trans (hb2.mono HB1.out.size))
  have HS := Lib.hid (HH.out.next HB2.out)
  obtain ⟨v, h1, h2, h3⟩ := HS.out.mem
  obtain ⟨c0, cf⟩ := oneC h1
  have hEl := heap_lt h1
  rw [HN.out] at h2
  obtain ⟨va, vc, rfl⟩ := h2.slice
  have H1 := Lib.hid h1; have H2 := Lib.hid h2; have H3 := Lib.hid h3
  clear hb2 HB1 h1 h2 h3 HA
  go_wp2_with fail
  clear c0 cf hEl
  go_loopw [9] (fun i wr => ∃ k : Nat, k ≤ ct ∧ i = .int .i64 k ∧ Hid (Below w2.heap.size w2 wr)) (fun i _ => m - (intOf i).toNat)
  case atStart => exact ⟨0, Nat.zero_le _, rfl, Lib.hid (Below.refl _ _)⟩
  case round =>
    obtain ⟨k, hk, rfl, HW⟩ := hrel
    have x1 := (HW.out.block E (heap_lt H1.out)).trans H1.out
    have x2 := H2.out.kept (w' := wr) fun j _ hj => HW.out.block j hj
    obtain ⟨c0, cf⟩ := oneC x1
    have hEl := heap_lt x1
    have X1 := Lib.hid x1; have X2 := Lib.hid x2
    clear x1 x2
    by_cases hkm : k < m
    · have hkz : (k : Int) < m := by omega
      obtain ⟨p, B, hp, HBF, hBk⟩ : ∃ (p : Tok × Int) (B : Bool), A[k]? = some p ∧ Hid (before (pieces p.1) (pieces t) = B) ∧ (B = true → k < ct) ∧ (B = false → k = ct) := by
        by_cases hlt : k < ct
        · obtain ⟨p, h1, h2⟩ := cntL_true (L := A) (s := t) (k := k) (by rw [HCT.out]; exact hlt)
          exact ⟨p, true, h1, h2, fun _ => hlt, fun h => by cases h⟩
        · have hke : k = ct := by omega
          obtain ⟨p, h1, h2⟩ := cntL_false (L := A) (s := t) (by rw [HCT.out, HN.out]; omega)
          rw [HCT.out, ← hke] at h1
          exact ⟨p, false, h1, h2, fun h => (by cases h), fun _ => hke⟩
      have hrow := X2.out.2
      rcases hrow with ⟨_, h0⟩ | ⟨g, off, cap, cur, ev, _⟩
      · omega
      simp only [Value.slice.injEq, true_and] at ev
      obtain ⟨rfl, rfl⟩ := ev
      obtain ⟨d0, d1⟩ := cells_pull X2.out k p hp hkm
      have hpsz : (⟨p.1.toArray⟩ : ByteArray).size ≤ 1048576 := by
        have := HH.out.short p (List.mem_of_getElem? hp)
        show p.1.toArray.size ≤ _
        rw [List.size_toArray]; omega
      have HP1 := Lib.hid (fun w1 => pieces_strs ⟨p.1.toArray⟩ w1 hpsz)
      have HP1z := Lib.hid (Subj.pieces_size ⟨p.1.toArray⟩ hpsz)
      simp only [List.toList_toArray] at HP1 HP1z
      have HBK := Lib.hid hBk
      clear hp hpsz d1 hBk
      go_wp2_with fail
      refine (HP1.out _).mono ?_
      rintro e w3 ⟨v3, rfl, hs3, hb3⟩
      have HS3 := Lib.hid hs3; have HB3 := Lib.hid (HW.out.trans (hb3.mono HW.out.size))
      clear hs3 hb3 HP1 HW c0 cf hEl d0
      go_wp2_with fail
      refine (HPS.out _).mono ?_
      rintro e w4 ⟨v4, rfl, hs4, hb4⟩
      have HBE := Lib.hid (before_any _ _ _ _ w4 HP1z.out hpz (HS3.out.below hb4) hs4)
      have HB4 := Lib.hid (HB3.out.trans (hb4.mono HB3.out.size))
      rw [HBF.out] at HBE
      clear hs4 hb4 HS3 HB3
      go_wp2_with fail
      refine HBE.out.mono ?_
      rintro e w5 ⟨rfl, hq⟩
      have HB5 : Hid (Below w2.heap.size w2 w5) := Lib.hid (by obtain ⟨q, rfl⟩ := hq; exact below_drewN HB4.out q)
      clear hq
      cases B with
      | true =>
        have hkc := HBK.out.1 rfl
        clear HBE HB4 HBK HBF X1 X2
        go_wp2_with fail
        exact ⟨⟨k + 1, by omega, by go_num, HB5⟩, by simp [intOf]; omega⟩
      | false =>
        obtain rfl := HBK.out.2 rfl
        have x1 := (HB5.out.block E (heap_lt H1.out)).trans H1.out
        have x2 := H2.out.kept (w' := w5) fun j _ hj => HB5.out.block j hj
        obtain ⟨c0, cf⟩ := oneC x1
        have hEl := heap_lt x1
        clear HBE HB4 HBK HBF X1 X2
        have HIN := Lib.hid (ins_tail HH.out (HB2.out.trans (HB5.out.mono HB2.out.size)) (by rw [HN.out]; omega) HSH.out HST.out n x1 (by rw [HN.out]; exact x2) H3.out)
        rw [HCT.out] at HIN
        clear x1 x2
        go_wp2_with fail
        with_reducible refine HIN.out.mono ?_
        rintro e w6 ⟨a6, c6, rfl, y1, hnx⟩
        obtain ⟨y0, yf⟩ := oneC y1
        have hE6 := heap_lt y1
        have HF := Lib.hid hnx
        clear y1 hnx HIN
        go_wp2_with fail
        go_ret
        exact ⟨rfl, HF.out⟩
    · have hkz : ¬ (k : Int) < m := by omega
      obtain rfl : k = m := by omega
      obtain rfl : k = ct := by omega
      have x1 := X1.out
      have x2 := X2.out
      have HIN := Lib.hid (ins_tail HH.out (HB2.out.trans (HW.out.mono HB2.out.size)) (by rw [HN.out]; omega) HSH.out HST.out n x1 (by rw [HN.out]; exact x2) H3.out)
      rw [HCT.out] at HIN
      clear x1 x2
      go_wp2_with fail
      with_reducible refine HIN.out.mono ?_
      rintro e w6 ⟨a6, c6, rfl, y1, hnx⟩
      obtain ⟨y0, yf⟩ := oneC y1
      have hE6 := heap_lt y1
      have HF := Lib.hid hnx
      clear y1 hnx HIN
      go_wp2_with fail
      go_ret
      exact ⟨rfl, HF.out⟩

set_option maxRecDepth 100000 in
theorem put_full (h : ShelfAt W G E A w) (s : ByteArray) (n : Int) (hs : s.size ≤ 1048576) (he : Subj.err false s.data.toList = 0) (e1 : idxL A s.data.toList = -1) (hlen : A.length = 100) :
    Calls Tryd.prog 93 #[.pointer (some ⟨E, 0, none⟩), .string s, .int .i64 n] w fun e w' => e = .returned (.int .i64 8) ∧ NextS W G E w A w' := by
  have HSU := Lib.hid (Subj.refSubject_any s w hs)
  have HA := Lib.hid (fun w1 (hb : Below w.heap.size w w1) => at_any (h.next hb) s)
  have HH := Lib.hid h
  have HN := Lib.hid hlen
  rw [he] at HSU
  rw [e1] at HA
  generalize s.data.toList = t at *
  clear h e1 he hs hlen
  go_enter Tryd.func93, Tryd.ntmps93
  go_wp2_with fail
  refine HSU.out.mono ?_
  rintro e w1 ⟨rfl, hb1⟩
  have HB1 := Lib.hid hb1
  clear hb1 HSU
  go_wp2_with fail
  refine (HA.out w1 HB1.out).mono ?_
  rintro e w2 ⟨rfl, hb2⟩
  have HB2 := Lib.hid (HB1.out.trans (hb2.mono HB1.out.size))
  obtain ⟨v, h1, h2, h3⟩ := (HH.out.next HB2.out).mem
  obtain ⟨c0, cf⟩ := oneC h1
  have hEl := heap_lt h1
  rw [HN.out] at h2
  obtain ⟨va, vc, rfl⟩ := h2.slice
  clear hb2 HB1 h1 h2 h3 HA
  go_wp2_with fail
  go_ret
  exact ⟨rfl, NextS.refl HH.out HB2.out⟩

set_option maxRecDepth 100000 in
theorem put_bad (h : ShelfAt W G E A w) (s : ByteArray) (n : Int) (hs : s.size ≤ 1048576) (he : Subj.err false s.data.toList ≠ 0) :
    Calls Tryd.prog 93 #[.pointer (some ⟨E, 0, none⟩), .string s, .int .i64 n] w fun e w' => e = .returned (.int .i64 (Subj.err false s.data.toList : Nat)) ∧ NextS W G E w A w' := by
  have HSU := Lib.hid (Subj.refSubject_any s w hs)
  have HH := Lib.hid h
  generalize Subj.err false s.data.toList = er at *
  have he0 : ((er : Int) != 0) = true := by simpa using he
  clear h he hs
  go_enter Tryd.func93, Tryd.ntmps93
  go_wp2_with fail
  refine HSU.out.mono ?_
  rintro e w1 ⟨rfl, hb1⟩
  have HB1 := Lib.hid hb1
  clear hb1 HSU
  go_wp2_with fail
  go_ret
  exact ⟨rfl, NextS.refl HH.out HB1.out⟩

theorem put_shf (h : ShelfAt W G E A w) (s : ByteArray) (n : Int) (hs : s.size ≤ 1048576) :
    Calls Tryd.prog 93 #[.pointer (some ⟨E, 0, none⟩), .string s, .int .i64 n] w fun e w' => e = .returned (.int .i64 ((putL (Subj.err false s.data.toList) A s.data.toList n).2 : Nat)) ∧ NextS W G E w (putL (Subj.err false s.data.toList) A s.data.toList n).1 w' := by
  by_cases he : Subj.err false s.data.toList = 0
  · rcases idxL_cases A s.data.toList with ⟨e1, e2⟩ | ⟨k, p, e1, e2, e3, e5⟩
    · by_cases hl : A.length = 100
      · have hr : putL (Subj.err false s.data.toList) A s.data.toList n = (A, 8) := by unfold putL; rw [if_neg (by simp [he]), if_neg (by omega), if_pos hl]
        rw [hr]; exact put_full h s n hs he e1 hl
      · have hr : putL (Subj.err false s.data.toList) A s.data.toList n = (insL A s.data.toList n, 0) := by unfold putL; rw [if_neg (by simp [he]), if_neg (by omega), if_neg hl]
        rw [hr]; exact put_new h s n hs he e1 hl
    · have hr : putL (Subj.err false s.data.toList) A s.data.toList n = (setL A k s.data.toList n, 0) := by unfold putL; rw [if_neg (by simp [he]), if_pos (by omega), e1]; rfl
      rw [hr]; exact put_hit h s n hs he k p e1 e2 e3
  · have hr : putL (Subj.err false s.data.toList) A s.data.toList n = (A, Subj.err false s.data.toList) := by unfold putL; rw [if_pos he]
    rw [hr]; exact put_bad h s n hs he
end
end Go.Proofs.YthhingihjpkipaaDoor.Shf
