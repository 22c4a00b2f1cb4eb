/- Parts of the proof, joined: The first paper for which a predicate holds: slices.IndexFunc, walked.; The reference's disk in memory: a room and a slice of papers.; The reference's disk: Used, List, Read.; The reference's disk: Sync, Cut.; The reference's disk: Cut. -/
import Derived.Test.YtidacfhdhdnidaaGreatDoorVaultPlaysUptoM38
import Derived.Test.YtidacfhdhdnidaaGreatDoorProg
namespace Go.Proofs.YtidacfhdhdnidaaGreatDoor.Drw
open Go.RowKit Heap Dsk

def cells (p : FileP) : List Value := [.int .i64 p.n, .int .i64 (p.sure : Nat), .string ⟨p.text.toArray⟩]
def plsV (l : List FileP) : List Value := l.flatMap cells
theorem plsV_len (l : List FileP) : (plsV l).length = l.length * 3 := by
  induction l with
  | nil => rfl
  | cons p l ih =>
    show (cells p ++ plsV l).length = _
    rw [List.length_append, ih]
    simp [cells]; omega

theorem plsV_append (a b : List FileP) : plsV (a ++ b) = plsV a ++ plsV b := by simp [plsV]

theorem plsV_at (l : List FileP) (k : Nat) (p : FileP) (h : l[k]? = some p) (i : Nat) (hi : i < 3) : (plsV l)[k * 3 + i]? = (cells p)[i]? := by
  induction l generalizing k with
  | nil => simp at h
  | cons q l ih =>
    show (cells q ++ plsV l)[k * 3 + i]? = _
    cases k with
    | zero =>
      simp at h; subst h
      rw [List.getElem?_append_left (by simp [cells]; omega)]
      simp
    | succ k =>
      rw [List.getElem?_append_right (by simp [cells]; omega)]
      rw [show (k + 1) * 3 + i - (cells q).length = k * 3 + i by simp [cells]; omega]
      exact ih k (by simpa using h)

/-- A predicate on pulls: what a call of it answers in every world that C holds of. -/
def Tells (g : Nat) (lb : Array Value) (p : FileP → Bool) (C : World → Prop) : Prop :=
  ∀ (W : World) (x : FileP), C W → Calls Tryz.prog g (#[.agg #[.int .i64 x.n, .int .i64 (x.sure : Nat), .string ⟨x.text.toArray⟩]] ++ lb) W fun e w' => e = .returned (.bool (p x)) ∧ Below W.heap.size W w'

def KeptBy (v : Value) (C : World → Prop) : Prop := ∀ W W', C W → Heap.Touch (own v) W W' → C W'

theorem cells_pull {w : World} {g off n cap : Nat} {l : List FileP} (h : Row w 101 3 (.slice (some ⟨g, off, none⟩) n cap) n (plsV l)) (k : Nat) (p : FileP) (hp : l[k]? = some p) (hk : k < n) :
    w.cell? ⟨g, off + k * 3, none⟩ = some (.int .i64 p.n) ∧ w.cell? ⟨g, off + k * 3 + 1, none⟩ = some (.int .i64 (p.sure : Nat)) ∧ w.cell? ⟨g, off + k * 3 + 2, none⟩ = some (.string ⟨p.text.toArray⟩) := by
  have e : ∀ i, i < 3 → w.cell? ⟨g, off + k * 3 + i, none⟩ = (cells p)[i]? := fun i hi => by
    rw [show off + k * 3 + i = off + (k * 3 + i) by omega, (h.cell (k * 3 + i) (by omega)).1, plsV_at l k p hp i hi]
  exact ⟨e 0 (by omega), e 1 (by omega), e 2 (by omega)⟩

theorem frozen_pull {w : World} {g off n cap : Nat} {l : List FileP} (h : Row w 101 3 (.slice (some ⟨g, off, none⟩) n cap) n (plsV l)) (k : Nat) (hk : k < n) :
    w.frozen? ⟨g, off + k * 3, none⟩ = false ∧ w.frozen? ⟨g, off + k * 3 + 1, none⟩ = false ∧ w.frozen? ⟨g, off + k * 3 + 2, none⟩ = false := by
  have e : ∀ i, i < 3 → w.frozen? ⟨g, off + k * 3 + i, none⟩ = false := fun i hi => by
    rw [show off + k * 3 + i = off + (k * 3 + i) by omega, (h.cell (k * 3 + i) (by omega)).2]
  exact ⟨e 0 (by omega), e 1 (by omega), e 2 (by omega)⟩

set_option maxHeartbeats 2000000 in
set_option maxRecDepth 100000 in
theorem index_any (g : Nat) (lb : Array Value) (p : FileP → Bool) (C : World → Prop) (eg : ∀ args w, (callFunc g args).run Tryz.prog w = .ok (.enter g args) w)
    (v : Value) (l : List FileP) (w : World) (hrow : Row w 101 3 v l.length (plsV l)) (hl : l.length ≤ 1000) (hC : C w) (hk : KeptBy v C) (hp : Tells g lb p C)
    (r : Int) (hr : (r = -1 ∧ ∀ x ∈ l, p x = false) ∨ ∃ (k : Nat) (x : FileP), r = (k : Int) ∧ l[k]? = some x ∧ p x = true ∧ ∀ y ∈ l.take k, p y = false) :
    Calls Tryz.prog 163 #[v, .func (.func g) #[] lb] w fun e w' => e = .returned (.int .i64 r) ∧ Below w.heap.size w w' := by
  rcases hrow.2 with ⟨rfl, h0⟩ | ⟨b, off, cap, cur, rfl, hg, _⟩
  · obtain rfl : l = [] := List.eq_nil_of_length_eq_zero h0
    have : r = -1 := by
      rcases hr with h | ⟨k, x, _, h, _⟩
      · exact h.1
      · simp at h
    subst this
    clear hrow hr hp hk
    go_enter Tryz.func163, Tryz.ntmps163
    go_wp2_with fail
    go_loopw [5, 8] (fun _ i wr => i = .int .i64 0 ∧ wr = w) (fun _ _ _ => 0)
    case atStart => exact ⟨rfl, rfl⟩
    case round =>
      obtain ⟨rfl, rfl⟩ := hrel
      go_wp2
      go_ret
      exact ⟨rfl, Below.refl _ _⟩
  · have hb : b < w.heap.size := heap_lt hg
    have HR := Lib.hid hrow; have HQ := Lib.hid hr; have HP := Lib.hid hp; have HKB := Lib.hid hk; have HCC := Lib.hid hC
    clear hrow hr hp hk hC hg
    generalize hn : l.length = n at *
    have HN := Lib.hid hn
    clear hn
    go_enter Tryz.func163, Tryz.ntmps163
    go_wp2_with fail
    go_loopw [5, 8] (fun _ i wr => ∃ k : Nat, k ≤ n ∧ i = .int .i64 k ∧ Below w.heap.size w wr ∧ Hid (∀ y ∈ l.take k, p y = false)) (fun _ i _ => n - (intOf i).toNat)
    case atStart => exact ⟨0, Nat.zero_le _, rfl, Below.refl _ _, Lib.hid fun y h => by simp at h⟩
    case round =>
      obtain ⟨k, hkn, rfl, BW, A⟩ := hrel
      have BB := Lib.hid BW
      by_cases hlt : k < n
      · have hltz : (k : Int) < (n : Int) := by omega
        have hlt' : k < l.length := by rw [HN.out]; exact hlt
        obtain ⟨x, hx⟩ : ∃ x, l[k]? = some x := ⟨l[k], List.getElem?_eq_getElem hlt'⟩
        have hrow' := HR.out.kept (w' := wr) (fun j _ hj => BW.block j hj)
        obtain ⟨c0, c1, c2⟩ := cells_pull hrow' k x hx hlt
        have hcall := HP.out wr x (HKB.out w wr HCC.out (Heap.Touch.ofBelow BW))
        have X := Lib.hid hx
        clear hrow' hx BW
        cases hq : p x with
        | true =>
          rw [hq] at hcall
          have hrk : r = (k : Int) := by
            rcases HQ.out with ⟨_, h⟩ | ⟨k', x', rfl, h1, h2, h3⟩
            · have := h x (List.mem_of_getElem? X.out)
              rw [hq] at this; cases this
            · have e : k' = k := by
                rcases Nat.lt_trichotomy k' k with hlt2 | hlt2 | hlt2
                · have := A.out x' (List.mem_of_getElem? (i := k') (by rw [List.getElem?_take, if_pos hlt2]; exact h1))
                  rw [h2] at this; cases this
                · exact hlt2
                · have := h3 x (List.mem_of_getElem? (i := k) (by rw [List.getElem?_take, if_pos hlt2]; exact X.out))
                  rw [hq] at this; cases this
              rw [e]
          subst hrk
          go_wp2_with (go_at_fn g; refine hcall.mono ?_; rintro e w' ⟨rfl, hb'⟩)
          go_ret
          exact ⟨rfl, BB.out.trans (hb'.mono BB.out.size)⟩
        | false =>
          rw [hq] at hcall
          go_wp2_with (go_at_fn g; refine hcall.mono ?_; rintro e w' ⟨rfl, hb'⟩)
          refine ⟨⟨k + 1, by omega, by go_num, BB.out.trans (hb'.mono BB.out.size), Lib.hid fun y hy => ?_⟩, by simp [intOf]; omega⟩
          obtain ⟨j, hj, rfl⟩ := List.mem_iff_getElem.1 hy
          rw [List.length_take] at hj
          rw [List.getElem_take]
          by_cases e : j = k
          · subst e
            have := X.out
            rw [List.getElem?_eq_getElem hlt'] at this
            simp at this
            rw [this]; exact hq
          · exact A.out _ (List.mem_of_getElem? (i := j) (by rw [List.getElem?_take, if_pos (by omega)]; exact List.getElem?_eq_getElem (by omega)))
      · have hltz : ¬ (k : Int) < (n : Int) := by omega
        obtain rfl : k = n := by omega
        have hrk : r = -1 := by
          rcases HQ.out with ⟨h, _⟩ | ⟨k', x', rfl, h1, h2, h3⟩
          · exact h
          · have h4 := (List.getElem?_eq_some_iff.1 h1).1
            have := A.out x' (List.mem_of_getElem? (i := k') (by rw [List.getElem?_take, if_pos (by rw [← HN.out]; exact h4)]; exact h1))
            rw [h2] at this; cases this
        subst hrk
        go_wp2
        go_ret
        exact ⟨rfl, BB.out⟩

end Go.Proofs.YtidacfhdhdnidaaGreatDoor.Drw

namespace Go.Proofs.YtidacfhdhdnidaaGreatDoor.Drw
open Go.RowKit Heap Dsk

/-- The drawer at block E, its papers in the blocks of G. -/
structure DrawAt (W : World) (G : Nat → Prop) (E : Nat) (room : Int) (A : List FileP) (w : World) : Prop where
  right : RightD room A
  below : Below W.heap.size W w
  newG : ∀ k, G k → W.heap.size ≤ k
  gE : G E
  mem : ∃ v, w.heap[E]? = some (.cells #[.int .i64 room, v] 84 (0, 0)) ∧ Row w 101 3 v A.length (plsV A) ∧ ∀ k, own v k → G k

/-- The drawer's cells, and one paper's. -/
theorem drawCells {E : Nat} {w : World} {t : TypeId} {a0 a1 : Value} (h : w.heap[E]? = some (.cells #[a0, a1] t (0, 0))) : w.cell? ⟨E, 0, none⟩ = some a0 ∧ w.cell? ⟨E, 1, none⟩ = some a1 ∧ ∀ j, w.frozen? ⟨E, j, none⟩ = false := twoC h

theorem ne_row {E n : Nat} {w : World} {v a0 a1 : Value} {xs : List Value} (h : w.heap[E]? = some (.cells #[a0, a1] 84 (0, 0))) (hr : Row w 101 3 v n xs) : ¬ own v E := fun ho => by
  rcases hr.2 with ⟨rfl, _⟩ | ⟨g, off, cap, cur, rfl, hg, _⟩
  · simp [own, Value.ownBlock] at ho
  · simp [own, Value.ownBlock] at ho
    subst ho
    rw [h] at hg
    simp at hg

namespace DrawAt
variable {W w w' : World} {G : Nat → Prop} {E : Nat} {room : Int} {A : List FileP}

theorem kept (h : DrawAt W G E room A w) (hb : Below W.heap.size W w') (hs : Same G w w') : DrawAt W G E room A w' := by
  obtain ⟨v, h1, h2, h3⟩ := h.mem
  exact ⟨h.right, hb, h.newG, h.gE, v, (hs E h.gE (heap_lt h1)).trans h1, h2.kept (fun k hk hlt => hs k (h3 k hk) hlt), h3⟩

theorem next (h : DrawAt W G E room A w) (hb : Below w.heap.size w w') : DrawAt W G E room A w' :=
  h.kept (h.below.trans (hb.mono h.below.size)) fun k _ hk => hb.block k hk

theorem mono {H : Nat → Prop} (h : DrawAt W G E room A w) (hH : ∀ k, G k → H k) (hn : ∀ k, H k → W.heap.size ≤ k) : DrawAt W H E room A w := by
  obtain ⟨v, h1, h2, h3⟩ := h.mem
  exact ⟨h.right, h.below, hn, hH _ h.gE, v, h1, h2, fun k hk => hH k (h3 k hk)⟩
end DrawAt

/-! ### at -/
/-- Where a file stands, or -1. -/
def idxF : List FileP → Int → Int
  | [], _ => -1
  | p :: r, n => if p.n = n then 0 else if idxF r n = -1 then -1 else idxF r n + 1

theorem idxF_cases : ∀ (A : List FileP) (n : Int), (idxF A n = -1 ∧ getF A n = none) ∨ ∃ (k : Nat) (p : FileP), idxF A n = (k : Int) ∧ A[k]? = some p ∧ p.n = n ∧ getF A n = some p ∧ ∀ y ∈ A.take k, y.n ≠ n
  | [], n => .inl ⟨rfl, rfl⟩
  | a :: r, n => by
    unfold idxF getF
    by_cases e : a.n = n
    · rw [if_pos e, if_pos e]
      exact .inr ⟨0, a, rfl, rfl, e, rfl, fun y h => by simp at h⟩
    · rw [if_neg e, if_neg e]
      rcases idxF_cases r n with ⟨h1, h2⟩ | ⟨k, p, h1, h2, h3, h4, h5⟩
      · rw [if_pos h1]; exact .inl ⟨rfl, h2⟩
      · rw [if_neg (by omega), h1]
        refine .inr ⟨k + 1, p, by omega, by simpa using h2, h3, h4, fun y hy => ?_⟩
        rw [List.take_succ_cons] at hy
        rcases List.mem_cons.1 hy with rfl | hy
        · exact e
        · exact h5 y hy

theorem tells_n (n : Int) (X : Nat) : Tells 164 #[.pointer (some ⟨X, 0, none⟩)] (fun p => p.n == n) (fun w => w.cell? ⟨X, 0, none⟩ = some (.int .i64 n)) := by
  intro W x hC
  show Calls Tryz.prog _ #[.agg #[.int .i64 x.n, .int .i64 (x.sure : Nat), .string ⟨x.text.toArray⟩], .pointer (some ⟨X, 0, none⟩)] W _
  have hX := World.block_lt_of_cell? W _ hC
  go_enter Tryz.func164, Tryz.ntmps164
  go_wp2
  go_ret
  exact ⟨rfl, (Below.refl _ _).alloc (Nat.le_refl _) _⟩

set_option maxHeartbeats 1000000 in
set_option maxRecDepth 100000 in
theorem at_any {W w : World} {G : Nat → Prop} {E : Nat} {room : Int} {A : List FileP} (h : DrawAt W G E room A w) (n : Int) :
    Calls Tryz.prog 117 #[.pointer (some ⟨E, 0, none⟩), .int .i64 n] w fun e w' => e = .returned (.int .i64 (idxF A n)) ∧ Below w.heap.size w w' := by
  obtain ⟨v, h1, h2, h3⟩ := h.mem
  obtain ⟨w1, hw1⟩ : ∃ w1, w1 = w.alloc (.cells #[.int .i64 n] 3) := ⟨_, rfl⟩
  have hb1 : Below w.heap.size w w1 := by rw [hw1]; exact (Below.refl _ _).alloc (Nat.le_refl _) _
  have hc : w1.cell? ⟨w.heap.size, 0, none⟩ = some (.int .i64 n) := by rw [hw1, World.cell?_alloc_at _ _ _ _ rfl]; rfl
  have hE1 := (hb1.block E (heap_lt h1)).trans h1
  obtain ⟨c0, c1, cf⟩ := twoC hE1
  have hr1 := h2.kept (w' := w1) fun k _ hk => hb1.block k hk
  have hlen := h.right.few
  have hidx := index_any 164 #[.pointer (some ⟨w.heap.size, 0, none⟩)] (fun p => p.n == n) (fun w => w.cell? ⟨_, 0, none⟩ = some (.int .i64 n)) (fun _ _ => rfl) v A w1 hr1 (by omega) hc
    (fun Wa Wb hCa ht => (ht.cell (World.block_lt_of_cell? Wa _ hCa) (fun ho => by have h4 : w.heap.size < w.heap.size := h2.lt _ ho; omega)).trans hCa) (tells_n n _) (idxF A n) (by
      rcases idxF_cases A n with ⟨e1, e2⟩ | ⟨k, p, e1, e2, e3, e4, e5⟩
      · exact .inl ⟨e1, fun x hx => by have := getF_none e2 x hx; simpa using this⟩
      · exact .inr ⟨k, p, e1, e2, by simpa using e3, fun y hy => by have := e5 y hy; simpa using this⟩)
  have HI := Lib.hid hidx; have HB := Lib.hid hb1
  clear h h1 h2 h3 hc hE1 hr1 hlen hidx hb1
  go_enter Tryz.func117, Tryz.ntmps117
  go_upto_region 1 with fail
  rw [← hw1]
  clear hw1
  go_wp2_with fail
  refine HI.out.mono ?_
  rintro e w' ⟨rfl, hb⟩
  have HF := Lib.hid (HB.out.trans (hb.mono HB.out.size))
  clear hb
  go_wp2
  go_ret
  exact ⟨rfl, HF.out⟩
end Go.Proofs.YtidacfhdhdnidaaGreatDoor.Drw

namespace Go.Proofs.YtidacfhdhdnidaaGreatDoor.Drw
open Go.RowKit Heap Dsk

theorem total_takeF {A : List FileP} {k : Nat} (hk : k < A.length) : total (A.take (k + 1)) = total (A.take k) + A[k].text.length := by
  rw [List.take_add_one, List.getElem?_eq_getElem hk]
  show total (A.take k ++ [A[k]]) = _
  have : ∀ (l : List FileP) (p : FileP), total (l ++ [p]) = total l + p.text.length := by
    intro l p
    induction l with
    | nil => simp [total]
    | cons a r ih => simp only [List.cons_append, total, ih]; omega
  exact this _ _

theorem total_take_le (A : List FileP) (k : Nat) : total (A.take k) ≤ total A := by
  induction A generalizing k with
  | nil => simp
  | cons a r ih =>
    cases k with
    | zero => simp [total]
    | succ k => simp only [List.take_succ_cons, total]; have := ih k; omega

section
variable {W w : World} {G : Nat → Prop} {E : Nat} {room : Int} {A : List FileP}

set_option maxHeartbeats 1000000 in
set_option maxRecDepth 100000 in
theorem used_drw (h : DrawAt W G E room A w) : Calls Tryz.prog 66 #[.pointer (some ⟨E, 0, none⟩)] w fun e w' => e = .returned (.int .i64 (total A : Nat)) ∧ w = w' := by
  obtain ⟨v, h1, h2, h3⟩ := h.mem
  obtain ⟨c0, c1, cf⟩ := twoC h1
  have hfit := h.right.fits; have hsm := h.right.small; have hfew := h.right.few
  obtain ⟨L, hL⟩ : ∃ L, A.length = L := ⟨_, rfl⟩
  rw [hL] at h2 hfew
  obtain ⟨a, c, hv⟩ := h2.slice
  subst hv
  have HL := Lib.hid hL; have HR := Lib.hid h2; have HH := Lib.hid h
  have HT := Lib.hid (total_take_le A)
  clear h h1 h2 h3 hL
  go_enter Tryz.func66, Tryz.ntmps66
  go_wp2_with fail
  go_loopw [3, 4] (fun s i wr => ∃ k : Nat, k ≤ L ∧ i = .int .i64 k ∧ s = .int .i64 (total (A.take k) : Nat) ∧ w = wr) (fun _ i _ => L - (intOf i).toNat)
  case atStart => exact ⟨0, Nat.zero_le _, rfl, rfl, rfl⟩
  case round =>
    obtain ⟨k, hk, rfl, rfl, rfl⟩ := hrel
    by_cases hlt : k < L
    · have hltz : (k : Int) < L := by omega
      have hkA : k < A.length := by rw [HL.out]; exact hlt
      have hst := total_takeF hkA
      have hp := List.getElem?_eq_getElem hkA
      generalize A[k] = p at hst hp
      have hrow := HR.out.2
      rcases hrow with ⟨hv, h0⟩ | ⟨g, off, cap, cur, hv, _⟩
      · omega
      simp only [Value.slice.injEq, true_and] at hv
      obtain ⟨rfl, rfl⟩ := hv
      obtain ⟨d0, d1, d2⟩ := cells_pull HR.out k p hp hlt
      obtain ⟨T, hT, hTs, hTl⟩ := text_of p.text
      rw [← hT] at d2
      have htt := HT.out (k + 1)
      rw [hst, ← hTs] at htt
      have HST := Lib.hid (show (total (A.take (k + 1)) : Nat) = total (A.take k) + T.size from by rw [hTs]; exact hst)
      obtain ⟨t0, ht0⟩ : ∃ t0, total (A.take k) = t0 := ⟨_, rfl⟩
      rw [ht0] at htt HST ⊢
      have wz : IntKind.i64.wrap ((t0 : Int) + (T.size : Int)) = (t0 : Int) + (T.size : Int) := IntWalk.i64_in _ (by omega)
      clear hst hp hT hTs hTl ht0
      go_wp2_with fail
      exact ⟨⟨k + 1, by omega, by go_num, by rw [HST.out]; go_num, trivial⟩, by simp [intOf]; omega⟩
    · have hltz : ¬ (k : Int) < L := by omega
      obtain rfl : k = L := by omega
      have HF := Lib.hid (show total (A.take k) = total A from by rw [List.take_of_length_le (by rw [HL.out]; exact Nat.le_refl _)])
      go_wp2_with fail
      go_ret
      exact ⟨ret_int (by rw [HF.out]), rfl⟩

theorem index_pos {A : List FileP} {n : Int} {k : Nat} (h : idxF A n = (k : Int)) : ∃ p, A[k]? = some p ∧ p.n = n ∧ getF A n = some p ∧ (∀ y ∈ A.take k, y.n ≠ n) ∧ k < A.length := by
  rcases idxF_cases A n with ⟨h1, h2⟩ | ⟨k', p, h1, h2, h3, h4, h5⟩
  · omega
  · obtain rfl : k' = k := by omega
    exact ⟨p, h2, h3, h4, h5, (List.getElem?_eq_some_iff.1 h2).1⟩

set_option maxHeartbeats 1000000 in
set_option maxRecDepth 100000 in
theorem read_drw (h : DrawAt W G E room A w) (n : Int) : Calls Tryz.prog 110 #[.pointer (some ⟨E, 0, none⟩), .int .i64 n] w fun e w' => e = .returned (.tuple #[.string ⟨(readD A n).1.toArray⟩, .int .i64 ((readD A n).2 : Nat)]) ∧ Below w.heap.size w w' := by
  have HA := Lib.hid (at_any h n)
  have HH := Lib.hid h
  have hfew := h.right.few
  rcases idxF_cases A n with ⟨e1, e2⟩ | ⟨k, p, e1, e2, e3, e4, e5⟩
  · have hr : readD A n = ([], 4) := by unfold readD; rw [e2]
    rw [hr]
    rw [e1] at HA
    clear h e1 e2 hr
    go_enter Tryz.func110, Tryz.ntmps110
    go_wp2_with fail
    refine HA.out.mono ?_
    rintro e w' ⟨rfl, hb⟩
    have HB := Lib.hid hb
    clear hb
    go_wp2_with fail
    go_ret2
    exact ⟨rfl, HB.out⟩
  · have hr : readD A n = (p.text, 0) := by unfold readD; rw [e4]
    rw [hr]
    rw [e1] at HA
    have hkA := (List.getElem?_eq_some_iff.1 e2).1
    have HP := Lib.hid e2
    clear h e1 e2 e3 e4 e5 hr
    go_enter Tryz.func110, Tryz.ntmps110
    go_wp2_with fail
    refine HA.out.mono ?_
    rintro e w' ⟨rfl, hb⟩
    obtain ⟨v, h1, h2, h3⟩ := (HH.out.next hb).mem
    obtain ⟨c0, c1, cf⟩ := twoC h1
    have HB := Lib.hid hb
    have hrow := h2.2
    rcases hrow with ⟨hv, h0⟩ | ⟨g, off, cap, cur, hv, _⟩
    · omega
    subst hv
    obtain ⟨d0, d1, d2⟩ := cells_pull h2 k p HP.out hkA
    clear hb h1 h2 h3 HA
    go_wp2_with fail
    go_ret2
    exact ⟨rfl, HB.out⟩
end
end Go.Proofs.YtidacfhdhdnidaaGreatDoor.Drw

namespace Go.Proofs.YtidacfhdhdnidaaGreatDoor.Drw
open Go.RowKit Heap Dsk

/-! ### in plain Lean -/
theorem setF_set : ∀ {A : List FileP} {k : Nat} {p q : FileP}, A[k]? = some p → p.n = q.n → (∀ y ∈ A.take k, y.n ≠ q.n) → setF A q = A.set k q
  | [], k, p, q, h, _, _ => by simp at h
  | a :: r, 0, p, q, h, e, _ => by
    simp only [List.getElem?_cons_zero, Option.some.injEq] at h; subst h
    unfold setF; rw [if_pos e]; rfl
  | a :: r, k + 1, p, q, h, e, hn => by
    unfold setF
    rw [if_neg (hn a (by simp)), setF_set (k := k) (by simpa using h) e (fun y hy => hn y (by rw [List.take_succ_cons]; exact List.mem_cons_of_mem _ hy))]
    rfl

theorem plsV_cons (a : FileP) (r : List FileP) : plsV (a :: r) = cells a ++ plsV r := rfl

/-- A paper's cell is written. -/
theorem plsV_set : ∀ {A : List FileP} {k : Nat} {p q : FileP} {j : Nat} {u : Value}, A[k]? = some p → j < 3 → cells q = (cells p).set j u → (plsV A).set (k * 3 + j) u = plsV (A.set k q)
  | [], k, p, q, j, u, h, _, _ => by simp at h
  | a :: r, 0, p, q, j, u, h, hj, hq => by
    simp only [List.getElem?_cons_zero, Option.some.injEq] at h; subst h
    rw [plsV_cons, Nat.zero_mul, Nat.zero_add, List.set_append_left _ _ (by simp [cells]; omega)]
    rw [List.set_cons_zero, plsV_cons, hq]
  | a :: r, k + 1, p, q, j, u, h, hj, hq => by
    have hl : (cells a).length = 3 := rfl
    rw [plsV_cons, List.set_append_right _ _ (by rw [hl]; omega), hl, show (k + 1) * 3 + j - 3 = k * 3 + j by omega, plsV_set (by simpa using h) hj hq]
    rfl

section
variable {W w : World} {G : Nat → Prop} {E : Nat} {room : Int} {A : List FileP}

/-- The world in which a drawer's paper is turned. -/
theorem DrawAt.put {w' : World} {v : Value} {k : Nat} {p q : FileP} {n : Int} (h : DrawAt W G E room A w) (hn : idxF A n = (k : Int)) (hp : A[k]? = some p) (hq : q.n = n) (hr : RightD room (setF A q))
    (hE : w'.heap[E]? = some (.cells #[.int .i64 room, v] 84 (0, 0))) (hrow : Row w' 101 3 v A.length (plsV (A.set k q))) (ho : ∀ k, own v k → G k) (ht : Heap.Touch G w w') :
    DrawAt W G E room (setF A q) w' := by
  obtain ⟨p', h1, h2, h3, h4, _⟩ := index_pos hn
  obtain rfl : p' = p := by rw [hp] at h1; simpa using h1.symm
  subst hq
  have hset : setF A q = A.set k q := setF_set hp h2 h4
  refine ⟨hr, h.below.trans (ht.below h.below.size h.newG), h.newG, h.gE, v, hE, ?_, ho⟩
  rw [hset, List.length_set]; exact hrow

set_option maxHeartbeats 1000000 in
set_option maxRecDepth 100000 in
theorem sync_drw (h : DrawAt W G E room A w) (n : Int) : Calls Tryz.prog 47 #[.pointer (some ⟨E, 0, none⟩), .int .i64 n] w fun e w' => e = .returned (.int .i64 ((syncD A n).2 : Nat)) ∧ DrawAt W G E room (syncD A n).1 w' ∧ Heap.Touch G w w' := by
  have HA := Lib.hid (at_any h n)
  have HH := Lib.hid h
  have hfew := h.right.few
  rcases idxF_cases A n with ⟨e1, e2⟩ | ⟨k, p, e1, e2, e3, e4, e5⟩
  · have hr : syncD A n = (A, 4) := by unfold syncD; rw [e2]
    rw [hr]
    rw [e1] at HA
    clear h e1 e2 hr
    go_enter Tryz.func47, Tryz.ntmps47
    go_wp2_with fail
    refine HA.out.mono ?_
    rintro e w' ⟨rfl, hb⟩
    have HB := Lib.hid hb
    clear hb
    go_wp2_with fail
    go_ret
    exact ⟨rfl, HH.out.next HB.out, Heap.Touch.ofBelow HB.out⟩
  · have hr : syncD A n = (setF A ⟨n, p.text, p.text.length⟩, 0) := by unfold syncD; rw [e4]
    rw [hr]
    have hkA := (List.getElem?_eq_some_iff.1 e2).1
    have htot := total_setF (q := ⟨n, p.text, p.text.length⟩) h.right.sorted e4
    have hrt : RightD room (setF A ⟨n, p.text, p.text.length⟩) := h.right.set e4 _ rfl (Nat.le_refl _) (by have := h.right.fits; simp only; omega)
    have HP := Lib.hid e2; have HRT := Lib.hid hrt; have HE1 := Lib.hid e1; have HPN := Lib.hid e3
    rw [e1] at HA
    clear h e1 e2 e3 e4 e5 hr htot hrt
    go_enter Tryz.func47, Tryz.ntmps47
    go_wp2_with fail
    refine HA.out.mono ?_
    rintro e w' ⟨rfl, hb⟩
    have HD := Lib.hid (HH.out.next hb)
    obtain ⟨v, h1, h2, h3⟩ := HD.out.mem
    obtain ⟨c0, c1, cf⟩ := twoC h1
    have hrow := h2.2
    rcases hrow with ⟨hv, h0⟩ | ⟨g, off, cap, cur, hv, _⟩
    · omega
    subst hv
    obtain ⟨d0, d1, d2⟩ := cells_pull h2 k p HP.out hkA
    obtain ⟨f0, f1, f2⟩ := frozen_pull h2 k hkA
    obtain ⟨T, hT, hTs, hTl⟩ := text_of p.text
    rw [← hT] at d2
    have hgG : G g := h3 g (by simp [own, Value.ownBlock])
    have hneE : E ≠ g := fun e => ne_row h1 h2 (by rw [e]; simp [own, Value.ownBlock])
    have hend : DrawAt W G E room (setF A ⟨n, p.text, p.text.length⟩) (w'.drew.setCell ⟨g, off + k * 3 + 1, none⟩ (.int .i64 (T.size : Nat))) ∧ Heap.Touch G w (w'.drew.setCell ⟨g, off + k * 3 + 1, none⟩ (.int .i64 (T.size : Nat))) := by
      have ht : Heap.Touch G w' (w'.drew.setCell ⟨g, off + k * 3 + 1, none⟩ (.int .i64 (T.size : Nat))) := (Heap.Touch.refl _ w').drew.setCell (.inl hgG) _
      have hset := Row.set (w := w'.drew) (h2.kept (w' := w'.drew) fun _ _ _ => rfl) (k * 3 + 1) (by omega) (.int .i64 (T.size : Nat))
      rw [plsV_set (q := ⟨n, p.text, p.text.length⟩) HP.out (by omega) (by simp [cells, HPN.out, hTs])] at hset
      rw [← Nat.add_assoc] at hset
      refine ⟨HD.out.put HE1.out HP.out rfl HRT.out ?_ hset h3 ht, (Heap.Touch.ofBelow hb).after ht⟩
      rw [heap_setCell_other _ _ _ _ hneE]; exact h1
    have HEND := Lib.hid hend
    clear hb h1 h2 h3 HA hT hTs hTl hend hgG
    go_wp2_with fail
    go_region
    go_wp2
    go_ret
    exact ⟨rfl, HEND.out⟩
end
end Go.Proofs.YtidacfhdhdnidaaGreatDoor.Drw

namespace Go.Proofs.YtidacfhdhdnidaaGreatDoor.Drw
open Go.RowKit Heap Dsk

theorem in_yes (n lo hi : Int) (w : World) (h : lo ≤ n ∧ n ≤ hi) : Calls Tryz.prog 40 #[.int .i64 n, .int .i64 lo, .int .i64 hi] w fun e w' => e = .returned (.bool true) ∧ w = w' := by
  obtain ⟨h1, h2⟩ := h
  go_enter Tryz.func40, Tryz.ntmps40
  go_wp2
  go_ret
  exact ⟨rfl, rfl⟩

theorem in_no (n lo hi : Int) (w : World) (h : ¬ (lo ≤ n ∧ n ≤ hi)) : Calls Tryz.prog 40 #[.int .i64 n, .int .i64 lo, .int .i64 hi] w fun e w' => e = .returned (.bool false) ∧ w = w' := by
  by_cases h1 : lo ≤ n
  · have h2 : hi < n := by omega
    clear h
    go_enter Tryz.func40, Tryz.ntmps40
    go_wp2
    go_ret
    exact ⟨ret_bool (decide_eq_false (by omega)), rfl⟩
  · have h1' : n < lo := by omega
    clear h h1
    go_enter Tryz.func40, Tryz.ntmps40
    go_wp2
    go_ret
    exact ⟨rfl, rfl⟩

section
variable {W w : World} {G : Nat → Prop} {E : Nat} {room : Int} {A : List FileP}

set_option maxHeartbeats 1000000 in
set_option maxRecDepth 100000 in
theorem cut_drw (h : DrawAt W G E room A w) (n size : Int) : Calls Tryz.prog 103 #[.pointer (some ⟨E, 0, none⟩), .int .i64 n, .int .i64 size] w fun e w' => e = .returned (.int .i64 ((cutD A n size).2 : Nat)) ∧ DrawAt W G E room (cutD A n size).1 w' ∧ Heap.Touch G w w' := by
  have HA := Lib.hid (at_any h n)
  have HH := Lib.hid h
  have hfew := h.right.few
  rcases idxF_cases A n with ⟨e1, e2⟩ | ⟨k, p, e1, e2, e3, e4, e5⟩
  · have hr : cutD A n size = (A, 4) := by unfold cutD; rw [e2]
    rw [hr]
    rw [e1] at HA
    clear h e1 e2 hr
    go_enter Tryz.func103, Tryz.ntmps103
    go_wp2_with fail
    refine HA.out.mono ?_
    rintro e w' ⟨rfl, hb⟩
    have HB := Lib.hid hb
    clear hb
    go_wp2_with fail
    go_ret
    exact ⟨rfl, HH.out.next HB.out, Heap.Touch.ofBelow HB.out⟩
  · have hkA := (List.getElem?_eq_some_iff.1 e2).1
    have hple := h.right.len (getF_n e4).2
    obtain ⟨T, hT, hTs, hTl⟩ := text_of p.text
    by_cases hbad : size < 0 ∨ (p.text.length : Int) < size
    · have hr : cutD A n size = (A, 1) := by unfold cutD; rw [e4]; simp only; rw [if_pos hbad]
      rw [hr]
      have HP := Lib.hid e2
      have HT := Lib.hid hT
      rw [e1] at HA
      have HIN := Lib.hid (fun w => in_no size 0 T.size w (by omega))
      clear h e1 e2 e3 e4 e5 hr hT hTs hTl hbad
      go_enter Tryz.func103, Tryz.ntmps103
      go_wp2_with fail
      refine HA.out.mono ?_
      rintro e w' ⟨rfl, hb⟩
      have HD := Lib.hid (HH.out.next hb)
      have HB := Lib.hid hb
      obtain ⟨v, h1, h2, h3⟩ := HD.out.mem
      obtain ⟨c0, c1, cf⟩ := twoC h1
      have hrow := h2.2
      rcases hrow with ⟨hv, h0⟩ | ⟨g, off, cap, cur, hv, _⟩
      · omega
      subst hv
      obtain ⟨d0, d1, d2⟩ := cells_pull h2 k p HP.out hkA
      rw [← HT.out] at d2
      clear hb h1 h2 h3 HA
      go_wp2_with fail
      refine (HIN.out _).mono ?_
      rintro e w2 ⟨rfl, rfl⟩
      clear HIN
      go_wp2_with fail
      go_ret
      exact ⟨rfl, HD.out, Heap.Touch.ofBelow HB.out⟩
    · obtain ⟨s, rfl⟩ : ∃ s : Nat, size = (s : Int) := ⟨size.toNat, by omega⟩
      have hr : cutD A n s = (setF A ⟨n, p.text.take s, s⟩, 0) := by unfold cutD; rw [e4]; simp only; rw [if_neg hbad]; rfl
      rw [hr]
      have hsl : s ≤ T.size := by omega
      have htk : (p.text.take s).length = s := by rw [List.length_take]; omega
      have htot := total_setF (q := ⟨n, p.text.take s, s⟩) h.right.sorted e4
      have hrt : RightD room (setF A ⟨n, p.text.take s, s⟩) := h.right.set e4 _ rfl (by simp only [htk]; omega) (by have := h.right.fits; have := h.right.sure p (getF_n e4).2; simp only [htk]; omega)
      have HP := Lib.hid e2; have HRT := Lib.hid hrt; have HE1 := Lib.hid e1; have HPN := Lib.hid e3
      have HT := Lib.hid hT; have HTL := Lib.hid hTl
      have HIN := Lib.hid (fun w => in_yes s 0 T.size w (by omega))
      rw [e1] at HA
      clear h e1 e2 e3 e4 e5 hr htot hrt hT hTs hTl hbad htk hple
      go_enter Tryz.func103, Tryz.ntmps103
      go_wp2_with fail
      refine HA.out.mono ?_
      rintro e w' ⟨rfl, hb⟩
      have HD := Lib.hid (HH.out.next hb)
      obtain ⟨v, h1, h2, h3⟩ := HD.out.mem
      obtain ⟨c0, c1, cf⟩ := twoC h1
      have hrow := h2.2
      rcases hrow with ⟨hv, h0⟩ | ⟨g, off, cap, cur, hv, _⟩
      · omega
      subst hv
      obtain ⟨d0, d1, d2⟩ := cells_pull h2 k p HP.out hkA
      obtain ⟨f0, f1, f2⟩ := frozen_pull h2 k hkA
      rw [← HT.out] at d2
      have hgG : G g := h3 g (by simp [own, Value.ownBlock])
      have hneE : E ≠ g := fun e => ne_row h1 h2 (by rw [e]; simp [own, Value.ownBlock])
      have hend : DrawAt W G E room (setF A ⟨n, p.text.take s, s⟩) ((w'.drew.setCell ⟨g, off + k * 3 + 2, none⟩ (.string (T.extract 0 s))).setCell ⟨g, off + k * 3 + 1, none⟩ (.int .i64 (s : Nat))) ∧ Heap.Touch G w ((w'.drew.setCell ⟨g, off + k * 3 + 2, none⟩ (.string (T.extract 0 s))).setCell ⟨g, off + k * 3 + 1, none⟩ (.int .i64 (s : Nat))) := by
        have ht : Heap.Touch G w' ((w'.drew.setCell ⟨g, off + k * 3 + 2, none⟩ (.string (T.extract 0 s))).setCell ⟨g, off + k * 3 + 1, none⟩ (.int .i64 (s : Nat))) := ((Heap.Touch.refl _ w').drew.setCell (.inl hgG) _).setCell (.inl hgG) _
        have hset := Row.set (w := w'.drew) (h2.kept (w' := w'.drew) fun _ _ _ => rfl) (k * 3 + 2) (by omega) (.string (T.extract 0 s))
        rw [plsV_set (q := ⟨p.n, p.text.take s, p.sure⟩) HP.out (by omega) (by simp [cells, take_text HTL.out]), ← Nat.add_assoc] at hset
        have hset2 := Row.set hset (k * 3 + 1) (by omega) (.int .i64 (s : Nat))
        rw [plsV_set (k := k) (p := ⟨p.n, p.text.take s, p.sure⟩) (q := ⟨n, p.text.take s, s⟩) (by rw [List.getElem?_set_self hkA]) (by omega) (by simp [cells, HPN.out]), List.set_set, ← Nat.add_assoc] at hset2
        refine ⟨HD.out.put HE1.out HP.out rfl HRT.out ?_ hset2 h3 ht, (Heap.Touch.ofBelow hb).after ht⟩
        rw [heap_setCell_other _ _ _ _ hneE, heap_setCell_other _ _ _ _ hneE]; exact h1
      have HEND := Lib.hid hend
      clear hb h1 h2 h3 HA hend hgG
      go_wp2_with fail
      refine (HIN.out _).mono ?_
      rintro e w2 ⟨rfl, rfl⟩
      clear HIN
      go_wp2_with fail
      go_region
      go_wp2
      go_ret
      exact ⟨rfl, HEND.out⟩
end
end Go.Proofs.YtidacfhdhdnidaaGreatDoor.Drw
