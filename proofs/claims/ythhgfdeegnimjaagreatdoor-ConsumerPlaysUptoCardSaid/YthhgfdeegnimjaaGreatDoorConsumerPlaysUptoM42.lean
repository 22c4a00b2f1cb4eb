/- Parts of the proof, joined: The first delivery for which a predicate holds: slices.IndexFunc at the reference's, walked. gen_handrun.py wrote this text.; Done and Due of a consumer, the program's and the reference's, walked.; The reference's consumer: Waits, Done, Due, walked.; The reference's chest: Seek, walked.; The turns of a consumer in memory.; The law StoreSums, walked: it returns true.; (*Log).Rewrite, walked.; A plan among the parameters, opened.; A consumer's plan among the parameters, opened: a TakerP.; A consumer's plan among the parameters: the block of its waits lies in memory. -/
import Derived.Test.YthhgfdeegnimjaaGreatDoorConsumerPlaysUptoM2
import Derived.Test.YthhgfdeegnimjaaGreatDoorConsumerPlaysUptoM6
import Derived.Test.YthhgfdeegnimjaaGreatDoorConsumerPlaysUptoM15
import Derived.Test.YthhgfdeegnimjaaGreatDoorConsumerPlaysUptoM21
import Derived.Test.YthhgfdeegnimjaaGreatDoorConsumerPlaysUptoM22
import Derived.Test.YthhgfdeegnimjaaGreatDoorConsumerPlaysUptoM24
import Derived.Test.YthhgfdeegnimjaaGreatDoorConsumerPlaysUptoM28
import Derived.Test.YthhgfdeegnimjaaGreatDoorConsumerPlaysUptoM29
import Derived.Test.YthhgfdeegnimjaaGreatDoorConsumerPlaysUptoM41
import Derived.Test.YthhgfdeegnimjaaGreatDoorProg
import Derived.Shelf.SlicesQ.Load
import Derived.Deep.LoopGhost
import Derived.Lib.SlBy
import Derived.ChangeSlices
import Derived.OpenShut
import Derived.ChangeMaps5
namespace Go.Proofs.YthhgfdeegnimjaaGreatDoor.Hnd
open Go.RowKit Heap Con

def cells (p : Pd) : List Value := [.int .i64 p.seq, .int .i64 p.nth, .int .i64 p.due]
def plsV (l : List Pd) : List Value := l.flatMap cells
theorem plsV_at (l : List Pd) (k : Nat) (p : Pd) (h : l[k]? = some p) (i : Nat) (hi : i < 3) : (plsV l)[k * 3 + i]? = (cells p)[i]? := by
  induction l generalizing k with
  | nil => simp at h
  | cons q l ih =>
    show (cells q ++ plsV l)[k * 3 + i]? = _
    cases k with
    | zero =>
      simp at h; subst h
      rw [List.getElem?_append_left (by simp [cells]; omega)]
      simp
    | succ k =>
      rw [List.getElem?_append_right (by simp [cells]; omega)]
      rw [show (k + 1) * 3 + i - (cells q).length = k * 3 + i by simp [cells]; omega]
      exact ih k (by simpa using h)

/-- A predicate on pulls: what a call of it answers in every world that C holds of. -/
def Tells (g : Nat) (lb : Array Value) (p : Pd → Bool) (C : World → Prop) : Prop :=
  ∀ (W : World) (x : Pd), C W → Calls Tryz.prog g (#[.agg #[.int .i64 x.seq, .int .i64 x.nth, .int .i64 x.due]] ++ lb) W fun e w' => e = .returned (.bool (p x)) ∧ Below W.heap.size W w'

def KeptBy (v : Value) (C : World → Prop) : Prop := ∀ W W', C W → Heap.Touch (own v) W W' → C W'

theorem cells_pull {w : World} {g off n cap : Nat} {l : List Pd} (h : Row w 154 3 (.slice (some ⟨g, off, none⟩) n cap) n (plsV l)) (k : Nat) (p : Pd) (hp : l[k]? = some p) (hk : k < n) :
    w.cell? ⟨g, off + k * 3, none⟩ = some (.int .i64 p.seq) ∧ w.cell? ⟨g, off + k * 3 + 1, none⟩ = some (.int .i64 p.nth) ∧ w.cell? ⟨g, off + k * 3 + 2, none⟩ = some (.int .i64 p.due) := by
  have e : ∀ i, i < 3 → w.cell? ⟨g, off + k * 3 + i, none⟩ = (cells p)[i]? := fun i hi => by
    rw [show off + k * 3 + i = off + (k * 3 + i) by omega, (h.cell (k * 3 + i) (by omega)).1, plsV_at l k p hp i hi]
  exact ⟨e 0 (by omega), e 1 (by omega), e 2 (by omega)⟩

set_option maxHeartbeats 2000000 in
set_option maxRecDepth 100000 in
theorem index_any (g : Nat) (lb : Array Value) (p : Pd → Bool) (C : World → Prop) (eg : ∀ args w, (callFunc g args).run Tryz.prog w = .ok (.enter g args) w)
    (v : Value) (l : List Pd) (w : World) (hrow : Row w 154 3 v l.length (plsV l)) (hl : l.length ≤ 1000) (hC : C w) (hk : KeptBy v C) (hp : Tells g lb p C)
    (r : Int) (hr : (r = -1 ∧ ∀ x ∈ l, p x = false) ∨ ∃ (k : Nat) (x : Pd), r = (k : Int) ∧ l[k]? = some x ∧ p x = true ∧ ∀ y ∈ l.take k, p y = false) :
    Calls Tryz.prog 166 #[v, .func (.func g) #[] lb] w fun e w' => e = .returned (.int .i64 r) ∧ Below w.heap.size w w' := by
  rcases hrow.2 with ⟨rfl, h0⟩ | ⟨b, off, cap, cur, rfl, hg, _⟩
  · obtain rfl : l = [] := List.eq_nil_of_length_eq_zero h0
    have : r = -1 := by
      rcases hr with h | ⟨k, x, _, h, _⟩
      · exact h.1
      · simp at h
    subst this
    clear hrow hr hp hk
    go_enter Tryz.func166, Tryz.ntmps166
    go_wp2_with fail
    go_loopw [5, 8] (fun _ i wr => i = .int .i64 0 ∧ wr = w) (fun _ _ _ => 0)
    case atStart => exact ⟨rfl, rfl⟩
    case round =>
      obtain ⟨rfl, rfl⟩ := hrel
      go_wp2
      go_ret
      exact ⟨rfl, Below.refl _ _⟩
  · have hb : b < w.heap.size := heap_lt hg
    have HR := Lib.hid hrow; have HQ := Lib.hid hr; have HP := Lib.hid hp; have HKB := Lib.hid hk; have HCC := Lib.hid hC
    clear hrow hr hp hk hC hg
    generalize hn : l.length = n at *
    have HN := Lib.hid hn
    clear hn
    go_enter Tryz.func166, Tryz.ntmps166
    go_wp2_with fail
    go_loopw [5, 8] (fun _ i wr => ∃ k : Nat, k ≤ n ∧ i = .int .i64 k ∧ Below w.heap.size w wr ∧ Hid (∀ y ∈ l.take k, p y = false)) (fun _ i _ => n - (intOf i).toNat)
    case atStart => exact ⟨0, Nat.zero_le _, rfl, Below.refl _ _, Lib.hid fun y h => by simp at h⟩
    case round =>
      obtain ⟨k, hkn, rfl, BW, A⟩ := hrel
      have BB := Lib.hid BW
      by_cases hlt : k < n
      · have hltz : (k : Int) < (n : Int) := by omega
        have hlt' : k < l.length := by rw [HN.out]; exact hlt
        obtain ⟨x, hx⟩ : ∃ x, l[k]? = some x := ⟨l[k], List.getElem?_eq_getElem hlt'⟩
        have hrow' := HR.out.kept (w' := wr) (fun j _ hj => BW.block j hj)
        obtain ⟨c0, c1, c2⟩ := cells_pull hrow' k x hx hlt
        have hcall := HP.out wr x (HKB.out w wr HCC.out (Heap.Touch.ofBelow BW))
        have X := Lib.hid hx
        clear hrow' hx BW
        cases hq : p x with
        | true =>
          rw [hq] at hcall
          have hrk : r = (k : Int) := by
            rcases HQ.out with ⟨_, h⟩ | ⟨k', x', rfl, h1, h2, h3⟩
            · have := h x (List.mem_of_getElem? X.out)
              rw [hq] at this; cases this
            · have e : k' = k := by
                rcases Nat.lt_trichotomy k' k with hlt2 | hlt2 | hlt2
                · have := A.out x' (List.mem_of_getElem? (i := k') (by rw [List.getElem?_take, if_pos hlt2]; exact h1))
                  rw [h2] at this; cases this
                · exact hlt2
                · have := h3 x (List.mem_of_getElem? (i := k) (by rw [List.getElem?_take, if_pos hlt2]; exact X.out))
                  rw [hq] at this; cases this
              rw [e]
          subst hrk
          go_wp2_with (go_at_fn g; refine hcall.mono ?_; rintro e w' ⟨rfl, hb'⟩)
          go_ret
          exact ⟨rfl, BB.out.trans (hb'.mono BB.out.size)⟩
        | false =>
          rw [hq] at hcall
          go_wp2_with (go_at_fn g; refine hcall.mono ?_; rintro e w' ⟨rfl, hb'⟩)
          refine ⟨⟨k + 1, by omega, by go_num, BB.out.trans (hb'.mono BB.out.size), Lib.hid fun y hy => ?_⟩, by simp [intOf]; omega⟩
          obtain ⟨j, hj, rfl⟩ := List.mem_iff_getElem.1 hy
          rw [List.length_take] at hj
          rw [List.getElem_take]
          by_cases e : j = k
          · subst e
            have := X.out
            rw [List.getElem?_eq_getElem hlt'] at this
            simp at this
            rw [this]; exact hq
          · exact A.out _ (List.mem_of_getElem? (i := j) (by rw [List.getElem?_take, if_pos (by omega)]; exact List.getElem?_eq_getElem (by omega)))
      · have hltz : ¬ (k : Int) < (n : Int) := by omega
        obtain rfl : k = n := by omega
        have hrk : r = -1 := by
          rcases HQ.out with ⟨h, _⟩ | ⟨k', x', rfl, h1, h2, h3⟩
          · exact h
          · have h4 := (List.getElem?_eq_some_iff.1 h1).1
            have := A.out x' (List.mem_of_getElem? (i := k') (by rw [List.getElem?_take, if_pos (by rw [← HN.out]; exact h4)]; exact h1))
            rw [h2] at this; cases this
        subst hrk
        go_wp2
        go_ret
        exact ⟨rfl, BB.out⟩

end Go.Proofs.YthhgfdeegnimjaaGreatDoor.Hnd

namespace Go.Proofs.YthhgfdeegnimjaaGreatDoor.Con
open Go.RowKit Heap
open Subj (Tok TakerP ML Ints IntsAt)

/-- The least time when one comes again; -1: none waits. -/
def dueL (l : List Pd) : Int := l.foldl (fun out p => if out < 0 ∨ p.due < out then p.due else out) (-1)

theorem dueL_snoc (l : List Pd) (p : Pd) : dueL (l ++ [p]) = if dueL l < 0 ∨ p.due < dueL l then p.due else dueL l := by
  unfold dueL
  rw [List.foldl_append]
  rfl

theorem dueL_take {l : List Pd} {k : Nat} {p : Pd} (h : l[k]? = some p) : dueL (l.take (k + 1)) = if dueL (l.take k) < 0 ∨ p.due < dueL (l.take k) then p.due else dueL (l.take k) := by
  obtain ⟨hk, e⟩ := List.getElem?_eq_some_iff.1 h
  rw [List.take_succ_eq_append_getElem hk, e, dueL_snoc]

section
variable {W w : World} {K k : Nat} {t : TakerP} {vb v : Value} {c : Cn}

set_option maxHeartbeats 4000000 in
set_option maxRecDepth 100000 in
theorem due_c (h : CAt 134 151 W K t vb v c w) (hln : c.l.length ≤ 100000) : Calls Tryz.prog 20 #[.pointer (some ⟨K, 0, none⟩)] w fun e w' => e = .returned (.int .i64 (dueL c.l)) ∧ Below w.heap.size w w' := by
  obtain ⟨_, _, _, _, _, _, _, _, _, _, _, _, c12, cf⟩ := h.cells
  have hlt := heap_lt h.cell
  obtain ⟨a0, cp, rfl⟩ := h.row.slice
  obtain ⟨n, hn⟩ : ∃ n, c.l.length = n := ⟨_, rfl⟩
  have HR := Lib.hid h.row
  rw [hn] at HR c12
  have HN := Lib.hid hn
  have hnz : (n : Int) ≤ 100000 := by omega
  clear h hn hln
  go_enter Tryz.func20, Tryz.ntmps20
  go_wp2_with fail
  go_loopw [3, 11] (fun s3 i wr => ∃ k : Nat, k ≤ n ∧ i = .int .i64 k ∧ s3 = .int .i64 (dueL (c.l.take k)) ∧ Hid (Below w.heap.size w wr)) (fun _ i _ => n - (intOf i).toNat)
  case atStart => exact ⟨0, Nat.zero_le _, rfl, rfl, Lib.hid (Below.refl _ _)⟩
  case round =>
    obtain ⟨k, hk, rfl, rfl, HB⟩ := hrel
    by_cases hlt2 : k < n
    · have hltz : (k : Int) < n := by omega
      obtain ⟨p, hp⟩ : ∃ p, c.l[k]? = some p := ⟨c.l[k]'(by rw [HN.out]; exact hlt2), by simp⟩
      rcases HR.out.2 with ⟨e, _⟩ | ⟨g, off, cap, cur, e, _⟩
      · simp at e; omega
      · obtain ⟨rfl, rfl⟩ : a0 = some ⟨g, off, none⟩ ∧ cp = cap := by simp at e; exact e
        clear e
        have hrw : Row wr 151 3 (.slice (some ⟨g, off, none⟩) n cp) n (pdsV c.l) := HR.out.kept fun k _ hk => HB.out.block k hk
        obtain ⟨d0, d1, d2, _, _⟩ := cells_pd hrw k p hp hlt2
        have HD := Lib.hid (dueL_take hp)
        have hcap := hrw.cap_le.1
        obtain ⟨dz, hdz⟩ : ∃ dz, dueL (c.l.take k) = dz := ⟨_, rfl⟩
        rw [hdz] at HD
        rw [hdz]
        obtain ⟨w2, hw2⟩ : ∃ w2, w2 = wr.alloc (.cells #[.int .i64 p.seq, .int .i64 p.nth, .int .i64 p.due] 151) := ⟨_, rfl⟩
        have hb2 : Below wr.heap.size wr w2 := by rw [hw2]; exact (Below.refl _ _).alloc (Nat.le_refl _) _
        have he2 : w2.heap[wr.heap.size]? = some (.cells #[.int .i64 p.seq, .int .i64 p.nth, .int .i64 p.due] 151 (0, 0)) := by rw [hw2]; exact heap_alloc_new wr _
        have z2 : w2.cell? ⟨wr.heap.size, 2, none⟩ = some (.int .i64 p.due) := by rw [cell_of_row w2 _ _ _ _ _ he2]; rfl
        have HB2 := Lib.hid (HB.out.trans (hb2.mono HB.out.size))
        clear hrw hb2 he2 hp hdz
        go_upto_region 5 with fail
        rw [← hw2]
        clear hw2 d0 d1 d2
        by_cases h1 : dz < 0
        · rw [if_pos (.inl h1)] at HD
          go_wp2_with fail
          exact ⟨⟨k + 1, by omega, by go_num, by rw [HD.out], HB2⟩, by simp [intOf]; omega⟩
        · by_cases h2 : p.due < dz
          · rw [if_pos (.inr h2)] at HD
            go_wp2_with fail
            exact ⟨⟨k + 1, by omega, by go_num, by rw [HD.out], HB2⟩, by simp [intOf]; omega⟩
          · rw [if_neg (by omega)] at HD
            go_wp2_with fail
            exact ⟨⟨k + 1, by omega, by go_num, by rw [HD.out], HB2⟩, by simp [intOf]; omega⟩
    · have hltz : ¬ (k : Int) < n := by omega
      obtain rfl : k = n := by omega
      go_wp2_with fail
      go_ret
      have e : c.l.take k = c.l := List.take_of_length_le (by rw [HN.out]; exact Nat.le_refl _)
      exact ⟨by first | rfl | (rw [e]; rfl), HB.out⟩

theorem idxI_neg (l : List Pd) (q : Int) : decide (idxI l q < 0) = (idxP l q).isNone := by
  unfold idxI
  cases idxP l q with
  | none => rfl
  | some i => simp

set_option maxHeartbeats 4000000 in
set_option maxRecDepth 100000 in
theorem done_c (h : CAt 134 151 W K t vb v c w) (hk : Ok k c) (hfew : c.l.length ≤ 100000) (q : Int) (hq : -9223372036854775808 ≤ q ∧ q ≤ 9223372036854775807) :
    Calls Tryz.prog 18 #[.pointer (some ⟨K, 0, none⟩), .int .i64 q] w fun e w' => e = .returned (.bool (doneP c q)) ∧ Below w.heap.size w w' := by
  obtain ⟨_, _, _, _, _, _, _, _, _, _, c10, _, _, cf⟩ := h.cells
  have hlt := heap_lt h.cell
  have HF := Lib.hid (find_c h hk hfew q hq)
  have hd : doneP c q = (decide (q < c.place) && decide (idxI c.l q < 0)) := by unfold doneP; rw [idxI_neg]
  rw [hd]
  obtain ⟨ix, hix⟩ : ∃ ix, idxI c.l q = ix := ⟨_, rfl⟩
  rw [hix] at HF
  rw [hix]
  clear h hk hfew hd hix
  by_cases hp : q < c.place
  · go_enter Tryz.func18, Tryz.ntmps18
    go_wp2_with fail
    refine HF.out.mono ?_
    rintro e w2 ⟨rfl, hb⟩
    have HB := Lib.hid hb
    clear hb
    by_cases h2 : ix < 0
    · go_wp2_with fail
      go_ret
      exact ⟨by simp [hp, h2], HB.out⟩
    · go_wp2_with fail
      go_ret
      exact ⟨by simp [hp], HB.out⟩
  · clear HF
    go_enter Tryz.func18, Tryz.ntmps18
    go_wp2_with fail
    go_ret
    exact ⟨by simp; omega, Below.refl _ _⟩

theorem dueP_eq (c : Cn) : dueP c = dueL c.l := rfl
end
end Go.Proofs.YthhgfdeegnimjaaGreatDoor.Con

namespace Go.Proofs.YthhgfdeegnimjaaGreatDoor.Hnd
open Go.RowKit Heap Con
open Subj (Tok TakerP ML)

theorem tells_seq (n : Int) (X : Nat) : Tells 167 #[.pointer (some ⟨X, 0, none⟩)] (fun p => p.seq == n) (fun w => w.cell? ⟨X, 0, none⟩ = some (.int .i64 n)) := by
  intro W x hC
  show Calls Tryz.prog _ #[.agg #[.int .i64 x.seq, .int .i64 x.nth, .int .i64 x.due], .pointer (some ⟨X, 0, none⟩)] W _
  have hX := World.block_lt_of_cell? W _ hC
  go_enter Tryz.func167, Tryz.ntmps167
  go_wp2
  go_ret
  exact ⟨rfl, (Below.refl _ _).alloc (Nat.le_refl _) _⟩

section
variable {W w : World} {K k : Nat} {t : TakerP} {vb v : Value} {c : Cn}

set_option maxHeartbeats 1000000 in
set_option maxRecDepth 100000 in
theorem waits_h (h : CAt 144 154 W K t vb v c w) (hfew : c.l.length ≤ 1000) (n : Int) :
    Calls Tryz.prog 75 #[.pointer (some ⟨K, 0, none⟩), .int .i64 n] w fun e w' => e = .returned (.int .i64 (idxI c.l n)) ∧ Below w.heap.size w w' := by
  obtain ⟨w1, hw1⟩ : ∃ w1, w1 = w.alloc (.cells #[.int .i64 n] 3) := ⟨_, rfl⟩
  have hb1 : Below w.heap.size w w1 := by rw [hw1]; exact (Below.refl _ _).alloc (Nat.le_refl _) _
  have hc : w1.cell? ⟨w.heap.size, 0, none⟩ = some (.int .i64 n) := by rw [hw1, World.cell?_alloc_at _ _ _ _ rfl]; rfl
  have h1 := h.next hb1
  obtain ⟨_, _, _, _, _, _, _, _, _, _, _, _, c12, cf⟩ := h1.cells
  have hlt := heap_lt h1.cell
  have hidx := index_any 167 #[.pointer (some ⟨w.heap.size, 0, none⟩)] (fun p => p.seq == n) (fun w => w.cell? ⟨_, 0, none⟩ = some (.int .i64 n)) (fun _ _ => rfl) v c.l w1 h1.row (by omega) hc
    (fun Wa Wb hCa ht => (ht.cell (World.block_lt_of_cell? Wa _ hCa) (fun ho => by have h4 : w.heap.size < w.heap.size := h.row.lt _ ho; omega)).trans hCa) (tells_seq n _) (idxI c.l n) (by
      unfold idxI idxP
      cases hi : c.l.findIdx? (fun p => p.seq == n) with
      | none => exact .inl ⟨rfl, fun x hx => by rw [List.findIdx?_eq_none_iff] at hi; exact hi x hx⟩
      | some i =>
        obtain ⟨p, h2, h3, h4⟩ := find_eq _ hi
        refine .inr ⟨i, p, rfl, h2, h3, fun y hy => ?_⟩
        obtain ⟨j, hj, e⟩ := List.mem_take_iff_getElem.1 hy
        exact h4 j y (by omega) (by rw [List.getElem?_eq_getElem (by omega), e]))
  have HI := Lib.hid hidx; have HB := Lib.hid hb1
  clear h hc h1 hidx hb1 hfew
  go_enter Tryz.func75, Tryz.ntmps75
  go_upto_region 1 with fail
  rw [← hw1]
  clear hw1
  go_wp2_with fail
  refine HI.out.mono ?_
  rintro e w' ⟨rfl, hb⟩
  have HF := Lib.hid (HB.out.trans (hb.mono HB.out.size))
  clear hb
  go_wp2
  go_ret
  exact ⟨rfl, HF.out⟩

set_option maxHeartbeats 4000000 in
set_option maxRecDepth 100000 in
theorem done_h (h : CAt 144 154 W K t vb v c w) (hfew : c.l.length ≤ 1000) (q : Int) :
    Calls Tryz.prog 19 #[.pointer (some ⟨K, 0, none⟩), .int .i64 q] w fun e w' => e = .returned (.bool (doneP c q)) ∧ Below w.heap.size w w' := by
  obtain ⟨_, _, _, _, _, _, _, _, _, _, c10, _, _, cf⟩ := h.cells
  have hlt := heap_lt h.cell
  have HF := Lib.hid (waits_h h hfew q)
  have hd : doneP c q = (decide (q < c.place) && decide (idxI c.l q < 0)) := by unfold doneP; rw [idxI_neg]
  rw [hd]
  obtain ⟨ix, hix⟩ : ∃ ix, idxI c.l q = ix := ⟨_, rfl⟩
  rw [hix] at HF
  rw [hix]
  clear h hfew hd hix
  by_cases hp : q < c.place
  · go_enter Tryz.func19, Tryz.ntmps19
    go_wp2_with fail
    refine HF.out.mono ?_
    rintro e w2 ⟨rfl, hb⟩
    have HB := Lib.hid hb
    clear hb
    by_cases h2 : ix < 0
    · go_wp2_with fail
      go_ret
      exact ⟨by simp [hp, h2], HB.out⟩
    · go_wp2_with fail
      go_ret
      exact ⟨by simp [hp], HB.out⟩
  · clear HF
    go_enter Tryz.func19, Tryz.ntmps19
    go_wp2_with fail
    go_ret
    exact ⟨by simp; omega, Below.refl _ _⟩

theorem dueL_neg {l : List Pd} (h : ∀ p ∈ l, 0 ≤ p.due) : dueL l = -1 ∨ 0 ≤ dueL l := by
  unfold dueL
  have : ∀ (l : List Pd) (o : Int), (∀ p ∈ l, 0 ≤ p.due) → (o = -1 ∨ 0 ≤ o) → (l.foldl (fun out p => if out < 0 ∨ p.due < out then p.due else out) o = -1 ∨ 0 ≤ l.foldl (fun out p => if out < 0 ∨ p.due < out then p.due else out) o) := by
    intro l
    induction l with
    | nil => intro o _ h; exact h
    | cons a l ih =>
      intro o hp h
      rw [List.foldl_cons]
      refine ih _ (fun p hp2 => hp p (by simp [hp2])) ?_
      have := hp a (by simp)
      split <;> omega
  exact this l _ h (.inl rfl)

set_option maxHeartbeats 4000000 in
set_option maxRecDepth 100000 in
theorem due_h (h : CAt 144 154 W K t vb v c w) (hln : c.l.length ≤ 100000) (hd : ∀ p ∈ c.l, 0 ≤ p.due) : Calls Tryz.prog 21 #[.pointer (some ⟨K, 0, none⟩)] w fun e w' => e = .returned (.int .i64 (dueP c)) ∧ w = w' := by
  rw [dueP_eq]
  obtain ⟨_, _, _, _, _, _, _, _, _, _, _, _, c12, cf⟩ := h.cells
  have hlt := heap_lt h.cell
  obtain ⟨a0, cp, rfl⟩ := h.row.slice
  obtain ⟨n, hn⟩ : ∃ n, c.l.length = n := ⟨_, rfl⟩
  have HR := Lib.hid h.row
  rw [hn] at HR c12
  have HN := Lib.hid hn; have HD0 := Lib.hid hd
  have hnz : (n : Int) ≤ 100000 := by omega
  clear h hn hln hd
  go_enter Tryz.func21, Tryz.ntmps21
  go_wp2_with fail
  go_loopw [3, 4] (fun s3 i wr => ∃ k : Nat, k ≤ n ∧ i = .int .i64 k ∧ s3 = .int .i64 (dueL (c.l.take k)) ∧ w = wr) (fun _ i _ => n - (intOf i).toNat)
  case atStart => exact ⟨0, Nat.zero_le _, rfl, rfl, rfl⟩
  case round =>
    obtain ⟨k, hk, rfl, rfl, rfl⟩ := hrel
    by_cases hlt2 : k < n
    · have hltz : (k : Int) < n := by omega
      obtain ⟨p, hp⟩ : ∃ p, c.l[k]? = some p := ⟨c.l[k]'(by rw [HN.out]; exact hlt2), by simp⟩
      rcases HR.out.2 with ⟨e, _⟩ | ⟨g, off, cap, cur, e, _⟩
      · simp at e; omega
      · obtain ⟨rfl, rfl⟩ : a0 = some ⟨g, off, none⟩ ∧ cp = cap := by simp at e; exact e
        clear e
        obtain ⟨d0, d1, d2, _, _⟩ := cells_pd HR.out k p hp hlt2
        have HD := Lib.hid (dueL_take hp)
        have hcap := HR.out.cap_le.1
        have hdn := dueL_neg (l := c.l.take k) (fun p hp => HD0.out p (List.mem_of_mem_take hp))
        obtain ⟨dz, hdz⟩ : ∃ dz, dueL (c.l.take k) = dz := ⟨_, rfl⟩
        rw [hdz] at HD hdn
        rw [hdz]
        have HDN := Lib.hid hdn
        clear hp hdz hdn
        by_cases h1 : dz = -1
        · rw [if_pos (.inl (by omega))] at HD
          subst h1
          go_wp2_with fail
          exact ⟨⟨k + 1, by omega, by go_num, by rw [HD.out], trivial⟩, by simp [intOf]; omega⟩
        · have h0 : 0 ≤ dz := HDN.out.resolve_left h1
          have h1b : (dz == -1) = false := by simpa using h1
          by_cases h2 : p.due < dz
          · rw [if_pos (.inr h2)] at HD
            go_wp2_with fail
            exact ⟨⟨k + 1, by omega, by go_num, by rw [HD.out], trivial⟩, by simp [intOf]; omega⟩
          · rw [if_neg (by omega)] at HD
            go_wp2_with fail
            exact ⟨⟨k + 1, by omega, by go_num, by rw [HD.out], trivial⟩, by simp [intOf]; omega⟩
    · have hltz : ¬ (k : Int) < n := by omega
      obtain rfl : k = n := by omega
      go_wp2_with fail
      go_ret
      have e : c.l.take k = c.l := List.take_of_length_le (by rw [HN.out]; exact Nat.le_refl _)
      exact ⟨by first | rfl | (rw [e]; rfl), rfl⟩
end
end Go.Proofs.YthhgfdeegnimjaaGreatDoor.Hnd

namespace Go.Proofs.YthhgfdeegnimjaaGreatDoor.Sto
open Go.RowKit Heap
open Subj (Tok ML pieces takes)
open Rec (Rc recErr far)
open Idx (Ents ptrV)

def pk (f : List UInt8) (q : Int) (x : Rc) : Bool := decide (q ≤ x.seq) && tk f x

theorem pick_step {L : List Rc} {k : Nat} {p : Rc} (hp : L[k]? = some p) (lst : Bool) (P : Rc → Bool) :
    (order lst (L.take (k + 1))).find? P = if (P p && (lst || ((order lst (L.take k)).find? P).isNone)) = true then some p else (order lst (L.take k)).find? P := by
  rw [take_snoc hp]
  cases lst with
  | true =>
    unfold order
    simp only [if_true, List.reverse_append, List.reverse_singleton, List.singleton_append, Bool.true_or, Bool.and_true]
    rw [List.find?_cons]
    cases P p <;> simp
  | false =>
    unfold order
    simp only [Bool.false_eq_true, if_false, Bool.false_or]
    rw [List.find?_append]
    cases h1 : (L.take k).find? P with
    | some x => simp
    | none =>
      rw [List.find?_cons]
      cases P p <;> simp

section
variable {W w : World} {C : Nat} {L : List Rc} {last : Int} {v : Value} {I : Ents}

set_option maxHeartbeats 8000000 in
set_option maxRecDepth 100000 in
theorem seek_ch (h : ChAt W C v L last w) (hR : Right L last I) (f : ByteArray) (hf : f.size ≤ 1048576) (q : Int) (lst : Bool) :
    Calls Tryz.prog 64 #[.pointer (some ⟨C, 0, none⟩), .string f, .int .i64 q, .bool lst] w fun e w' => e = .returned (.tuple #[recV (seekR (Subj.err true f.data.toList) ((order lst L).find? (pk f.data.toList q))).1, .int .i64 ((seekR (Subj.err true f.data.toList) ((order lst L).find? (pk f.data.toList q))).2 : Nat)]) ∧ Below w.heap.size w w' := by
  obtain ⟨n, hn⟩ : ∃ n, L.length = n := ⟨_, rfl⟩
  have hn200 : n ≤ 200 := by rw [← hn]; exact hR.few
  obtain ⟨va, vc, hv⟩ := h.row.slice
  rw [hn] at hv
  subst hv
  obtain ⟨w1, hw1⟩ : ∃ w1, w1 = w.alloc (.cells #[.int .i64 0, .int .i64 0, .int .i64 0, .string ⟨#[]⟩, .string ⟨#[]⟩, .string ⟨#[]⟩] 33) := ⟨_, rfl⟩
  have hb1 : Below w.heap.size w w1 := by rw [hw1]; exact (Below.refl _ _).alloc (Nat.le_refl _) _
  have hea : w1.heap[w.heap.size]? = some (.cells #[.int .i64 0, .int .i64 0, .int .i64 0, .string ⟨#[]⟩, .string ⟨#[]⟩, .string ⟨#[]⟩] 33 (0, 0)) := by rw [hw1]; exact heap_alloc_new w _
  obtain ⟨rb, hrb⟩ : ∃ rb, w.heap.size = rb := ⟨_, rfl⟩
  rw [hrb] at hea
  have HSU := Lib.hid (Subj.refFilter_any f w1 hf)
  have HTK := Lib.hid (fun x w1 hx => Subj.takesS_ref f x w1 hf hx)
  obtain ⟨P, hP⟩ : ∃ P, pk f.data.toList q = P := ⟨_, rfl⟩
  obtain ⟨er, her⟩ : ∃ er, Subj.err true f.data.toList = er := ⟨_, rfl⟩
  rw [hP, her]
  rw [her] at HSU
  have hrbl := heap_lt hea
  have HC := Lib.hid h; have HB1 := Lib.hid hb1; have HEA := Lib.hid hea; have HRB := Lib.hid hrb; have HN := Lib.hid hn; have HR := Lib.hid hR; have HP := Lib.hid hP
  clear h hb1 hea hrb hn hR hP her
  by_cases he : er = 0
  · subst he
    obtain ⟨RR, hRR⟩ : ∃ RR, seekR 0 ((order lst L).find? P) = RR := ⟨_, rfl⟩
    rw [hRR]
    obtain ⟨r, e2⟩ := RR
    obtain ⟨rs, rh, rd, hpr⟩ := parts r
    have hrv : recV r = .agg #[.int .i64 r.kind, .int .i64 r.seq, .int .i64 r.time, .string rs, .string rh, .string rd] := by unfold recV; rw [hpr.s1, hpr.h1, hpr.d1]
    have hrc : recC r = [.int .i64 r.kind, .int .i64 r.seq, .int .i64 r.time, .string rs, .string rh, .string rd] := by unfold recC; rw [hpr.s1, hpr.h1, hpr.d1]
    simp only [hrv]
    obtain ⟨kd, hkd⟩ : ∃ kd, r.kind = kd := ⟨_, rfl⟩
    obtain ⟨sq, hsq⟩ : ∃ sq, r.seq = sq := ⟨_, rfl⟩
    obtain ⟨tm, htm⟩ : ∃ tm, r.time = tm := ⟨_, rfl⟩
    rw [hkd, hsq, htm] at hrc ⊢
    have HRR := Lib.hid hRR; have HRCr := Lib.hid hrc
    clear hRR hrc hrv hpr hkd hsq htm
    go_enter Tryz.func64, Tryz.ntmps64
    go_upto_region 1 with fail
    rw [← hw1, HRB.out]
    clear hw1
    go_wp2_with fail
    refine HSU.out.mono ?_
    rintro e w2 ⟨rfl, hb2⟩
    obtain ⟨w3, hw3⟩ : ∃ w3, w3 = w2.alloc (.cells #[.int .i64 0, .int .i64 0, .int .i64 0, .string ⟨#[]⟩, .string ⟨#[]⟩, .string ⟨#[]⟩] 33) := ⟨_, rfl⟩
    have hb3 : Below w2.heap.size w2 w3 := by rw [hw3]; exact (Below.refl _ _).alloc (Nat.le_refl _) _
    have heo : w3.heap[w2.heap.size]? = some (.cells #[.int .i64 0, .int .i64 0, .int .i64 0, .string ⟨#[]⟩, .string ⟨#[]⟩, .string ⟨#[]⟩] 33 (0, 0)) := by rw [hw3]; exact heap_alloc_new w2 _
    have hea2 := (hb2.block rb hrbl).trans HEA.out
    have hrbl2 := heap_lt hea2
    have HEA3 := Lib.hid ((hb3.block rb hrbl2).trans hea2)
    have HB2 := HB1.out.trans (hb2.mono HB1.out.size)
    have HB3 := Lib.hid (HB2.trans (hb3.mono HB2.size))
    obtain ⟨ob, hob⟩ : ∃ ob, w2.heap.size = ob := ⟨_, rfl⟩
    rw [hob] at heo
    have hro : rb < ob := by omega
    have HEO := Lib.hid (show w3.heap[ob]? = some (.cells (recC (seekR 0 ((order lst (L.take 0)).find? P)).1).toArray 33 (0, 0)) from by
      have : (order lst (L.take 0)).find? P = none := by unfold order; cases lst <;> rfl
      rw [this]; exact heo)
    have he0 : ((seekR 0 ((order lst (L.take 0)).find? P)).2 : Int) = 4 := by
      have : (order lst (L.take 0)).find? P = none := by unfold order; cases lst <;> rfl
      rw [this]; rfl
    have HE0 := Lib.hid he0
    have HOB := Lib.hid hob
    clear hb2 hb3 heo hea2 hrbl2 HB2 hob HEA hrbl he0
    go_upto_region 5 with fail
    rw [← hw3, HOB.out]
    clear hw3
    go_wp2_with fail
    go_loopw [12, 13] (fun ev i wr => ∃ k : Nat, k ≤ n ∧ i = .int .i64 k ∧ ev = .int .i64 ((seekR 0 ((order lst (L.take k)).find? P)).2 : Nat) ∧ Hid (Below w.heap.size w wr) ∧ Hid (wr.heap[rb]? = some (.cells #[.int .i64 0, .int .i64 0, .int .i64 0, .string ⟨#[]⟩, .string ⟨#[]⟩, .string ⟨#[]⟩] 33 (0, 0))) ∧
      Hid (wr.heap[ob]? = some (.cells (recC (seekR 0 ((order lst (L.take k)).find? P)).1).toArray 33 (0, 0)))) (fun _ i _ => n - (intOf i).toNat)
    case atStart => exact ⟨0, Nat.zero_le _, rfl, by rw [HE0.out], HB3, HEA3, HEO⟩
    case round =>
      obtain ⟨k, hk, rfl, rfl, HB, HRb, HOb⟩ := hrel
      clear HB3 HEA3 HEO
      have HCr := Lib.hid (HC.out.next HB.out)
      obtain ⟨c0, c1, cf⟩ := twoC HCr.out.cell
      have hlt := heap_lt HCr.out.cell
      obtain ⟨O, hOO⟩ : ∃ O, (order lst (L.take k)).find? P = O := ⟨_, rfl⟩
      rw [hOO] at HOb ⊢
      have HOO := Lib.hid hOO
      clear hOO
      by_cases hlt2 : k < n
      · have hltz : (k : Int) < n := by omega
        obtain ⟨p, hp⟩ : ∃ p, L[k]? = some p := ⟨_, List.getElem?_eq_getElem (by rw [HN.out]; exact hlt2)⟩
        have hrow := HCr.out.row
        rw [HN.out] at hrow
        rcases hrow.2 with ⟨_, h0⟩ | ⟨g, off, cap, cur, ev, hgg, _⟩
        · omega
        simp only [Value.slice.injEq, true_and] at ev
        obtain ⟨rfl, rfl⟩ := ev
        obtain ⟨m0, m1, m2, m3, m4, m5⟩ := cells_rec hrow k p hp hlt2
        obtain ⟨s, hd, d, hpp⟩ := parts p
        rw [hpp.s1] at m3
        have hgp := HR.out.good p (List.mem_of_getElem? hp)
        have htk := fun w1 => HTK.out s w1 (by rw [hpp.s3]; have := (good_parts hgp.1 hgp.2).2.1; omega)
        obtain ⟨tb, htb⟩ : ∃ tb, takes (pieces f.data.toList) (pieces p.subj) = tb := ⟨_, rfl⟩
        rw [hpp.s2, htb] at htk
        have hPp : P p = (decide (q ≤ p.seq) && tb) := by rw [← HP.out]; unfold pk tk; rw [htb]
        have hst := pick_step hp lst P
        rw [HOO.out] at hst
        obtain ⟨Bv, hBv⟩ : ∃ Bv, (P p && (lst || O.isNone)) = Bv := ⟨_, rfl⟩
        rw [hBv] at hst
        rw [hPp] at hBv
        have hrc : recC p = [.int .i64 p.kind, .int .i64 p.seq, .int .i64 p.time, .string s, .string hd, .string d] := by unfold recC; rw [hpp.s1, hpp.h1, hpp.d1]
        have HTK1 := Lib.hid htk; have HST := Lib.hid hst; have HBV := Lib.hid hBv; have HRC := Lib.hid hrc; have HPP := Lib.hid hpp; have HPK := Lib.hid hp
        clear hp hrow hgg hpp hgp htk htb hPp hst hBv hrc m0 m2 m4 m5
        go_upto_region 8 with fail
        go_cut [58] from 30 to 58 (fun s58 wx => s58 = .bool Bv ∧ Hid (Below wr.heap.size wr wx))
        case first =>
          by_cases hqp : q ≤ p.seq
          · have hbv := HBV.out
            rw [decide_eq_true hqp, Bool.true_and] at hbv
            have HBV2 := Lib.hid hbv
            clear hbv
            go_wp2_with fail
            refine (HTK1.out _).mono ?_
            rintro e wc ⟨rfl, hbc⟩
            have HBC := Lib.hid hbc
            clear hbc
            cases tb with
            | false =>
              go_wp2_with fail
              go_meet
              exact ⟨by rw [← HBV2.out]; simp, HBC⟩
            | true =>
              cases lst with
              | true =>
                go_wp2_with fail
                go_meet
                exact ⟨by rw [← HBV2.out]; simp, HBC⟩
              | false =>
                cases O with
                | none =>
                  rw [show (((seekR 0 (none : Option Rc)).2 : Nat) : Int) = 4 from rfl]
                  go_wp2_with fail
                  go_meet
                  exact ⟨by rw [← HBV2.out]; simp, HBC⟩
                | some o =>
                  rw [show (((seekR 0 (some o : Option Rc)).2 : Nat) : Int) = 0 from rfl]
                  go_wp2_with fail
                  go_meet
                  exact ⟨by rw [← HBV2.out]; simp, HBC⟩
          · have hqp2 : ¬ q ≤ p.seq := hqp
            obtain rfl : Bv = false := by rw [← HBV.out, decide_eq_false hqp]; rfl
            go_wp2_with fail
            go_meet
            exact ⟨by simp, Lib.hid (Below.refl _ _)⟩
        case rest =>
        obtain ⟨rfl, hbc⟩ := hcut
        have HBc := Lib.hid (HB.out.trans (hbc.out.mono HB.out.size))
        have HRc := Lib.hid ((hbc.out.block rb (heap_lt HRb.out)).trans HRb.out)
        have HOc := Lib.hid ((hbc.out.block ob (heap_lt HOb.out)).trans HOb.out)
        have HCc := Lib.hid (HC.out.next HBc.out)
        clear hbc c0 c1 cf hlt m1 m3 HB HRb HOb HCr HTK1 HBV
        cases Bv with
        | false =>
          have HS2 := Lib.hid (show (order lst (L.take (k + 1))).find? P = O from by rw [HST.out]; simp)
          go_wp2_with fail
          exact ⟨⟨k + 1, by omega, by go_num, by rw [HS2.out], HBc, HRc, by rw [HS2.out]; exact HOc⟩, by simp [intOf]; omega⟩
        | true =>
          have HS2 := Lib.hid (show (order lst (L.take (k + 1))).find? P = some p from by rw [HST.out]; simp)
          obtain ⟨z0, z1, z2, z3, z4, z5, hlc⟩ : ∃ z0 z1 z2 z3 z4 z5, (recC (seekR 0 O).1).toArray = #[z0, z1, z2, z3, z4, z5] := ⟨_, _, _, _, _, _, rfl⟩
          rw [hlc] at HOc
          clear hlc
          have hrow := HCc.out.row
          rw [HN.out] at hrow
          obtain ⟨m0, m1, m2, m3, m4, m5⟩ := cells_rec hrow k p HPK.out hlt2
          rw [HPP.out.s1] at m3
          rw [HPP.out.h1] at m4
          rw [HPP.out.d1] at m5
          obtain ⟨c0, c1, cf⟩ := twoC HCc.out.cell
          have hlt := heap_lt HCc.out.cell
          obtain ⟨y0, y1, y2, y3, y4, y5⟩ := sixC HOc.out
          have yf : ∀ j, wc.frozen? ⟨ob, j, none⟩ = false := fun j => frozen_of_row wc ob j _ _ HOc.out
          have hol := heap_lt HOc.out
          obtain ⟨kd, hkd⟩ : ∃ kd, p.kind = kd := ⟨_, rfl⟩
          obtain ⟨sq, hsq⟩ : ∃ sq, p.seq = sq := ⟨_, rfl⟩
          obtain ⟨tm, htm⟩ : ∃ tm, p.time = tm := ⟨_, rfl⟩
          rw [hkd] at m0
          rw [hsq] at m1
          rw [htm] at m2
          have hrc := HRC.out
          rw [hkd, hsq, htm] at hrc
          have HF := Lib.hid (show Below w.heap.size w ((((((wc.setCell ⟨ob, 0, none⟩ (.int .i64 kd)).setCell ⟨ob, 1, none⟩ (.int .i64 sq)).setCell ⟨ob, 2, none⟩ (.int .i64 tm)).setCell ⟨ob, 3, none⟩ (.string s)).setCell ⟨ob, 4, none⟩ (.string hd)).setCell ⟨ob, 5, none⟩ (.string d)) ∧
              ((((((wc.setCell ⟨ob, 0, none⟩ (.int .i64 kd)).setCell ⟨ob, 1, none⟩ (.int .i64 sq)).setCell ⟨ob, 2, none⟩ (.int .i64 tm)).setCell ⟨ob, 3, none⟩ (.string s)).setCell ⟨ob, 4, none⟩ (.string hd)).setCell ⟨ob, 5, none⟩ (.string d)).heap[rb]? = some (.cells #[.int .i64 0, .int .i64 0, .int .i64 0, .string ⟨#[]⟩, .string ⟨#[]⟩, .string ⟨#[]⟩] 33 (0, 0)) ∧
              ((((((wc.setCell ⟨ob, 0, none⟩ (.int .i64 kd)).setCell ⟨ob, 1, none⟩ (.int .i64 sq)).setCell ⟨ob, 2, none⟩ (.int .i64 tm)).setCell ⟨ob, 3, none⟩ (.string s)).setCell ⟨ob, 4, none⟩ (.string hd)).setCell ⟨ob, 5, none⟩ (.string d)).heap[ob]? = some (.cells (recC p).toArray 33 (0, 0)) from by
            have hne : rb ≠ ob := by omega
            refine ⟨below6 HBc.out (by have := HRB.out; omega) _ _ _ _ _ _, ?_, by rw [hrc]; exact set6 _ _ _ _ _ _ HOc.out⟩
            exact (heap_setCell_other _ _ _ _ hne).trans ((heap_setCell_other _ _ _ _ hne).trans ((heap_setCell_other _ _ _ _ hne).trans ((heap_setCell_other _ _ _ _ hne).trans ((heap_setCell_other _ _ _ _ hne).trans ((heap_setCell_other _ _ _ _ hne).trans HRc.out))))))
          clear hrow hkd hsq htm hrc
          go_wp2_with fail
          exact ⟨⟨k + 1, by omega, by go_num, by rw [HS2.out]; rfl, Lib.hid HF.out.1, Lib.hid HF.out.2.1, by rw [HS2.out]; exact Lib.hid HF.out.2.2⟩, by simp [intOf]; omega⟩
      · have hltz : ¬ (k : Int) < n := by omega
        obtain rfl : k = n := by omega
        have hOO := HOO.out
        rw [List.take_of_length_le (by rw [HN.out]; exact Nat.le_refl _)] at hOO
        have hRR := HRR.out
        rw [hOO] at hRR
        rw [hRR] at HOb ⊢
        simp only [HRCr.out] at HOb
        clear hOO hRR
        obtain ⟨y0, y1, y2, y3, y4, y5⟩ := sixC HOb.out
        obtain ⟨q0, q1, q2, q3, q4, q5⟩ := sixC HRb.out
        have zf : ∀ j, wr.frozen? ⟨rb, j, none⟩ = false := fun j => frozen_of_row wr rb j _ _ HRb.out
        have hrl := heap_lt HRb.out
        have hol := heap_lt HOb.out
        have HF2 := Lib.hid (below6 HB.out (Nat.le_of_eq HRB.out) (.int .i64 kd) (.int .i64 sq) (.int .i64 tm) (.string rs) (.string rh) (.string rd))
        have HR6 := Lib.hid (set6 (.int .i64 kd) (.int .i64 sq) (.int .i64 tm) (.string rs) (.string rh) (.string rd) HRb.out)
        go_wp2_with fail
        refine bodyPost_ret (v := .tuple #[.agg #[.int .i64 kd, .int .i64 sq, .int .i64 tm, .string rs, .string rh, .string rd], .int .i64 e2]) (res_rec2 8 9 Tryz.results64 _ _ rb rfl rfl HR6.out) rfl ?_
        exact ⟨rfl, HF2.out⟩
  · have herz : ¬ (er : Int) = 0 := by omega
    have hsk : ∀ o, seekR er o = (Rc.zero, er) := fun o => by unfold seekR; rw [if_pos he]
    rw [hsk]
    clear hsk
    have he0 : ((er : Int) != 0) = true := by simpa using he
    go_enter Tryz.func64, Tryz.ntmps64
    go_upto_region 1 with fail
    rw [← hw1, HRB.out]
    clear hw1
    go_wp2_with fail
    refine HSU.out.mono ?_
    rintro e w2 ⟨rfl, hb2⟩
    have hea2 := (hb2.block rb hrbl).trans HEA.out
    obtain ⟨q0, q1, q2, q3, q4, q5⟩ := sixC hea2
    have zf : ∀ j, w2.frozen? ⟨rb, j, none⟩ = false := fun j => frozen_of_row w2 rb j _ _ hea2
    have hrbl2 := heap_lt hea2
    have HF2 := Lib.hid (below6 (HB1.out.trans (hb2.mono HB1.out.size)) (Nat.le_of_eq HRB.out) (.int .i64 0) (.int .i64 0) (.int .i64 0) (.string ⟨#[]⟩) (.string ⟨#[]⟩) (.string ⟨#[]⟩))
    have HR6 := Lib.hid (set6 (.int .i64 0) (.int .i64 0) (.int .i64 0) (.string ⟨#[]⟩) (.string ⟨#[]⟩) (.string ⟨#[]⟩) hea2)
    clear hb2 hea2
    go_wp2_with fail
    refine bodyPost_ret (v := .tuple #[.agg #[.int .i64 0, .int .i64 0, .int .i64 0, .string ⟨#[]⟩, .string ⟨#[]⟩, .string ⟨#[]⟩], .int .i64 er]) (res_rec2 8 9 Tryz.results64 _ _ rb rfl rfl HR6.out) rfl ?_
    exact ⟨rfl, HF2.out⟩
end
end Go.Proofs.YthhgfdeegnimjaaGreatDoor.Sto

namespace Go.Proofs.YthhgfdeegnimjaaGreatDoor.Con
open Go.RowKit Heap
open Sto (Parts)
open Rec (Rc far)

/-- A turn. -/
structure Tn where
  kind : Int
  now : Int
  seq : Int
  sort : Int
  n : Int
  r : Rc

/-- What a turn that was read is. -/
def FitsT (t : Tn) : Prop := Sto.Fits t.r ∧ -9223372036854775808 ≤ t.seq ∧ t.seq ≤ 9223372036854775807

def tnC (t : Tn) : Array Value := #[.int .i64 t.kind, .int .i64 t.now, .int .i64 t.seq, .int .i64 t.sort, .int .i64 t.n, .int .i64 t.r.kind, .int .i64 t.r.seq, .int .i64 t.r.time, .string ⟨t.r.subj.toArray⟩, .string ⟨t.r.head.toArray⟩, .string ⟨t.r.data.toArray⟩]

/-- A slice of turns. -/
def TurnsAt (w : World) (v : Value) (l : List Tn) : Prop := ∃ ao cap, v = .slice ao l.length cap ∧ (l ≠ [] → ∃ g off, ao = some ⟨g, off, none⟩ ∧ ∀ i p, l[i]? = some p → ∀ j, j < 11 → w.cell? ⟨g, off + i * 11 + j, none⟩ = (tnC p)[j]?)

theorem TurnsAt.below {w w' : World} {v : Value} {l : List Tn} (h : TurnsAt w v l) (hb : Below w.heap.size w w') : TurnsAt w' v l := by
  obtain ⟨ao, cap, rfl, ha⟩ := h
  refine ⟨ao, cap, rfl, fun hne => ?_⟩
  obtain ⟨g, off, rfl, h2⟩ := ha hne
  refine ⟨g, off, rfl, fun i p hp j hj => ?_⟩
  have h3 := h2 i p hp j hj
  have h4 : ∃ u, (tnC p)[j]? = some u := ⟨_, Array.getElem?_eq_getElem (by show j < 11; exact hj)⟩
  obtain ⟨u, hu⟩ := h4
  rw [hu] at h3 ⊢
  exact (hb.cell (World.block_lt_of_cell? w _ h3)).trans h3

/-- The cells of one of them. -/
theorem TurnsAt.at {w : World} {ao : Option Addr} {n cap : Nat} {l : List Tn} (h : TurnsAt w (.slice ao n cap) l) {i : Nat} {t : Tn} (ht : l[i]? = some t) {s hd d : ByteArray} (hp : Parts t.r s hd d) : ∃ g off, ao = some ⟨g, off, none⟩ ∧
    w.cell? ⟨g, off + i * 11, none⟩ = some (.int .i64 t.kind) ∧ w.cell? ⟨g, off + i * 11 + 1, none⟩ = some (.int .i64 t.now) ∧ w.cell? ⟨g, off + i * 11 + 2, none⟩ = some (.int .i64 t.seq) ∧ w.cell? ⟨g, off + i * 11 + 3, none⟩ = some (.int .i64 t.sort) ∧ w.cell? ⟨g, off + i * 11 + 4, none⟩ = some (.int .i64 t.n) ∧ w.cell? ⟨g, off + i * 11 + 5, none⟩ = some (.int .i64 t.r.kind) ∧ w.cell? ⟨g, off + i * 11 + 6, none⟩ = some (.int .i64 t.r.seq) ∧ w.cell? ⟨g, off + i * 11 + 7, none⟩ = some (.int .i64 t.r.time) ∧ w.cell? ⟨g, off + i * 11 + 8, none⟩ = some (.string s) ∧ w.cell? ⟨g, off + i * 11 + 9, none⟩ = some (.string hd) ∧ w.cell? ⟨g, off + i * 11 + 10, none⟩ = some (.string d) := by
  obtain ⟨ao', cap', e, ha⟩ := h
  simp only [Value.slice.injEq] at e
  obtain ⟨rfl, _, rfl⟩ := e
  obtain ⟨g, off, rfl, h2⟩ := ha (fun e => by rw [e] at ht; simp at ht)
  have f := h2 i t ht
  refine ⟨g, off, rfl, ?_⟩
  have f8 := f 8 (by omega)
  have f9 := f 9 (by omega)
  have f10 := f 10 (by omega)
  simp only [tnC] at f8 f9 f10
  rw [hp.s1] at f8
  rw [hp.h1] at f9
  rw [hp.d1] at f10
  exact ⟨f 0 (by omega), f 1 (by omega), f 2 (by omega), f 3 (by omega), f 4 (by omega), f 5 (by omega), f 6 (by omega), f 7 (by omega), f8, f9, f10⟩

/-- What a turn leaves in plain Lean: the consumer, the store's list, its last number. -/
def turnP (t : Subj.TakerP) (s : Cn × List Rc × Int) (x : Tn) : Cn × List Rc × Int :=
  if x.kind = 0 then ((nextP t s.2.1 x.now s.1).1, s.2)
  else if x.kind = 1 then ((answerP t x.now x.seq x.sort x.n s.1).1, s.2)
  else if x.kind = 2 then (s.1, Sto.after s.2.1 s.2.2 x.r)
  else s
end Go.Proofs.YthhgfdeegnimjaaGreatDoor.Con

namespace Go.Proofs.YthhgfdeegnimjaaGreatDoor.Sto
open Go.RowKit Heap
open Subj (Tok ML pieces takes StrsAt)
open Rec (Rc recErr far)
open Idx (Ents ptrV entV)
open Shf (SortedE cells_pull)

section
variable {W w : World} {F : Nat → Prop} {D B : Nat} {L : List Rc} {last : Int}

end

section
variable {w : World}
end
end Go.Proofs.YthhgfdeegnimjaaGreatDoor.Sto

namespace Go.Proofs.YthhgfdeegnimjaaGreatDoor.Log
open Go.RowKit Heap Dsk
open Subj (ML)
open Rec (Rc recErr recA rcOf codedL ml_alloc)
open Sto (recsV RecsAt Fits parts sixC)

/-! what it computes -/
theorem getF_above {A : List FileP} {n : Int} (h : ∀ x ∈ A, x.n < n) : getF A n = none := by
  cases h2 : getF A n with
  | none => rfl
  | some p =>
    obtain ⟨e1, e2⟩ := getF_n h2
    have := h p e2
    omega

theorem insF_above : ∀ {A : List FileP} (q : FileP), (∀ x ∈ A, x.n < q.n) → insF A q = A ++ [q]
  | [], _, _ => rfl
  | a :: r, q, h => by
    have h1 := h a (by simp)
    unfold insF
    rw [if_neg (by omega), insF_above q fun x hx => h x (List.mem_cons_of_mem _ hx)]
    rfl

theorem getF_last {A : List FileP} (p : FileP) (h : ∀ x ∈ A, x.n < p.n) : getF (A ++ [p]) p.n = some p := by
  induction A with
  | nil => simp [getF]
  | cons a r ih =>
    have h1 := h a (by simp)
    simp only [List.cons_append, getF]
    rw [if_neg (by omega)]
    exact ih fun x hx => h x (List.mem_cons_of_mem _ hx)

theorem setF_last : ∀ {A : List FileP} (p q : FileP), (∀ x ∈ A, x.n < q.n) → p.n = q.n → setF (A ++ [p]) q = A ++ [q]
  | [], p, q, _, e => by simp [setF, e]
  | a :: r, p, q, h, e => by
    have h1 := h a (by simp)
    simp only [List.cons_append, setF]
    rw [if_neg (by omega), setF_last p q (fun x hx => h x (List.mem_cons_of_mem _ hx)) e]

end Go.Proofs.YthhgfdeegnimjaaGreatDoor.Log

namespace Go.Proofs.YthhgfdeegnimjaaGreatDoor.Subj
open Go.RowKit

theorem list10 {α : Type} {l : List α} (h : l.length = 10) : ∃ a b c d e f g i j k, l = [a, b, c, d, e, f, g, i, j, k] := by
  match l, h with
  | [a, b, c, d, e, f, g, i, j, k], _ => exact ⟨a, b, c, d, e, f, g, i, j, k, rfl⟩

theorem cells_ints : Tryz.prog.cellsOf 3 = 1 := by kernel_rfl
theorem cells_strs : Tryz.prog.cellsOf 9 = 1 := by kernel_rfl
theorem addr_flat {w : World} {a : Addr} {v : Value} (h : w.cell? a = some v) : a = ⟨a.block, a.off, none⟩ := by
  cases a with
  | mk b o s =>
    cases s with
    | none => rfl
    | some s =>
      unfold World.cell? at h
      simp only at h
      split at h <;> simp at h

/-- Cells side by side, one by one. -/
theorem cells_at {w : World} {base : Nat} {a : Addr} {n : Nat} {cs : List Value} (h : w.cells? base a n = some cs) : cs.length = n ∧ ∀ i, i < n → w.cell? (a.add i) = cs[i]? := by
  unfold World.cells? at h
  split at h
  · obtain ⟨h1, h2⟩ := mapM_get h
    refine ⟨by simpa using h1, fun i hi => ?_⟩
    obtain ⟨y, h3, h4⟩ := h2 i i (by simp [hi])
    rw [h3]
    exact h4
  · cases h

theorem bulk_all {H : Type} : ∀ {l : List (DataW H)}, (∀ d ∈ l, 1 ≤ Rows.uptoBulk d) → l.length ≤ Rows.uptoBulkAll l
  | [], _ => Nat.zero_le _
  | d :: l, h => by
    have h1 := h d (by simp)
    have h2 := bulk_all (l := l) fun x hx => h x (List.mem_cons_of_mem _ hx)
    simp only [Rows.uptoBulkAll, List.length_cons]; omega

theorem bulk_text {H : Type} (s : ByteArray) : Rows.uptoBulk (DataW.lit (H := H) (.string s.data.toList)) = s.size + 1 := by
  simp only [Rows.uptoBulk, Array.length_toList]; rfl

end Go.Proofs.YthhgfdeegnimjaaGreatDoor.Subj

namespace Go.Proofs.YthhgfdeegnimjaaGreatDoor.Con
open Go.RowKit Go.ChangeMaps Go.ChangeAt Subj

theorem cells_taker : Tryz.prog.cellsOf 24 = 10 := by kernel_rfl
theorem cells_sliceI : Tryz.prog.cellsOf 22 = 1 := by kernel_rfl
theorem cells_boolT : Tryz.prog.cellsOf 4 = 1 := by kernel_rfl

set_option maxRecDepth 100000 in
open Go.WideShapes Go.ChangeShapes in
theorem open_intsT {H : Type} {enc : TypeId × Value → H} {W : World} {fuel : Nat} {cs : List Value} {y : DataW H × List MemPlace}
    (h : DataW.trod enc Tryz.prog W 0 (fun _ => true) true fuel 22 cs = some y) (hk : Rows.uptoBulk y.1 ≤ 1048576) :
    ∃ ao n cap zs, cs = [.slice ao n cap] ∧ zs.length = n ∧ Ints W (.slice ao n cap) zs ∧ n ≤ 1048576 := by
  rcases rd_slice Tryz.underlying22 h with ⟨e0, ey⟩ | ⟨a, n, cap, m, e0, hlc, hcm, elems, rest, ey, hel, _, he, _⟩
  · exact ⟨none, 0, 0, [], e0, rfl, ⟨none, 0, rfl, Nat.le_refl _, fun h => absurd rfl h⟩, by omega⟩
  · rw [cells_ints] at he
    have hcell : ∀ i, i < n → ∃ z : Int, W.cell? (a.add (i * 1)) = some (.int .i64 z) ∧ ∃ d, elems[i]? = some d ∧ 1 ≤ Rows.uptoBulk d.1 := by
      intro i hi
      obtain ⟨z, hz, h2⟩ := he i hi
      rw [Option.bind_eq_some_iff] at h2
      obtain ⟨cs, h3, h4⟩ := h2
      have h7 : 1 ≤ Rows.uptoBulk z.1 := by
        cases z.1 with
        | lit l => cases l <;> simp only [Rows.uptoBulk] <;> omega
        | _ => simp only [Rows.uptoBulk] <;> omega
      obtain ⟨v, rfl, _⟩ := rd_int Tryz.underlying3 h4
      obtain ⟨_, h6⟩ := cells_at h3
      exact ⟨v, h6 0 (by omega), z, hz, h7⟩
    have hpos : ∀ d ∈ elems.map (·.1), 1 ≤ Rows.uptoBulk d := by
      intro d hd
      obtain ⟨z, hz, rfl⟩ := List.mem_map.1 hd
      obtain ⟨i, hi, rfl⟩ := List.getElem_of_mem hz
      obtain ⟨_, _, d, h3, h4⟩ := hcell i (by omega)
      rw [List.getElem?_eq_getElem hi, Option.some.injEq] at h3
      rw [h3]; exact h4
    have hn : n ≤ 1048576 := by
      have h1 := bulk_all hpos
      rw [List.length_map, hel] at h1
      rw [ey] at hk
      simp only [Rows.uptoBulk] at hk; omega
    refine ⟨some a, n, cap, (List.range n).map (fun i => if h : i < n then (hcell i h).choose else 0), e0, by simp, ⟨some a, cap, by simp, by simpa using hlc, fun hne => ?_⟩, hn⟩
    have hnp : 0 < n := by
      rcases Nat.eq_zero_or_pos n with e | e
      · exact absurd (by simp [e]) hne
      · exact e
    have ha : a = ⟨a.block, a.off, none⟩ := by
      obtain ⟨s, hs, _⟩ := hcell 0 hnp
      have h0 : a.add (0 * 1) = a := by rw [Nat.zero_mul]; rfl
      rw [h0] at hs
      exact addr_flat hs
    refine ⟨a.block, a.off, by rw [← ha], fun i hi => ?_⟩
    have hi' : i < n := by simpa using hi
    have h1 := (hcell i hi').choose_spec.1
    have h2 : ((List.range n).map (fun i => if h : i < n then (hcell i h).choose else 0)).getD i 0 = (hcell i hi').choose := by
      simp [List.getD, hi']
    rw [h2]
    generalize (hcell i hi').choose = z at h1 ⊢
    rw [ha, Nat.mul_one, Addr.add_lit] at h1
    exact h1

set_option maxRecDepth 100000 in
open Go.WideShapes Go.ChangeShapes in
theorem open_takerT {H : Type} {enc : TypeId × Value → H} {W : World} {base : Nat} {v0 : Value} {d0 : DataW H} {p0 : List MemPlace}
    (h0 : DataW.Trod enc Tryz.prog W 0 (fun _ => true) true 24 v0 d0 p0) (o0 : Value.okWide Tryz.prog W .any base 24 v0) (hk : Rows.uptoBulk d0 ≤ 1048576) :
    ∃ (name filt : ByteArray) (src start ack wait most pend : Int) (push : Bool) (ao : Option Addr) (n cap : Nat) (back : List Int), v0 = .agg #[.string name, .string filt, .int .i64 src, .int .i64 start, .int .i64 ack, .int .i64 wait, .slice ao n cap, .int .i64 most, .int .i64 pend, .bool push] ∧ name.size ≤ 1048576 ∧ filt.size ≤ 1048576 ∧ back.length = n ∧ n ≤ 1048576 ∧ Ints W (.slice ao n cap) back := by
  obtain ⟨cs, rfl, hcs⟩ := okWide_struct Tryz.underlying24 o0
  obtain ⟨fuel, hf⟩ := h0
  obtain ⟨n, hlen, xs, hd, hm⟩ := rd_struct Tryz.underlying24 hf
  obtain ⟨hl, hg⟩ := mapM_get hm
  obtain ⟨c0, c1, c2, c3, c4, c5, c6, c7, c8, c9, hc⟩ := list10 (l := cs.toList) (by rw [← cells_taker]; simpa using hcs)
  obtain rfl : cs = #[c0, c1, c2, c3, c4, c5, c6, c7, c8, c9] := by cases cs; simp_all
  obtain ⟨z0, w0, q0⟩ := hg 0 _ rfl
  obtain ⟨z1, w1, q1⟩ := hg 1 _ rfl
  obtain ⟨z2, w2, q2⟩ := hg 2 _ rfl
  obtain ⟨z3, w3, q3⟩ := hg 3 _ rfl
  obtain ⟨z4, w4, q4⟩ := hg 4 _ rfl
  obtain ⟨z5, w5, q5⟩ := hg 5 _ rfl
  obtain ⟨z6, w6, q6⟩ := hg 6 _ rfl
  obtain ⟨z7, w7, q7⟩ := hg 7 _ rfl
  obtain ⟨z8, w8, q8⟩ := hg 8 _ rfl
  obtain ⟨z9, w9, q9⟩ := hg 9 _ rfl
  clear hg hm w2 w3 w4 w5 w7 w8 w9
  simp only [cells_ints, cells_strs, cells_sliceI, cells_boolT, Value.cells] at q0 q1 q2 q3 q4 q5 q6 q7 q8 q9
  have hd : d0 = _ := hd
  have hb : ∀ z ∈ xs, Rows.uptoBulk z.1 ≤ 1048576 := by
    intro z hz
    have := bulk_part (d := z.1) (l := xs.map (·.1)) (List.mem_map.2 ⟨z, hz, rfl⟩)
    rw [hd] at hk
    simp only [Rows.uptoBulk] at hk
    omega
  have b0 := hb _ (List.mem_of_getElem? w0)
  have b1 := hb _ (List.mem_of_getElem? w1)
  have b6 := hb _ (List.mem_of_getElem? w6)
  obtain ⟨name, e0, _, f0⟩ := rd_string Tryz.underlying9 q0
  obtain ⟨filt, e1, _, f1⟩ := rd_string Tryz.underlying9 q1
  obtain ⟨src, e2, _⟩ := rd_int Tryz.underlying3 q2
  obtain ⟨start, e3, _⟩ := rd_int Tryz.underlying3 q3
  obtain ⟨ack, e4, _⟩ := rd_int Tryz.underlying3 q4
  obtain ⟨wait, e5, _⟩ := rd_int Tryz.underlying3 q5
  obtain ⟨ao, k, cap, zs, e6, f6, g6, j6⟩ := open_intsT q6 b6
  obtain ⟨most, e7, _⟩ := rd_int Tryz.underlying3 q7
  obtain ⟨pend, e8, _⟩ := rd_int Tryz.underlying3 q8
  obtain ⟨push, e9⟩ := rd_bool Tryz.underlying4 q9
  simp at e0 e1 e2 e3 e4 e5 e6 e7 e8 e9
  subst e0 e1 e2 e3 e4 e5 e6 e7 e8 e9
  rw [f0, bulk_text] at b0
  rw [f1, bulk_text] at b1
  exact ⟨name, filt, src, start, ack, wait, most, pend, push, ao, k, cap, zs, rfl, by omega, by omega, f6, j6, g6⟩

set_option maxRecDepth 100000 in
open Go.WideShapes Go.ChangeShapes in
/-- The plan as a whole. -/
theorem open_takerP {H : Type} {enc : TypeId × Value → H} {W : World} {base : Nat} {v0 : Value} {d0 : DataW H} {p0 : List MemPlace}
    (h0 : DataW.Trod enc Tryz.prog W 0 (fun _ => true) true 24 v0 d0 p0) (o0 : Value.okWide Tryz.prog W .any base 24 v0) (hk : Rows.uptoBulk d0 ≤ 1048576) :
    ∃ (t : TakerP) (vb : Value), v0 = takerV t vb ∧ t.name.length ≤ 1048576 ∧ t.filt.length ≤ 1048576 ∧ Ints W vb t.back := by
  obtain ⟨name, filt, src, start, ack, wait, most, pend, push, ao, n, cap, back, rfl, hnm, hfl, hn, hnl, hB⟩ := open_takerT h0 o0 hk
  have e1 : (⟨name.data.toList.toArray⟩ : ByteArray) = name := by cases name; rfl
  have e2 : (⟨filt.data.toList.toArray⟩ : ByteArray) = filt := by cases filt; rfl
  have l1 : name.data.toList.length = name.size := Array.length_toList
  have l2 : filt.data.toList.length = filt.size := Array.length_toList
  refine ⟨⟨name.data.toList, filt.data.toList, src, start, ack, wait, back, most, pend, push⟩, .slice ao n cap, ?_, by rw [l1]; exact hnm, by rw [l2]; exact hfl, hB⟩
  unfold takerV
  simp only [e1, e2]
end Go.Proofs.YthhgfdeegnimjaaGreatDoor.Con

namespace Go.Proofs.YthhgfdeegnimjaaGreatDoor.Con
open Go.RowKit Heap Subj

theorem types_taker : Tryz.prog.cellTypes Tryz.prog.depth 24 = some [9, 9, 3, 3, 3, 3, 22, 3, 3, 4] := by kernel_rfl

theorem shape_lt {w : World} {k : Nat} {x : TypeId × Nat} (h : w.shape? k = some x) : k < w.heap.size := by
  unfold World.shape? at h
  split at h
  · rename_i h1; exact heap_lt h1
  · cases h

set_option maxRecDepth 100000 in
theorem taker_own {W : World} {base : Nat} {t : TakerP} {vb : Value} (o0 : Value.okWide Tryz.prog W .any base 24 (takerV t vb)) : ∀ k, own vb k → k < W.heap.size := by
  unfold Value.okWide at o0
  rw [Tryz.underlying24] at o0
  obtain ⟨cs, e, _, ts, h1, _, h2⟩ := o0
  rw [types_taker] at h1
  simp only [Option.some.injEq] at h1
  subst h1
  unfold takerV at e
  simp only [Value.agg.injEq] at e
  subst e
  obtain ⟨u, hu, h3⟩ := h2 6 vb rfl
  simp at hu
  subst hu
  unfold Cell.okWide at h3
  rw [Tryz.underlying22] at h3
  intro k hk
  cases vb with
  | slice ao n cap =>
    cases ao with
    | none => simp [own, Value.ownBlock] at hk
    | some a =>
      simp only [Cell.ok, Tryz.underlying22] at h3
      obtain ⟨_, _, _, _, row, cells, h4, _⟩ := h3
      simp [own, Value.ownBlock] at hk
      subst hk
      exact shape_lt h4
  | _ => simp [own, Value.ownBlock] at hk
end Go.Proofs.YthhgfdeegnimjaaGreatDoor.Con
