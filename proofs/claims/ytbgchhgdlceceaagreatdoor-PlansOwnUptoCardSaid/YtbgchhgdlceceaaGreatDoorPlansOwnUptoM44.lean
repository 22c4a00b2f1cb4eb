/- Parts of the proof, joined: stream.New, (*Stream).Plan, (*Consumer).Taker, walked: what they hold is a copy.; (*Consumer).Taker, walked: what is told is a copy. gen_owntaker.py wrote this text out of XOwnMake.; How the numbers of a plan's text are read, step by step: in plain Lean. -/
import Derived.Test.YtbgchhgdlceceaaGreatDoorPlansOwnUptoM43
namespace Go.Proofs.YtbgchhgdlceceaaGreatDoor.Own
open Go.RowKit Heap
open Subj (Tok ML Strs StrsAt strAt strsV strsV_len strsV_get Ints IntsAt planErr planCells Small IntRet IsRet Inv check_any ten TakerP)
open Vlt (new_vlt)

/-- slices.Clone of texts. -/
theorem clone_strs {w : World} {v : Value} {l : List Tok} (h : Strs w v l) (hl : l.length ≤ 1048576) :
    Calls Tryz.prog 95 #[v] w fun e w' => ∃ v', e = .returned v' ∧ Row w' 9 1 v' l.length (strsV l) ∧ (∀ k, own v' k → w.heap.size ≤ k ∧ k < w'.heap.size) ∧ Below w.heap.size w w' := by
  obtain ⟨ao, cap, rfl, hc, hat⟩ := h
  have fin : ∀ (v' : Value) (w' : World), w'.ownsRow w.heap.size 9 1 v' l.length (strsV l) → Row w' 9 1 v' l.length (strsV l) ∧ (∀ k, own v' k → w.heap.size ≤ k ∧ k < w'.heap.size) := fun v' w' ho => by
    refine ⟨Row.of_own ho, fun k hk => ?_⟩
    rcases ho.2 with ⟨rfl, _⟩ | ⟨g, cp, cur, rfl, hg, hh, _⟩
    · simp [own, Value.ownBlock] at hk
    · simp [own, Value.ownBlock] at hk
      subst hk
      exact ⟨hg, heap_lt hh⟩
  cases ao with
  | none =>
    refine (Tryz.slices_Clone_string_nil l.length cap w).mono ?_
    rintro e w' ⟨rfl, rfl⟩
    by_cases hz : l = []
    · subst hz
      exact ⟨_, rfl, Row.nil _ _ _, fun k hk => by simp [own, Value.ownBlock] at hk, Below.refl _ _⟩
    · obtain ⟨g, off, h1, _⟩ := hat hz
      cases h1
  | some a =>
    by_cases hz : l = []
    · subst hz
      refine (Tryz.slices_Clone_string_zero a cap w).mono ?_
      rintro e w' ⟨v', rfl, h1, _, h3⟩
      obtain ⟨h5, h6⟩ := fin v' w' h1
      exact ⟨v', rfl, h5, h6, h3⟩
    · obtain ⟨g, off, h1, h2⟩ := hat hz
      simp only [Option.some.injEq] at h1
      subst h1
      refine (Tryz.slices_Clone_string g off l.length cap (l.map fun t => ⟨t.toArray⟩) w (by simp) (by omega) (fun j hj => ?_)).mono ?_
      · rw [List.length_map] at hj
        rw [h2 j hj]
        simp [strAt, List.getD, hj]
      rintro e w' ⟨v', rfl, h1, _, h3⟩
      rw [List.take_of_length_le (by simp), List.map_map, show List.map (Value.string ∘ fun t : Tok => (⟨t.toArray⟩ : ByteArray)) l = strsV l from rfl] at h1
      obtain ⟨h5, h6⟩ := fin v' w' h1
      exact ⟨v', rfl, h5, h6, h3⟩

/-- A stream in memory, as far as its plan. -/
def StrmAt (K : Nat) (name : ByteArray) (v : Value) (fs : List Tok) (xs : List Value) (w : World) : Prop :=
  (∃ pv, w.heap[K]? = some (.cells ((#[.string name, v] ++ xs.toArray) ++ #[pv, .slice none 0 0]) 180 (0, 0))) ∧ Row w 9 1 v fs.length (strsV fs) ∧ ¬ own v K

def StrmPost (w : World) (name : ByteArray) (fs : List Tok) (xs : List Value) (er : Nat) (e : Ending) (w' : World) : Prop :=
  ML w' ∧ Below w.heap.size w w' ∧ ((er ≠ 0 ∧ e = .returned (.tuple #[.pointer none, .int .i64 er])) ∨
    (er = 0 ∧ ∃ K v', e = .returned (.tuple #[.pointer (some ⟨K, 0, none⟩), .int .i64 0]) ∧ StrmAt K name v' fs xs w' ∧ w.heap.size ≤ K ∧ ∀ k, own v' k → w.heap.size ≤ k))

section
variable {w : World}

set_option maxHeartbeats 4000000 in
set_option maxRecDepth 100000 in
theorem new_strm (hm : ML w) (name : ByteArray) (v : Value) (fs : List Tok) (x0 x1 x2 x3 x4 x5 x6 x7 : Int) (hn : name.size ≤ 1048576) (hS : Strs w v fs) (hz : Small fs) (hl : fs.length ≤ 1048576) :
    Calls Tryz.prog 34 #[.agg (planCells name v x0 x1 x2 x3 x4 x5 x6 x7), .int .i64 1000, .int .i64 100] w (StrmPost w name fs [.int .i64 x0, .int .i64 x1, .int .i64 x2, .int .i64 x3, .int .i64 x4, .int .i64 x5, .int .i64 x6, .int .i64 x7] (planErr name.data.toList fs [x0, x1, x2, x3, x4, x5, x6, x7])) := by
  obtain ⟨er, her⟩ : ∃ er, planErr name.data.toList fs [x0, x1, x2, x3, x4, x5, x6, x7] = er := ⟨_, rfl⟩
  rw [her]
  obtain ⟨ao, cap, rfl, hcp, hat⟩ := id hS
  obtain ⟨w1, hw1⟩ : ∃ w1, w1 = w.alloc (.cells (planCells name (.slice ao fs.length cap) x0 x1 x2 x3 x4 x5 x6 x7) 62) := ⟨_, rfl⟩
  have hb1 : Below w.heap.size w w1 := by rw [hw1]; exact (Below.refl _ _).alloc (Nat.le_refl _) _
  have he1 : w1.heap[w.heap.size]? = some (.cells (planCells name (.slice ao fs.length cap) x0 x1 x2 x3 x4 x5 x6 x7) 62 (0, 0)) := by rw [hw1]; exact heap_alloc_new w _
  have hck := check_any name _ fs x0 x1 x2 x3 x4 x5 x6 x7 w1 (by unfold maxLen; omega) (hS.below hb1) hz (hm.below hb1)
  rw [her] at hck
  unfold planCells at *
  obtain ⟨bx, hbx⟩ : ∃ bx, w.heap.size = bx := ⟨_, rfl⟩
  rw [hbx] at he1
  have HCK := Lib.hid hck; have HS := Lib.hid hS; have HB1 := Lib.hid hb1; have HE1 := Lib.hid he1; have HBX := Lib.hid hbx; have HM := Lib.hid hm
  obtain ⟨q0, q1, q2, q3, q4, q5, q6, q7, q8, q9, qf⟩ := ten he1
  have hbl := heap_lt he1
  clear hck hS hz hm hcp hat hb1 he1 hbx her hn
  go_enter Tryz.func34, Tryz.ntmps34
  go_upto_region 1 with fail
  rw [← hw1, HBX.out]
  clear hw1
  go_wp2_with fail
  refine HCK.out.mono ?_
  rintro e w2 ⟨rfl, hI2⟩
  have he2 := (hI2.2.block bx hbl).trans HE1.out
  have HE2 := Lib.hid he2
  have HB2 := Lib.hid (HB1.out.trans (hI2.2.mono HB1.out.size)); have HM2 := Lib.hid hI2.1
  clear hI2 he2 q0 q1 q2 q3 q4 q5 q6 q7 q8 q9 qf hbl HCK
  by_cases h0 : er = 0
  · subst h0
    have HV := Lib.hid (new_vlt (Below.refl w2.heap.size w2) HM2.out 1000 100 (by omega) (by omega) ⟨by omega, by omega⟩)
    go_wp2_with fail
    refine HV.out.mono ?_
    rintro e w3 ⟨F, V, D, G, S, rfl, hv, _, hb3⟩
    have he3 := (hb3.block bx (heap_lt HE2.out)).trans HE2.out
    have HB3 := Lib.hid (HB2.out.trans (hb3.mono HB2.out.size))
    have HCL := Lib.hid (clone_strs (HS.out.below HB3.out) hl)
    have HM3 := Lib.hid (HM2.out.below hb3)
    have HE3 := Lib.hid he3
    obtain ⟨q0, q1, q2, q3, q4, q5, q6, q7, q8, q9, qf⟩ := ten he3
    have hbl := heap_lt he3
    clear hv hb3 he3 HV
    go_wp2_with fail
    refine HCL.out.mono ?_
    rintro e w4 ⟨v4, rfl, hr4, ho4, hb4⟩
    obtain ⟨a4, c4, rfl⟩ := hr4.slice
    have he4 := (hb4.block bx hbl).trans HE3.out
    obtain ⟨w5, hw5⟩ : ∃ w5, w5 = w4.setCell ⟨bx, 1, none⟩ (.slice a4 fs.length c4) := ⟨_, rfl⟩
    have he5 : w5.heap[bx]? = some (.cells #[.string name, (.slice a4 fs.length c4), .int .i64 x0, .int .i64 x1, .int .i64 x2, .int .i64 x3, .int .i64 x4, .int .i64 x5, .int .i64 x6, .int .i64 x7] 62 (0, 0)) := by rw [hw5]; exact heap_setCell_same _ _ _ _ _ _ he4
    have hb5 : Below w.heap.size w w5 := by rw [hw5]; exact (HB3.out.trans (hb4.mono HB3.out.size)).setCell (by have := HBX.out; exact Nat.le_of_eq this) _
    have hr5 : Row w5 9 1 (.slice a4 fs.length c4) fs.length (strsV fs) := hr4.kept fun k hk _ => by rw [hw5]; exact heap_setCell_other _ _ _ _ (by have := (ho4 k hk).1; show k ≠ bx; omega)
    obtain ⟨w6, hw6⟩ : ∃ w6, w6 = w5.alloc (.cells #[.string name, (.slice a4 fs.length c4), .int .i64 x0, .int .i64 x1, .int .i64 x2, .int .i64 x3, .int .i64 x4, .int .i64 x5, .int .i64 x6, .int .i64 x7, .pointer (some ⟨V, 0, none⟩), .slice none 0 0] 180) := ⟨_, rfl⟩
    have hb6 : Below w5.heap.size w5 w6 := by rw [hw6]; exact (Below.refl _ _).alloc (Nat.le_refl _) _
    have hk6 : w6.heap[w5.heap.size]? = some (.cells #[.string name, (.slice a4 fs.length c4), .int .i64 x0, .int .i64 x1, .int .i64 x2, .int .i64 x3, .int .i64 x4, .int .i64 x5, .int .i64 x6, .int .i64 x7, .pointer (some ⟨V, 0, none⟩), .slice none 0 0] 180 (0, 0)) := by rw [hw6]; exact heap_alloc_new w5 _
    have HF := Lib.hid (show StrmPost w name fs [.int .i64 x0, .int .i64 x1, .int .i64 x2, .int .i64 x3, .int .i64 x4, .int .i64 x5, .int .i64 x6, .int .i64 x7] 0 (.returned (.tuple #[.pointer (some ⟨w5.heap.size, 0, none⟩), .int .i64 0])) w6 from by
      have hbw := hb5.trans (hb6.mono hb5.size)
      refine ⟨HM.out.below hbw, hbw, .inr ⟨rfl, w5.heap.size, (.slice a4 fs.length c4), rfl, ⟨⟨_, hk6⟩, hr5.kept fun k _ hk => hb6.block k hk, fun hk => ?_⟩, hb5.size, fun k hk => ?_⟩⟩
      · have := hr5.lt _ hk; omega
      · have := (ho4 k hk).1; have := HB3.out.size; omega)
    have HE5 := Lib.hid he5
    obtain ⟨p0, p1, p2, p3, p4, p5, p6, p7, p8, p9, pf⟩ := ten he4
    have hbl4 := heap_lt he4
    clear hr4 ho4 hb4 he4 he5 hb5 hr5 hb6 hk6 q0 q1 q2 q3 q4 q5 q6 q7 q8 q9 qf hbl
    go_upto_region 8 with fail
    rw [← hw5]
    clear hw5 p0 p1 p2 p3 p4 p5 p6 p7 p8 p9 pf hbl4
    obtain ⟨q0, q1, q2, q3, q4, q5, q6, q7, q8, q9, qf⟩ := ten HE5.out
    have hbl := heap_lt HE5.out
    go_wp2_with fail
    rw [← hw6]
    go_ret2
    exact HF.out
  · have h0z : ((er : Int) == 0) = false := by simpa using h0
    have HF := Lib.hid (show StrmPost w name fs [.int .i64 x0, .int .i64 x1, .int .i64 x2, .int .i64 x3, .int .i64 x4, .int .i64 x5, .int .i64 x6, .int .i64 x7] er (.returned (.tuple #[.pointer none, .int .i64 er])) w2 from ⟨HM2.out, HB2.out, .inl ⟨h0, rfl⟩⟩)
    go_wp2_with fail
    go_ret2
    exact HF.out

theorem set10 {w : World} {bx : Nat} {t : TypeId} {b0 b1 b2 b3 b4 b5 b6 b7 b8 b9 a0 a1 a2 a3 a4 a5 a6 a7 a8 a9 : Value} (h : w.heap[bx]? = some (.cells #[b0, b1, b2, b3, b4, b5, b6, b7, b8, b9] t (0, 0))) :
    ((((((((((w.setCell ⟨bx, 0, none⟩ a0).setCell ⟨bx, 1, none⟩ a1).setCell ⟨bx, 2, none⟩ a2).setCell ⟨bx, 3, none⟩ a3).setCell ⟨bx, 4, none⟩ a4).setCell ⟨bx, 5, none⟩ a5).setCell ⟨bx, 6, none⟩ a6).setCell ⟨bx, 7, none⟩ a7).setCell ⟨bx, 8, none⟩ a8).setCell ⟨bx, 9, none⟩ a9).heap[bx]? = some (.cells #[a0, a1, a2, a3, a4, a5, a6, a7, a8, a9] t (0, 0)) := by
  have h1 : (w.setCell ⟨bx, 0, none⟩ a0).heap[bx]? = some (.cells #[a0, b1, b2, b3, b4, b5, b6, b7, b8, b9] t (0, 0)) := heap_setCell_same _ _ _ _ _ _ h
  generalize w.setCell ⟨bx, 0, none⟩ a0 = w1 at h1 ⊢
  have h2 : (w1.setCell ⟨bx, 1, none⟩ a1).heap[bx]? = some (.cells #[a0, a1, b2, b3, b4, b5, b6, b7, b8, b9] t (0, 0)) := heap_setCell_same _ _ _ _ _ _ h1
  generalize w1.setCell ⟨bx, 1, none⟩ a1 = w2 at h2 ⊢
  have h3 : (w2.setCell ⟨bx, 2, none⟩ a2).heap[bx]? = some (.cells #[a0, a1, a2, b3, b4, b5, b6, b7, b8, b9] t (0, 0)) := heap_setCell_same _ _ _ _ _ _ h2
  generalize w2.setCell ⟨bx, 2, none⟩ a2 = w3 at h3 ⊢
  have h4 : (w3.setCell ⟨bx, 3, none⟩ a3).heap[bx]? = some (.cells #[a0, a1, a2, a3, b4, b5, b6, b7, b8, b9] t (0, 0)) := heap_setCell_same _ _ _ _ _ _ h3
  generalize w3.setCell ⟨bx, 3, none⟩ a3 = w4 at h4 ⊢
  have h5 : (w4.setCell ⟨bx, 4, none⟩ a4).heap[bx]? = some (.cells #[a0, a1, a2, a3, a4, b5, b6, b7, b8, b9] t (0, 0)) := heap_setCell_same _ _ _ _ _ _ h4
  generalize w4.setCell ⟨bx, 4, none⟩ a4 = w5 at h5 ⊢
  have h6 : (w5.setCell ⟨bx, 5, none⟩ a5).heap[bx]? = some (.cells #[a0, a1, a2, a3, a4, a5, b6, b7, b8, b9] t (0, 0)) := heap_setCell_same _ _ _ _ _ _ h5
  generalize w5.setCell ⟨bx, 5, none⟩ a5 = w6 at h6 ⊢
  have h7 : (w6.setCell ⟨bx, 6, none⟩ a6).heap[bx]? = some (.cells #[a0, a1, a2, a3, a4, a5, a6, b7, b8, b9] t (0, 0)) := heap_setCell_same _ _ _ _ _ _ h6
  generalize w6.setCell ⟨bx, 6, none⟩ a6 = w7 at h7 ⊢
  have h8 : (w7.setCell ⟨bx, 7, none⟩ a7).heap[bx]? = some (.cells #[a0, a1, a2, a3, a4, a5, a6, a7, b8, b9] t (0, 0)) := heap_setCell_same _ _ _ _ _ _ h7
  generalize w7.setCell ⟨bx, 7, none⟩ a7 = w8 at h8 ⊢
  have h9 : (w8.setCell ⟨bx, 8, none⟩ a8).heap[bx]? = some (.cells #[a0, a1, a2, a3, a4, a5, a6, a7, a8, b9] t (0, 0)) := heap_setCell_same _ _ _ _ _ _ h8
  generalize w8.setCell ⟨bx, 8, none⟩ a8 = w9 at h9 ⊢
  have h10 : (w9.setCell ⟨bx, 9, none⟩ a9).heap[bx]? = some (.cells #[a0, a1, a2, a3, a4, a5, a6, a7, a8, a9] t (0, 0)) := heap_setCell_same _ _ _ _ _ _ h9
  exact h10

/-- A plan that nothing else holds. -/
def PlanPost (w : World) (name : ByteArray) (fs : List Tok) (x0 x1 x2 x3 x4 x5 x6 x7 : Int) (e : Ending) (w' : World) : Prop :=
  ∃ v', e = .returned (.agg (planCells name v' x0 x1 x2 x3 x4 x5 x6 x7)) ∧ Row w' 9 1 v' fs.length (strsV fs) ∧ (∀ k, own v' k → w.heap.size ≤ k) ∧ Below w.heap.size w w'

theorem Row.toStrs {w : World} {e : TypeId} {v : Value} {l : List Tok} (h : Row w e 1 v l.length (strsV l)) : Strs w v l := by
  rcases h.2 with ⟨rfl, h0⟩ | ⟨g, off, cap, cur, rfl, _⟩
  · exact ⟨none, 0, by rw [h0], by omega, fun hne => absurd (List.eq_nil_of_length_eq_zero h0) hne⟩
  · exact Row.strs (ys := []) rfl (Nat.le_refl _) (by rw [List.append_nil]; exact h)

theorem Row.toInts {w : World} {e : TypeId} {v : Value} {l : List Int} (h : Row w e 1 v l.length (l.map (Value.int .i64))) : Ints w v l := by
  rcases h.2 with ⟨rfl, h0⟩ | ⟨g, off, cap, cur, rfl, _⟩
  · exact ⟨none, 0, by rw [h0], by omega, fun hne => absurd (List.eq_nil_of_length_eq_zero h0) hne⟩
  · exact Row.ints (ys := []) rfl (Nat.le_refl _) (by rw [List.append_nil]; exact h)

set_option maxHeartbeats 4000000 in
set_option maxRecDepth 100000 in
theorem plan_strm {K : Nat} {v : Value} {name : ByteArray} {fs : List Tok} {x0 x1 x2 x3 x4 x5 x6 x7 : Int} (hl : fs.length ≤ 1048576)
    (h : StrmAt K name v fs [.int .i64 x0, .int .i64 x1, .int .i64 x2, .int .i64 x3, .int .i64 x4, .int .i64 x5, .int .i64 x6, .int .i64 x7] w) :
    Calls Tryz.prog 31 #[.pointer (some ⟨K, 0, none⟩)] w (PlanPost w name fs x0 x1 x2 x3 x4 x5 x6 x7) := by
  obtain ⟨⟨pv, hk⟩, hr, _⟩ := h
  obtain ⟨a0, n0, rfl⟩ := hr.slice
  have hk : w.heap[K]? = some (.cells #[.string name, .slice a0 fs.length n0, .int .i64 x0, .int .i64 x1, .int .i64 x2, .int .i64 x3, .int .i64 x4, .int .i64 x5, .int .i64 x6, .int .i64 x7, pv, .slice none 0 0] 180 (0, 0)) := hk
  obtain ⟨w1, hw1⟩ : ∃ w1, w1 = w.alloc (.cells #[.string ⟨#[]⟩, .slice none 0 0, .int .i64 0, .int .i64 0, .int .i64 0, .int .i64 0, .int .i64 0, .int .i64 0, .int .i64 0, .int .i64 0] 62) := ⟨_, rfl⟩
  have hb1 : Below w.heap.size w w1 := by rw [hw1]; exact (Below.refl _ _).alloc (Nat.le_refl _) _
  have hs1 : w1.heap.size = w.heap.size + 1 := by rw [hw1]; simp
  have he1 : w1.heap[w.heap.size]? = some (.cells #[.string ⟨#[]⟩, .slice none 0 0, .int .i64 0, .int .i64 0, .int .i64 0, .int .i64 0, .int .i64 0, .int .i64 0, .int .i64 0, .int .i64 0] 62 (0, 0)) := by rw [hw1]; exact heap_alloc_new w _
  obtain ⟨bx, hbx⟩ : ∃ bx, w.heap.size = bx := ⟨_, rfl⟩
  rw [hbx] at he1
  have hk1 := (hb1.block K (heap_lt hk)).trans hk
  obtain ⟨w2, hw2⟩ : ∃ w2, w2 = w1.alloc (.cells #[.string name, .slice a0 fs.length n0, .int .i64 x0, .int .i64 x1, .int .i64 x2, .int .i64 x3, .int .i64 x4, .int .i64 x5, .int .i64 x6, .int .i64 x7] 62) := ⟨_, rfl⟩
  have hb2 : Below w1.heap.size w1 w2 := by rw [hw2]; exact (Below.refl _ _).alloc (Nat.le_refl _) _
  have he2 : w2.heap[w1.heap.size]? = some (.cells #[.string name, .slice a0 fs.length n0, .int .i64 x0, .int .i64 x1, .int .i64 x2, .int .i64 x3, .int .i64 x4, .int .i64 x5, .int .i64 x6, .int .i64 x7] 62 (0, 0)) := by rw [hw2]; exact heap_alloc_new w1 _
  obtain ⟨by_, hby⟩ : ∃ by_, w1.heap.size = by_ := ⟨_, rfl⟩
  rw [hby] at he2
  have hbw2 := hb1.trans (hb2.mono hb1.size)
  have hz2 := heap_lt he2
  have HR := Lib.hid (show Row w2 9 1 (.slice a0 fs.length n0) fs.length (strsV fs) from hr.kept fun k _ hk => hbw2.block k hk)
  have HCL := Lib.hid (clone_strs (Row.toStrs HR.out) hl)
  have HE1 := Lib.hid ((hb2.block bx (heap_lt he1)).trans he1)
  have HE2 := Lib.hid he2; have HB2 := Lib.hid hbw2; have HBX := Lib.hid hbx; have HBY := Lib.hid hby
  have HXY := Lib.hid (show bx + 1 = by_ ∧ w.heap.size = bx ∧ by_ < w2.heap.size from ⟨by omega, hbx, hz2⟩)
  obtain ⟨q0, q1, q2, q3, q4, q5, q6, q7, q8, q9, qf⟩ : w1.cell? ⟨K, 0, none⟩ = some (.string name) ∧ w1.cell? ⟨K, 1, none⟩ = some (.slice a0 fs.length n0) ∧ w1.cell? ⟨K, 2, none⟩ = some (.int .i64 x0) ∧ w1.cell? ⟨K, 3, none⟩ = some (.int .i64 x1) ∧ w1.cell? ⟨K, 4, none⟩ = some (.int .i64 x2) ∧ w1.cell? ⟨K, 5, none⟩ = some (.int .i64 x3) ∧ w1.cell? ⟨K, 6, none⟩ = some (.int .i64 x4) ∧ w1.cell? ⟨K, 7, none⟩ = some (.int .i64 x5) ∧ w1.cell? ⟨K, 8, none⟩ = some (.int .i64 x6) ∧ w1.cell? ⟨K, 9, none⟩ = some (.int .i64 x7) ∧ ∀ j, w1.frozen? ⟨K, j, none⟩ = false := by
    refine ⟨?_, ?_, ?_, ?_, ?_, ?_, ?_, ?_, ?_, ?_, fun j => frozen_of_row w1 K j _ _ hk1⟩ <;> (rw [cell_of_row w1 K _ _ _ _ hk1]; rfl)
  have hbl := heap_lt hk1
  clear hk hr hb1 hs1 he1 hk1 hb2 he2 hbw2 hbx hby hz2 HR
  go_enter Tryz.func31, Tryz.ntmps31
  go_upto_region 1 with fail
  rw [← hw1, HBX.out]
  clear hw1
  go_upto_region 2 with fail
  rw [← hw2, HBY.out]
  clear hw2 q0 q1 q2 q3 q4 q5 q6 q7 q8 q9 qf hbl
  obtain ⟨q0, q1, q2, q3, q4, q5, q6, q7, q8, q9, qf⟩ := ten HE2.out
  have hbl := heap_lt HE2.out
  go_wp2_with fail
  refine HCL.out.mono ?_
  rintro e w3 ⟨v3, rfl, hr3, ho3, hb3⟩
  obtain ⟨a3, c3, rfl⟩ := hr3.slice
  have he3 := (hb3.block by_ hbl).trans HE2.out
  have hd3 := (hb3.block bx (heap_lt HE1.out)).trans HE1.out
  obtain ⟨w4, hw4⟩ : ∃ w4, w4 = w3.setCell ⟨by_, 1, none⟩ (.slice a3 fs.length c3) := ⟨_, rfl⟩
  have he4 : w4.heap[by_]? = some (.cells #[.string name, (.slice a3 fs.length c3), .int .i64 x0, .int .i64 x1, .int .i64 x2, .int .i64 x3, .int .i64 x4, .int .i64 x5, .int .i64 x6, .int .i64 x7] 62 (0, 0)) := by rw [hw4]; exact heap_setCell_same _ _ _ _ _ _ he3
  have hd4 : w4.heap[bx]? = some (.cells #[.string ⟨#[]⟩, .slice none 0 0, .int .i64 0, .int .i64 0, .int .i64 0, .int .i64 0, .int .i64 0, .int .i64 0, .int .i64 0, .int .i64 0] 62 (0, 0)) := by rw [hw4]; exact (heap_setCell_other _ _ _ _ (by have := HXY.out.1; show bx ≠ by_; omega)).trans hd3
  have hz := HXY.out
  have hb4 : Below w.heap.size w w4 := by rw [hw4]; exact (HB2.out.trans (hb3.mono HB2.out.size)).setCell (by show w.heap.size ≤ by_; omega) _
  have hr4 : Row w4 9 1 (.slice a3 fs.length c3) fs.length (strsV fs) := hr3.kept fun k hk _ => by rw [hw4]; exact heap_setCell_other _ _ _ _ (by have := (ho3 k hk).1; show k ≠ by_; omega)
  have HF := Lib.hid (show ∀ w5 : World, Heap.Touch (fun k => k = bx) w4 w5 → PlanPost w name fs x0 x1 x2 x3 x4 x5 x6 x7 (.returned (.agg (planCells name (.slice a3 fs.length c3) x0 x1 x2 x3 x4 x5 x6 x7))) w5 from fun w5 ht => by
    refine ⟨_, rfl, hr4.kept fun k hk hk2 => ht.block k hk2 (fun e => ?_), fun k hk => ?_, hb4.trans (ht.below hb4.size fun k hk => by omega)⟩
    · have := (ho3 k hk).1; omega
    · have := (ho3 k hk).1; have := HB2.out.size; omega)
  unfold planCells at HF
  have HE4 := Lib.hid he4; have HD4 := Lib.hid hd4
  obtain ⟨p0, p1, p2, p3, p4, p5, p6, p7, p8, p9, pf⟩ := ten he3
  have hbl3 := heap_lt he3
  clear hr3 ho3 hb3 he3 hd3 he4 hd4 hz hb4 hr4 q0 q1 q2 q3 q4 q5 q6 q7 q8 q9 qf hbl HCL HE1 HE2
  go_upto_region 3 with fail
  rw [← hw4]
  clear hw4 p0 p1 p2 p3 p4 p5 p6 p7 p8 p9 pf hbl3
  obtain ⟨q0, q1, q2, q3, q4, q5, q6, q7, q8, q9, qf⟩ := ten HE4.out
  obtain ⟨y0, y1, y2, y3, y4, y5, y6, y7, y8, y9, yf⟩ := ten HD4.out
  have hbl := heap_lt HE4.out
  have hbl2 := heap_lt HD4.out
  obtain ⟨w5, hw5⟩ : ∃ w5, w5 = ((((((((((w4.setCell ⟨bx, 0, none⟩ (.string name)).setCell ⟨bx, 1, none⟩ (.slice a3 fs.length c3)).setCell ⟨bx, 2, none⟩ (.int .i64 x0)).setCell ⟨bx, 3, none⟩ (.int .i64 x1)).setCell ⟨bx, 4, none⟩ (.int .i64 x2)).setCell ⟨bx, 5, none⟩ (.int .i64 x3)).setCell ⟨bx, 6, none⟩ (.int .i64 x4)).setCell ⟨bx, 7, none⟩ (.int .i64 x5)).setCell ⟨bx, 8, none⟩ (.int .i64 x6)).setCell ⟨bx, 9, none⟩ (.int .i64 x7)) := ⟨_, rfl⟩
  have ht5 : Heap.Touch (fun k => k = bx) w4 w5 := by rw [hw5]; exact ((((((((((Heap.Touch.refl (fun k => k = bx) w4).setCell (.inl rfl) _).setCell (.inl rfl) _).setCell (.inl rfl) _).setCell (.inl rfl) _).setCell (.inl rfl) _).setCell (.inl rfl) _).setCell (.inl rfl) _).setCell (.inl rfl) _).setCell (.inl rfl) _).setCell (.inl rfl) _
  have he5 : w5.heap[bx]? = some (.cells #[.string name, (.slice a3 fs.length c3), .int .i64 x0, .int .i64 x1, .int .i64 x2, .int .i64 x3, .int .i64 x4, .int .i64 x5, .int .i64 x6, .int .i64 x7] 62 (0, 0)) := by
    rw [hw5]; exact set10 HD4.out
  have HF5 := Lib.hid (HF.out w5 ht5)
  obtain ⟨p0, p1, p2, p3, p4, p5, p6, p7, p8, p9, pf⟩ := ten he5
  have hbl5 := heap_lt he5
  clear ht5 he5 HF
  go_wp2_with fail
  rw [← hw5]
  clear hw5 q0 q1 q2 q3 q4 q5 q6 q7 q8 q9 qf y0 y1 y2 y3 y4 y5 y6 y7 y8 y9 yf
  refine bodyPost_ret (v := .agg #[.string name, (.slice a3 fs.length c3), .int .i64 x0, .int .i64 x1, .int .i64 x2, .int .i64 x3, .int .i64 x4, .int .i64 x5, .int .i64 x6, .int .i64 x7]) (by simp [results, Tryz.results31, go_sem, p0, p1, p2, p3, p4, p5, p6, p7, p8, p9]; try rfl) rfl ?_
  exact HF5.out
end
end Go.Proofs.YtbgchhgdlceceaaGreatDoor.Own

namespace Go.Proofs.YtbgchhgdlceceaaGreatDoor.Own
open Go.RowKit Heap
open Subj (Tok ML Strs Ints ten TakerP)

/-- slices.Clone of numbers: a row of one's own. -/
theorem clone_intsR {w : World} {v : Value} {l : List Int} (h : Ints w v l) (hl : l.length ≤ 1048576) :
    Calls Tryz.prog 79 #[v] w fun e w' => ∃ v', e = .returned v' ∧ Row w' 3 1 v' l.length (l.map (Value.int .i64)) ∧ (∀ k, own v' k → w.heap.size ≤ k ∧ k < w'.heap.size) ∧ Below w.heap.size w w' := by
  obtain ⟨ao, cap, rfl, hc, hat⟩ := h
  have fin : ∀ (v' : Value) (w' : World), w'.ownsRow w.heap.size 3 1 v' l.length (l.map (Value.int .i64)) → Row w' 3 1 v' l.length (l.map (Value.int .i64)) ∧ (∀ k, own v' k → w.heap.size ≤ k ∧ k < w'.heap.size) := fun v' w' ho => by
    refine ⟨Row.of_own ho, fun k hk => ?_⟩
    rcases ho.2 with ⟨rfl, _⟩ | ⟨g, cp, cur, rfl, hg, hh, _⟩
    · simp [own, Value.ownBlock] at hk
    · simp [own, Value.ownBlock] at hk
      subst hk
      exact ⟨hg, heap_lt hh⟩
  cases ao with
  | none =>
    refine (Tryz.slices_Clone_int_nil l.length cap w).mono ?_
    rintro e w' ⟨rfl, rfl⟩
    by_cases hz : l = []
    · subst hz
      exact ⟨_, rfl, Row.nil _ _ _, fun k hk => by simp [own, Value.ownBlock] at hk, Below.refl _ _⟩
    · obtain ⟨g, off, h1, _⟩ := hat hz
      cases h1
  | some a =>
    by_cases hz : l = []
    · subst hz
      refine (Tryz.slices_Clone_int_zero a cap w).mono ?_
      rintro e w' ⟨v', rfl, h1, _, h3⟩
      obtain ⟨h5, h6⟩ := fin v' w' h1
      exact ⟨v', rfl, h5, h6, h3⟩
    · obtain ⟨g, off, h1, h2⟩ := hat hz
      simp only [Option.some.injEq] at h1
      subst h1
      refine (Tryz.slices_Clone_int g off l.length cap l w (Nat.le_refl _) (by omega) h2).mono ?_
      rintro e w' ⟨v', rfl, h1, _, h3⟩
      rw [List.take_of_length_le (Nat.le_refl _)] at h1
      obtain ⟨h5, h6⟩ := fin v' w' h1
      exact ⟨v', rfl, h5, h6, h3⟩

/-- A taker that nothing else holds. -/
def TakerPost (w : World) (t : TakerP) (e : Ending) (w' : World) : Prop :=
  ∃ v', e = .returned (Con.takerV t v') ∧ Row w' 3 1 v' t.back.length (t.back.map (Value.int .i64)) ∧ (∀ k, own v' k → w.heap.size ≤ k) ∧ Below w.heap.size w w'

section
variable {w : World}

set_option maxHeartbeats 4000000 in
set_option maxRecDepth 100000 in
theorem taker_of {W : World} {K : Nat} {t : TakerP} {vb v : Value} {c : Con.Cn} (hl : t.back.length ≤ 1048576) (h : Con.CAt Con.tc Con.tp W K t vb v c w) :
    Calls Tryz.prog 29 #[.pointer (some ⟨K, 0, none⟩)] w (TakerPost w t) := by
  obtain ⟨nm, hnme⟩ : ∃ nm : ByteArray, (⟨t.name.toArray⟩ : ByteArray) = nm := ⟨_, rfl⟩
  obtain ⟨fl, hfle⟩ : ∃ fl : ByteArray, (⟨t.filt.toArray⟩ : ByteArray) = fl := ⟨_, rfl⟩
  have hk := h.cell
  have hr := h.back
  obtain ⟨a0, n0, rfl, hc0, hat0⟩ := id hr
  unfold Con.conC at hk
  rw [hnme, hfle] at hk
  have HNM := Lib.hid hnme; have HFL := Lib.hid hfle
  clear hnme hfle h hc0 hat0
  obtain ⟨w1, hw1⟩ : ∃ w1, w1 = w.alloc (.cells #[.string ⟨#[]⟩, .string ⟨#[]⟩, .int .i64 0, .int .i64 0, .int .i64 0, .int .i64 0, .slice none 0 0, .int .i64 0, .int .i64 0, .bool false] 24) := ⟨_, rfl⟩
  have hb1 : Below w.heap.size w w1 := by rw [hw1]; exact (Below.refl _ _).alloc (Nat.le_refl _) _
  have hs1 : w1.heap.size = w.heap.size + 1 := by rw [hw1]; simp
  have he1 : w1.heap[w.heap.size]? = some (.cells #[.string ⟨#[]⟩, .string ⟨#[]⟩, .int .i64 0, .int .i64 0, .int .i64 0, .int .i64 0, .slice none 0 0, .int .i64 0, .int .i64 0, .bool false] 24 (0, 0)) := by rw [hw1]; exact heap_alloc_new w _
  obtain ⟨bx, hbx⟩ : ∃ bx, w.heap.size = bx := ⟨_, rfl⟩
  rw [hbx] at he1
  have hk1 := (hb1.block K (heap_lt hk)).trans hk
  obtain ⟨w2, hw2⟩ : ∃ w2, w2 = w1.alloc (.cells #[.string nm, .string fl, .int .i64 t.src, .int .i64 t.start, .int .i64 t.ack, .int .i64 t.wait, .slice a0 t.back.length n0, .int .i64 t.most, .int .i64 t.pend, .bool t.push] 24) := ⟨_, rfl⟩
  have hb2 : Below w1.heap.size w1 w2 := by rw [hw2]; exact (Below.refl _ _).alloc (Nat.le_refl _) _
  have he2 : w2.heap[w1.heap.size]? = some (.cells #[.string nm, .string fl, .int .i64 t.src, .int .i64 t.start, .int .i64 t.ack, .int .i64 t.wait, .slice a0 t.back.length n0, .int .i64 t.most, .int .i64 t.pend, .bool t.push] 24 (0, 0)) := by rw [hw2]; exact heap_alloc_new w1 _
  obtain ⟨by_, hby⟩ : ∃ by_, w1.heap.size = by_ := ⟨_, rfl⟩
  rw [hby] at he2
  have hbw2 := hb1.trans (hb2.mono hb1.size)
  have hz2 := heap_lt he2
  have HR := Lib.hid (show Ints w2 (.slice a0 t.back.length n0) t.back from hr.below hbw2)
  have HCL := Lib.hid (clone_intsR HR.out hl)
  have HE1 := Lib.hid ((hb2.block bx (heap_lt he1)).trans he1)
  have HE2 := Lib.hid he2; have HB2 := Lib.hid hbw2; have HBX := Lib.hid hbx; have HBY := Lib.hid hby
  have HXY := Lib.hid (show bx + 1 = by_ ∧ w.heap.size = bx ∧ by_ < w2.heap.size from ⟨by omega, hbx, hz2⟩)
  obtain ⟨q0, q1, q2, q3, q4, q5, q6, q7, q8, q9, qf⟩ : w1.cell? ⟨K, 0, none⟩ = some (.string nm) ∧ w1.cell? ⟨K, 1, none⟩ = some (.string fl) ∧ w1.cell? ⟨K, 2, none⟩ = some (.int .i64 t.src) ∧ w1.cell? ⟨K, 3, none⟩ = some (.int .i64 t.start) ∧ w1.cell? ⟨K, 4, none⟩ = some (.int .i64 t.ack) ∧ w1.cell? ⟨K, 5, none⟩ = some (.int .i64 t.wait) ∧ w1.cell? ⟨K, 6, none⟩ = some (.slice a0 t.back.length n0) ∧ w1.cell? ⟨K, 7, none⟩ = some (.int .i64 t.most) ∧ w1.cell? ⟨K, 8, none⟩ = some (.int .i64 t.pend) ∧ w1.cell? ⟨K, 9, none⟩ = some (.bool t.push) ∧ ∀ j, w1.frozen? ⟨K, j, none⟩ = false := by
    refine ⟨?_, ?_, ?_, ?_, ?_, ?_, ?_, ?_, ?_, ?_, fun j => frozen_of_row w1 K j _ _ hk1⟩ <;> (rw [cell_of_row w1 K _ _ _ _ hk1]; rfl)
  have hbl := heap_lt hk1
  clear hk hr hb1 hs1 he1 hk1 hb2 he2 hbw2 hbx hby hz2 HR
  go_enter Tryz.func29, Tryz.ntmps29
  go_upto_region 1 with fail
  rw [← hw1, HBX.out]
  clear hw1
  go_upto_region 2 with fail
  rw [← hw2, HBY.out]
  clear hw2 q0 q1 q2 q3 q4 q5 q6 q7 q8 q9 qf hbl
  obtain ⟨q0, q1, q2, q3, q4, q5, q6, q7, q8, q9, qf⟩ := ten HE2.out
  have hbl := heap_lt HE2.out
  go_wp2_with fail
  refine HCL.out.mono ?_
  rintro e w3 ⟨v3, rfl, hr3, ho3, hb3⟩
  obtain ⟨a3, c3, rfl⟩ := hr3.slice
  have he3 := (hb3.block by_ hbl).trans HE2.out
  have hd3 := (hb3.block bx (heap_lt HE1.out)).trans HE1.out
  obtain ⟨w4, hw4⟩ : ∃ w4, w4 = w3.setCell ⟨by_, 6, none⟩ (.slice a3 t.back.length c3) := ⟨_, rfl⟩
  have he4 : w4.heap[by_]? = some (.cells #[.string nm, .string fl, .int .i64 t.src, .int .i64 t.start, .int .i64 t.ack, .int .i64 t.wait, (.slice a3 t.back.length c3), .int .i64 t.most, .int .i64 t.pend, .bool t.push] 24 (0, 0)) := by rw [hw4]; exact heap_setCell_same _ _ _ _ _ _ he3
  have hd4 : w4.heap[bx]? = some (.cells #[.string ⟨#[]⟩, .string ⟨#[]⟩, .int .i64 0, .int .i64 0, .int .i64 0, .int .i64 0, .slice none 0 0, .int .i64 0, .int .i64 0, .bool false] 24 (0, 0)) := by rw [hw4]; exact (heap_setCell_other _ _ _ _ (by have := HXY.out.1; show bx ≠ by_; omega)).trans hd3
  have hz := HXY.out
  have hb4 : Below w.heap.size w w4 := by rw [hw4]; exact (HB2.out.trans (hb3.mono HB2.out.size)).setCell (by show w.heap.size ≤ by_; omega) _
  have hr4 : Row w4 3 1 (.slice a3 t.back.length c3) t.back.length (t.back.map (Value.int .i64)) := hr3.kept fun k hk _ => by rw [hw4]; exact heap_setCell_other _ _ _ _ (by have := (ho3 k hk).1; show k ≠ by_; omega)
  have HF := Lib.hid (show ∀ w5 : World, Heap.Touch (fun k => k = bx) w4 w5 → TakerPost w t (.returned (Con.takerV t (.slice a3 t.back.length c3))) w5 from fun w5 ht => by
    refine ⟨_, rfl, hr4.kept fun k hk hk2 => ht.block k hk2 (fun e => ?_), fun k hk => ?_, hb4.trans (ht.below hb4.size fun k hk => by omega)⟩
    · have := (ho3 k hk).1; omega
    · have := (ho3 k hk).1; have := HB2.out.size; omega)
  unfold Con.takerV at HF
  rw [HNM.out, HFL.out] at HF
  have HE4 := Lib.hid he4; have HD4 := Lib.hid hd4
  obtain ⟨p0, p1, p2, p3, p4, p5, p6, p7, p8, p9, pf⟩ := ten he3
  have hbl3 := heap_lt he3
  clear hr3 ho3 hb3 he3 hd3 he4 hd4 hz hb4 hr4 q0 q1 q2 q3 q4 q5 q6 q7 q8 q9 qf hbl HCL HE1 HE2
  go_upto_region 3 with fail
  rw [← hw4]
  clear hw4 p0 p1 p2 p3 p4 p5 p6 p7 p8 p9 pf hbl3
  obtain ⟨q0, q1, q2, q3, q4, q5, q6, q7, q8, q9, qf⟩ := ten HE4.out
  obtain ⟨y0, y1, y2, y3, y4, y5, y6, y7, y8, y9, yf⟩ := ten HD4.out
  have hbl := heap_lt HE4.out
  have hbl2 := heap_lt HD4.out
  obtain ⟨w5, hw5⟩ : ∃ w5, w5 = ((((((((((w4.setCell ⟨bx, 0, none⟩ (.string nm)).setCell ⟨bx, 1, none⟩ (.string fl)).setCell ⟨bx, 2, none⟩ (.int .i64 t.src)).setCell ⟨bx, 3, none⟩ (.int .i64 t.start)).setCell ⟨bx, 4, none⟩ (.int .i64 t.ack)).setCell ⟨bx, 5, none⟩ (.int .i64 t.wait)).setCell ⟨bx, 6, none⟩ (.slice a3 t.back.length c3)).setCell ⟨bx, 7, none⟩ (.int .i64 t.most)).setCell ⟨bx, 8, none⟩ (.int .i64 t.pend)).setCell ⟨bx, 9, none⟩ (.bool t.push)) := ⟨_, rfl⟩
  have ht5 : Heap.Touch (fun k => k = bx) w4 w5 := by rw [hw5]; exact ((((((((((Heap.Touch.refl (fun k => k = bx) w4).setCell (.inl rfl) _).setCell (.inl rfl) _).setCell (.inl rfl) _).setCell (.inl rfl) _).setCell (.inl rfl) _).setCell (.inl rfl) _).setCell (.inl rfl) _).setCell (.inl rfl) _).setCell (.inl rfl) _).setCell (.inl rfl) _
  have he5 : w5.heap[bx]? = some (.cells #[.string nm, .string fl, .int .i64 t.src, .int .i64 t.start, .int .i64 t.ack, .int .i64 t.wait, (.slice a3 t.back.length c3), .int .i64 t.most, .int .i64 t.pend, .bool t.push] 24 (0, 0)) := by
    rw [hw5]; exact set10 HD4.out
  have HF5 := Lib.hid (HF.out w5 ht5)
  obtain ⟨p0, p1, p2, p3, p4, p5, p6, p7, p8, p9, pf⟩ := ten he5
  have hbl5 := heap_lt he5
  clear ht5 he5 HF
  go_wp2_with fail
  rw [← hw5]
  clear hw5 q0 q1 q2 q3 q4 q5 q6 q7 q8 q9 qf y0 y1 y2 y3 y4 y5 y6 y7 y8 y9 yf
  refine bodyPost_ret (v := .agg #[.string nm, .string fl, .int .i64 t.src, .int .i64 t.start, .int .i64 t.ack, .int .i64 t.wait, (.slice a3 t.back.length c3), .int .i64 t.most, .int .i64 t.pend, .bool t.push]) (by simp [results, Tryz.results29, go_sem, p0, p1, p2, p3, p4, p5, p6, p7, p8, p9]; try rfl) rfl ?_
  exact HF5.out
end
end Go.Proofs.YtbgchhgdlceceaaGreatDoor.Own

namespace Go.Proofs.YtbgchhgdlceceaaGreatDoor.Subj

/-- What comes of the words bs still to be told, the numbers pre that are read, and the texts w still to be read. -/
def Ends (bs : List (List UInt8)) (pre : List Int) (w : List Tok) : Option (List Int) :=
  match readVals bs w with
  | some (vs, []) => some (pre ++ vs)
  | _ => none

theorem Ends_nil (bs : List (List UInt8)) (pre : List Int) : Ends bs pre [] = some (pre ++ bs.map (fun _ => 0)) := by
  unfold Ends; rw [readVals_nil]

theorem Ends_over (pre : List Int) (t : Tok) (w : List Tok) : Ends [] pre (t :: w) = none := rfl

theorem Ends_skip {b : List UInt8} {bs : List (List UInt8)} {pre : List Int} {t : Tok} {w : List Tok} (h : (b ++ [61]).isPrefixOf t = false) :
    Ends (b :: bs) pre (t :: w) = Ends bs (pre ++ [0]) (t :: w) := by
  unfold Ends
  conv => lhs; unfold readVals
  rw [h]
  simp only [Bool.false_eq_true, if_false]
  rcases readVals bs (t :: w) with _ | ⟨vs, _ | ⟨x, y⟩⟩ <;> simp

theorem Ends_take {b : List UInt8} {bs : List (List UInt8)} {pre : List Int} {t : Tok} {w : List Tok} (h : (b ++ [61]).isPrefixOf t = true) (hn : ¬ numberOf (t.drop (b.length + 1)) ≤ 0) :
    Ends (b :: bs) pre (t :: w) = Ends bs (pre ++ [numberOf (t.drop (b.length + 1))]) w := by
  unfold Ends
  conv => lhs; unfold readVals
  rw [if_pos h, if_neg hn]
  rcases readVals bs w with _ | ⟨vs, _ | ⟨x, y⟩⟩ <;> simp

theorem words_len : words.length = 8 := rfl
theorem words_drop {j : Nat} (hj : j < 8) : words.drop j = words.getD j [] :: words.drop (j + 1) := by
  rw [List.drop_eq_getElem_cons (by simpa [words_len] using hj)]
  simp [List.getD, show j < words.length from hj]

/-- So far j words are told and c texts are read; vals is what stands there. -/
def PState (E : Option (List Int)) (r : List Tok) (j c : Nat) (vals : List Int) : Prop :=
  ∃ pre : List Int, pre.length = j ∧ vals = pre ++ List.replicate (8 - j) 0 ∧ E = Ends (words.drop j) pre (r.drop c)

theorem map_zero (l : List (List UInt8)) : l.map (fun _ => (0 : Int)) = List.replicate l.length 0 := by
  induction l with
  | nil => rfl
  | cons a l ih => simp only [List.map_cons, ih]; rfl

theorem PState.start (r : List Tok) : PState (Ends words [] r) r 0 0 (List.replicate 8 0) := ⟨[], rfl, rfl, rfl⟩

section
variable {E : Option (List Int)} {r : List Tok} {j c : Nat} {vals : List Int}

theorem PState.len (h : PState E r j c vals) (hj : j ≤ 8) : vals.length = 8 := by
  obtain ⟨pre, h1, rfl, _⟩ := h
  simp; omega

theorem drop_at {c : Nat} (hc : c < r.length) : r.drop c = r.getD c [] :: r.drop (c + 1) := by
  rw [List.drop_eq_getElem_cons hc]
  simp [List.getD, hc]

/-- All is read. -/
theorem PState.all (h : PState E r j c vals) (hj : j ≤ 8) (hc : r.length ≤ c) : E = some vals := by
  obtain ⟨pre, h1, rfl, h3⟩ := h
  rw [h3, List.drop_eq_nil_of_le hc, Ends_nil, map_zero, List.length_drop, words_len]

/-- All words are told, and something is left over. -/
theorem PState.over (h : PState E r 8 c vals) (hc : c < r.length) : E = none := by
  obtain ⟨pre, h1, rfl, h3⟩ := h
  rw [h3, drop_at hc]
  exact Ends_over _ _ _

theorem PState.skip (h : PState E r j c vals) (hj : j < 8) (hc : c < r.length) (hp : (words.getD j [] ++ [61]).isPrefixOf (r.getD c []) = false) : PState E r (j + 1) c vals := by
  obtain ⟨pre, h1, rfl, h3⟩ := h
  refine ⟨pre ++ [0], by simp [h1], ?_, ?_⟩
  · rw [List.append_assoc]
    congr 1
    rw [show 8 - j = (8 - (j + 1)) + 1 by omega, List.replicate_succ]; rfl
  · rw [h3, words_drop hj, drop_at hc, Ends_skip hp]

theorem PState.take (h : PState E r j c vals) (hj : j < 8) (hc : c < r.length) (hp : (words.getD j [] ++ [61]).isPrefixOf (r.getD c []) = true)
    (hn : ¬ numberOf ((r.getD c []).drop ((words.getD j []).length + 1)) ≤ 0) :
    PState E r (j + 1) (c + 1) (vals.set j (numberOf ((r.getD c []).drop ((words.getD j []).length + 1)))) := by
  obtain ⟨pre, h1, rfl, h3⟩ := h
  refine ⟨pre ++ [numberOf ((r.getD c []).drop ((words.getD j []).length + 1))], by simp [h1], ?_, ?_⟩
  · rw [show 8 - j = (8 - (j + 1)) + 1 by omega, List.replicate_succ, ← h1]
    simp
  · rw [h3, words_drop hj, drop_at hc, Ends_take hp hn]
end

end Go.Proofs.YtbgchhgdlceceaaGreatDoor.Subj
