/- Parts of the proof, joined: Is there too much: (*Stream).crowded, full, walked. -/
import Derived.Test.YtbgchhgdlceceaaGreatDoorStrmBaseM29
namespace Go.Proofs.YtbgchhgdlceceaaGreatDoor.Strm
open Go.RowKit Heap
open Subj (Tok ML err)
open Vlt (store_vlt sums_vlt low_to)
open Sto (sixC fourS cntR Right StoreAt sumsV sums_any bytesR)

section
variable {W w : World} {F : Nat → Prop} {K S c : Nat} {room size : Int} {name : ByteArray} {p : Pl} {s : Sm} {x : Po}

theorem SmAt.cells (h : SmAt W F K S c room size name p s w) : ∃ V vf vi, ∀ w', Below w.heap.size w w' →
    w'.cell? ⟨K, 1, none⟩ = some vf ∧ w'.cell? ⟨K, 2, none⟩ = some (.int .i64 p.msgs) ∧ w'.cell? ⟨K, 3, none⟩ = some (.int .i64 p.bytes) ∧ w'.cell? ⟨K, 4, none⟩ = some (.int .i64 p.age) ∧ w'.cell? ⟨K, 5, none⟩ = some (.int .i64 p.per) ∧ w'.cell? ⟨K, 6, none⟩ = some (.int .i64 p.size) ∧
    w'.cell? ⟨K, 7, none⟩ = some (.int .i64 p.disc) ∧ w'.cell? ⟨K, 9, none⟩ = some (.int .i64 p.win) ∧ w'.cell? ⟨K, 10, none⟩ = some (.pointer (some ⟨V, 0, none⟩)) ∧ w'.cell? ⟨K, 11, none⟩ = some vi ∧ (∀ j, w'.frozen? ⟨K, j, none⟩ = false) ∧ K < w'.heap.size := by
  obtain ⟨FV, V, D, G, vf, vi, hP, _⟩ := h.ex
  refine ⟨V, vf, vi, fun w' hb => ?_⟩
  obtain ⟨a, b, c, d, e, f, g, i, j, k, l⟩ := (hP.low hb).cells
  exact ⟨a, b, c, d, e, f, g, i, j, k, l, (hP.low hb).ltK⟩


set_option maxHeartbeats 2000000 in
set_option maxRecDepth 100000 in
theorem crowded_any (h : SmAt W F K S c room size name p s w) (hc : 16 * c ≤ 80000) (hm : ML W) (hx : FitsP x) (he : err false x.subj = 0) :
    Calls Tryz.prog 187 #[.pointer (some ⟨K, 0, none⟩), postV x] w fun e w' => e = .returned (.bool (crowdedP p x s.v)) ∧ Below w.heap.size w w' := by
  have hmany := fun w' (hb : Below w.heap.size w w') => many_any (h.low hb) hc hm hx he
  obtain ⟨sb, ib, hb, db, hp⟩ := partsP x
  rw [hp.v] at hmany ⊢
  unfold crowdedP
  obtain ⟨n, hn⟩ : ∃ n, cntR s.v.L x.subj = n := ⟨_, rfl⟩
  rw [hn] at hmany ⊢
  obtain ⟨V, vf, vi, hcl⟩ := h.cells
  obtain ⟨w1, hw1⟩ : ∃ w1, w1 = w.alloc (.cells #[.string sb, .string ib, .string hb, .string db, .int .i64 x.exp, .int .i64 x.roll] 112) := ⟨_, rfl⟩
  have hb1 : Below w.heap.size w w1 := by rw [hw1]; exact (Below.refl _ _).alloc (Nat.le_refl _) _
  have he1 : w1.heap[w.heap.size]? = some (.cells #[.string sb, .string ib, .string hb, .string db, .int .i64 x.exp, .int .i64 x.roll] 112 (0, 0)) := by rw [hw1]; exact heap_alloc_new w _
  obtain ⟨bx, hbx⟩ : ∃ bx, w.heap.size = bx := ⟨_, rfl⟩
  rw [hbx] at he1
  obtain ⟨pr, hpr⟩ : ∃ pr, p.per = pr := ⟨_, rfl⟩
  rw [hpr] at hcl ⊢
  have HMA := Lib.hid (show ∀ w', Below w1.heap.size w1 w' → Calls Tryz.prog 220 #[.pointer (some ⟨K, 0, none⟩), .agg #[.string sb, .string ib, .string hb, .string db, .int .i64 x.exp, .int .i64 x.roll]] w' fun e w'' => e = .returned (.int .i64 (n : Nat)) ∧ Below w'.heap.size w' w'' from fun w' hb => hmany w' (hb1.trans (hb.mono hb1.size)))
  have HSS := Lib.hid (show ∀ w', Below w1.heap.size w1 w' → w'.cell? ⟨K, 5, none⟩ = some (.int .i64 pr) ∧ w'.cell? ⟨bx, 0, none⟩ = some (.string sb) ∧ w'.cell? ⟨bx, 1, none⟩ = some (.string ib) ∧ w'.cell? ⟨bx, 2, none⟩ = some (.string hb) ∧ w'.cell? ⟨bx, 3, none⟩ = some (.string db) ∧ w'.cell? ⟨bx, 4, none⟩ = some (.int .i64 x.exp) ∧ w'.cell? ⟨bx, 5, none⟩ = some (.int .i64 x.roll) from fun w' hb => by
    obtain ⟨_, _, _, _, c5, _⟩ := hcl w' (hb1.trans (hb.mono hb1.size))
    obtain ⟨q0, q1, q2, q3, q4, q5⟩ := sixC ((hb.block bx (heap_lt he1)).trans he1)
    exact ⟨c5, q0, q1, q2, q3, q4, q5⟩)
  have HB1 := Lib.hid hb1; have HBX := Lib.hid hbx
  have hbd : Below w1.heap.size w1 w1.drew := (Below.refl _ _).drew
  clear h hb1 he1 hbx hm hx he hp hn hc hmany hcl hpr
  by_cases h0 : 0 < pr
  · have h0d : decide (0 < pr) = true := decide_eq_true h0
    rw [h0d, Bool.true_and]
    go_enter Tryz.func187, Tryz.ntmps187
    go_upto_region 1 with fail
    rw [← hw1, HBX.out]
    clear hw1
    go_region_held3 (fun w' => w'.cell? ⟨K, 5, none⟩ = some (.int .i64 pr) ∧ w'.cell? ⟨bx, 0, none⟩ = some (.string sb) ∧ w'.cell? ⟨bx, 1, none⟩ = some (.string ib) ∧ w'.cell? ⟨bx, 2, none⟩ = some (.string hb) ∧ w'.cell? ⟨bx, 3, none⟩ = some (.string db) ∧ w'.cell? ⟨bx, 4, none⟩ = some (.int .i64 x.exp) ∧ w'.cell? ⟨bx, 5, none⟩ = some (.int .i64 x.roll)) (first | (with_reducible exact HSS.out _ (Below.refl _ _)) | (with_reducible exact HSS.out _ hbd) | (with_reducible exact HSS.out _ (by assumption)) | go_keep)
      ((go_at_call 220; ((refine (HMA.out _ (by first | assumption | exact Below.refl _ _)).mono ?_); rintro e w2 ⟨rfl, hb2⟩; have hb2' := low_to (w0 := w1) (by first | assumption | exact Below.refl _ _) hb2; clear hb2)))
    have HB2 := Lib.hid (HB1.out.trans (hb2'.mono HB1.out.size))
    clear hb2' hbd HMA HSS
    go_wp2_with fail
    go_ret
    exact ⟨rfl, HB2.out⟩
  · have h0d : decide (0 < pr) = false := decide_eq_false h0
    rw [h0d, Bool.false_and]
    obtain ⟨c5, q0, q1, q2, q3, q4, q5⟩ := HSS.out w1 (Below.refl _ _)
    go_enter Tryz.func187, Tryz.ntmps187
    go_upto_region 1 with fail
    rw [← hw1, HBX.out]
    clear hw1
    go_quiet (fail)
    go_wp2_with fail
    go_ret
    exact ⟨rfl, below_drewN HB1.out _⟩

set_option maxHeartbeats 4000000 in
set_option maxRecDepth 100000 in
theorem full_any (h : SmAt W F K S c room size name p s w) (hx : FitsP x) :
    Calls Tryz.prog 188 #[.pointer (some ⟨K, 0, none⟩), postV x] w fun e w' => e = .returned (.bool (fullP p x s.v)) ∧ Below w.heap.size w w' := by
  have hsize := fun w' => size_any (w := w') hx
  obtain ⟨I, hR⟩ := h.right
  have hfew := hR.few
  have hbyt := Sto.bytes_le hR.good
  obtain ⟨sb, ib, hb, db, hp⟩ := partsP x
  rw [hp.v] at hsize ⊢
  unfold fullP
  obtain ⟨n, hn⟩ : ∃ n, s.v.L.length = n := ⟨_, rfl⟩
  obtain ⟨m, hmm⟩ : ∃ m, bytesR s.v.L = m := ⟨_, rfl⟩
  obtain ⟨z, hz⟩ : ∃ z, sizeP x = z := ⟨_, rfl⟩
  have hzl : z ≤ 3145728 := by rw [← hz]; unfold sizeP; have := hx.s; have := hx.h; have := hx.d; omega
  rw [hn] at hfew hbyt
  rw [hmm] at hbyt
  rw [hz] at hsize
  rw [hn, hmm, hz]
  obtain ⟨V, vf, vi, hcl⟩ := h.cells
  obtain ⟨w1, hw1⟩ : ∃ w1, w1 = w.alloc (.cells #[.string sb, .string ib, .string hb, .string db, .int .i64 x.exp, .int .i64 x.roll] 112) := ⟨_, rfl⟩
  have hb1 : Below w.heap.size w w1 := by rw [hw1]; exact (Below.refl _ _).alloc (Nat.le_refl _) _
  have he1 : w1.heap[w.heap.size]? = some (.cells #[.string sb, .string ib, .string hb, .string db, .int .i64 x.exp, .int .i64 x.roll] 112 (0, 0)) := by rw [hw1]; exact heap_alloc_new w _
  obtain ⟨bx, hbx⟩ : ∃ bx, w.heap.size = bx := ⟨_, rfl⟩
  rw [hbx] at he1
  have h1 := h.low hb1
  obtain ⟨FV, V', D, G, vf', vi', hP, _⟩ := h1.ex
  obtain ⟨c1, _, _, _, _, _, _, _, c10, _, _, hKl⟩ := hcl w1 hb1
  have hVV : V' = V := by
    obtain ⟨_, _, _, _, _, _, _, _, d10, _, _⟩ := hP.cells
    rw [c10] at d10
    simpa using d10.symm
  subst hVV
  have HSTO := Lib.hid (store_vlt hP.vlt)
  have HSUM := Lib.hid (sums_vlt hP.vlt)
  obtain ⟨mg, hmg⟩ : ∃ mg, p.msgs = mg := ⟨_, rfl⟩
  obtain ⟨by_, hby⟩ : ∃ by_, p.bytes = by_ := ⟨_, rfl⟩
  rw [hmg, hby] at hcl ⊢
  unfold sumsV at HSUM
  rw [hn, hmm] at HSUM
  obtain ⟨fi, hfi⟩ : ∃ fi, (s.v.L.head?.map (·.seq)).getD 0 = fi := ⟨_, rfl⟩
  rw [hfi] at HSUM
  have HCL := Lib.hid hcl; have HSI := Lib.hid hsize; have HB1 := Lib.hid hb1; have HBX := Lib.hid hbx; have HE1 := Lib.hid he1
  clear h hb1 he1 hbx hx hp hn hmm hz hcl hsize hP h1 hR hmg hby hfi c1
  have hzz : (0 : Int) ≤ m ∧ (m : Int) + z ≤ 1000000000000 := by omega
  have hwa : IntKind.i64.wrap ((m : Int) + z) = (m : Int) + z := IntWalk.i64_in _ (by omega)
  go_enter Tryz.func188, Tryz.ntmps188
  go_upto_region 1 with fail
  rw [← hw1, HBX.out]
  clear hw1
  go_wp2_with fail
  refine HSTO.out.mono ?_
  rintro e w' ⟨rfl, rfl⟩
  go_wp2_with fail
  refine HSUM.out.mono ?_
  rintro e w2 ⟨rfl, hb2⟩
  obtain ⟨w3, hw3⟩ : ∃ w3, w3 = w2.alloc (.cells #[.int .i64 (n : Nat), .int .i64 (m : Nat), .int .i64 fi, .int .i64 s.v.last] 116) := ⟨_, rfl⟩
  have hb3 : Below w2.heap.size w2 w3 := by rw [hw3]; exact (Below.refl _ _).alloc (Nat.le_refl _) _
  have he3 : w3.heap[w2.heap.size]? = some (.cells #[.int .i64 (n : Nat), .int .i64 (m : Nat), .int .i64 fi, .int .i64 s.v.last] 116 (0, 0)) := by rw [hw3]; exact heap_alloc_new w2 _
  obtain ⟨sx, hsx⟩ : ∃ sx, w2.heap.size = sx := ⟨_, rfl⟩
  rw [hsx] at he3
  have hbw := HB1.out.trans ((hb2.trans (hb3.mono hb2.size)).mono HB1.out.size)
  have HBW := Lib.hid hbw
  have he1' := ((hb2.trans (hb3.mono hb2.size)).block bx (heap_lt HE1.out)).trans HE1.out
  have HSS := Lib.hid (show ∀ w', Below w3.heap.size w3 w' → w'.cell? ⟨K, 2, none⟩ = some (.int .i64 mg) ∧ w'.cell? ⟨K, 3, none⟩ = some (.int .i64 by_) ∧ w'.cell? ⟨sx, 0, none⟩ = some (.int .i64 (n : Nat)) ∧ w'.cell? ⟨sx, 1, none⟩ = some (.int .i64 (m : Nat)) ∧ w'.cell? ⟨bx, 0, none⟩ = some (.string sb) ∧ w'.cell? ⟨bx, 1, none⟩ = some (.string ib) ∧ w'.cell? ⟨bx, 2, none⟩ = some (.string hb) ∧ w'.cell? ⟨bx, 3, none⟩ = some (.string db) ∧ w'.cell? ⟨bx, 4, none⟩ = some (.int .i64 x.exp) ∧ w'.cell? ⟨bx, 5, none⟩ = some (.int .i64 x.roll) from fun w' hb => by
    obtain ⟨_, d2, d3, _⟩ := HCL.out w' (hbw.trans (hb.mono hbw.size))
    obtain ⟨e0, e1, _, _, _⟩ := fourS ((hb.block sx (heap_lt he3)).trans he3)
    obtain ⟨q0, q1, q2, q3, q4, q5⟩ := sixC ((hb.block bx (heap_lt he1')).trans he1')
    exact ⟨d2, d3, e0, e1, q0, q1, q2, q3, q4, q5⟩)
  have HSX := Lib.hid hsx
  clear hb2 hb3 he3 hbw he1' hsx HSUM HSTO c10 hKl
  go_upto_region 2 with fail
  rw [← hw3, HSX.out]
  clear hw3
  have hbd : Below w3.heap.size w3 w3.drew := (Below.refl _ _).drew
  by_cases h1 : 0 < mg
  · have d1 : decide (0 < mg) = true := decide_eq_true h1
    by_cases h2 : mg ≤ (n : Int)
    · have d2 : decide (mg ≤ (n : Int)) = true := decide_eq_true h2
      obtain ⟨k2, k3, s0, s1, q0, q1, q2, q3, q4, q5⟩ := HSS.out w3 (Below.refl _ _)
      go_quiet (fail)
      go_wp2_with fail
      go_ret
      exact ⟨by simp [d1, d2], below_drewN HBW.out _⟩
    · have d2 : decide (mg ≤ (n : Int)) = false := decide_eq_false h2
      by_cases h3 : 0 < by_
      · have d3 : decide (0 < by_) = true := decide_eq_true h3
        go_region_held3 (fun w' => w'.cell? ⟨K, 2, none⟩ = some (.int .i64 mg) ∧ w'.cell? ⟨K, 3, none⟩ = some (.int .i64 by_) ∧ w'.cell? ⟨sx, 0, none⟩ = some (.int .i64 (n : Nat)) ∧ w'.cell? ⟨sx, 1, none⟩ = some (.int .i64 (m : Nat)) ∧ w'.cell? ⟨bx, 0, none⟩ = some (.string sb) ∧ w'.cell? ⟨bx, 1, none⟩ = some (.string ib) ∧ w'.cell? ⟨bx, 2, none⟩ = some (.string hb) ∧ w'.cell? ⟨bx, 3, none⟩ = some (.string db) ∧ w'.cell? ⟨bx, 4, none⟩ = some (.int .i64 x.exp) ∧ w'.cell? ⟨bx, 5, none⟩ = some (.int .i64 x.roll)) (first | (with_reducible exact HSS.out _ (Below.refl _ _)) | (with_reducible exact HSS.out _ hbd) | (with_reducible exact HSS.out _ (by assumption)) | go_keep)
          ((go_at_call 186; ((refine (HSI.out _).mono ?_); rintro e w4 ⟨rfl, hb4⟩; have hb4' := low_to (w0 := w3) (by first | assumption | exact Below.refl _ _) hb4; clear hb4)))
        have HBF := Lib.hid (HBW.out.trans (hb4'.mono HBW.out.size))
        clear hb4' hbd HSI HSS HCL
        go_wp2_with fail
        go_ret
        exact ⟨by simp [d1, d2, d3], HBF.out⟩
      · have d3 : decide (0 < by_) = false := decide_eq_false h3
        obtain ⟨k2, k3, s0, s1, q0, q1, q2, q3, q4, q5⟩ := HSS.out w3 (Below.refl _ _)
        go_quiet (fail)
        go_wp2_with fail
        go_ret
        exact ⟨by simp, below_drewN HBW.out _⟩
  · have d1 : decide (0 < mg) = false := decide_eq_false h1
    by_cases h3 : 0 < by_
    · have d3 : decide (0 < by_) = true := decide_eq_true h3
      refine wp_region_held_drew (S := (fun w' => w'.cell? ⟨K, 2, none⟩ = some (.int .i64 mg) ∧ w'.cell? ⟨K, 3, none⟩ = some (.int .i64 by_) ∧ w'.cell? ⟨sx, 0, none⟩ = some (.int .i64 (n : Nat)) ∧ w'.cell? ⟨sx, 1, none⟩ = some (.int .i64 (m : Nat)) ∧ w'.cell? ⟨bx, 0, none⟩ = some (.string sb) ∧ w'.cell? ⟨bx, 1, none⟩ = some (.string ib) ∧ w'.cell? ⟨bx, 2, none⟩ = some (.string hb) ∧ w'.cell? ⟨bx, 3, none⟩ = some (.string db) ∧ w'.cell? ⟨bx, 4, none⟩ = some (.int .i64 x.exp) ∧ w'.cell? ⟨bx, 5, none⟩ = some (.int .i64 x.roll))) (by kernel_rfl) (HSS.out _ hbd) (fun hHeld => ?_)
      refine wpAnyH_take (i := 0) (v := ?_) rfl (by kernel_rfl) (by kernel_rfl) (by kernel_rfl) (fun _ _ _ h => h) (Or.inl ⟨by rfl, ?_⟩) (by assumption) ?_
      rotate_left
      · intro w hSw; (try dsimp only at hSw); first | (go_simp; done) | (go_simp; with_reducible rfl)
      (try simp only [Act.put, List.getElem_toArray, List.getElem_cons_zero, List.setIfInBounds_toArray, List.set_cons_zero, List.set_cons_succ])
      refine wpAnyH_take (i := 1) (v := ?_) rfl (by kernel_rfl) (by kernel_rfl) (by kernel_rfl) (fun _ _ _ h => h) (Or.inl ⟨by rfl, ?_⟩) (by assumption) ?_
      rotate_left
      · intro w hSw; (try dsimp only at hSw); first | (go_simp; done) | (go_simp; with_reducible rfl)
      (try simp only [Act.put, List.getElem_toArray, List.getElem_cons_succ, List.getElem_cons_zero, List.setIfInBounds_toArray, List.set_cons_zero, List.set_cons_succ])
      refine wpAnyH_take (i := 2) (v := ?_) rfl (by kernel_rfl) (by kernel_rfl) (by kernel_rfl) (fun _ _ _ h => h) (Or.inl ⟨by rfl, ?_⟩) (by assumption) ?_
      rotate_left
      · intro w hSw; (try dsimp only at hSw); first | (go_simp; done) | (go_simp; with_reducible rfl)
      (try simp only [Act.put, List.getElem_toArray, List.getElem_cons_succ, List.getElem_cons_zero, List.setIfInBounds_toArray, List.set_cons_zero, List.set_cons_succ])
      refine wpAnyH_take (i := 3) (v := ?_) rfl (by kernel_rfl) (by kernel_rfl) (by kernel_rfl) (fun _ _ _ h => h) (Or.inl ⟨by rfl, ?_⟩) (by assumption) ?_
      rotate_left
      · intro w hSw; (try dsimp only at hSw); first | (go_simp; done) | (go_simp; with_reducible rfl)
      (try simp only [Act.put, List.getElem_toArray, List.getElem_cons_succ, List.getElem_cons_zero, List.setIfInBounds_toArray, List.set_cons_zero, List.set_cons_succ])
      refine wpAnyH_take (i := 4) (v := ?_) rfl (by kernel_rfl) (by kernel_rfl) (by kernel_rfl) (fun _ _ _ h => h) (Or.inl ⟨by rfl, ?_⟩) (by assumption) ?_
      rotate_left
      · intro w hSw; (try dsimp only at hSw); first | (go_simp; done) | (go_simp; with_reducible rfl)
      (try simp only [Act.put, List.getElem_toArray, List.getElem_cons_succ, List.getElem_cons_zero, List.setIfInBounds_toArray, List.set_cons_zero, List.set_cons_succ])
      refine wpAnyH_take (i := 5) (v := ?_) rfl (by kernel_rfl) (by kernel_rfl) (by kernel_rfl) (fun _ _ _ h => h) (Or.inl ⟨by rfl, ?_⟩) (by assumption) ?_
      rotate_left
      · intro w hSw; (try dsimp only at hSw); first | (go_simp; done) | (go_simp; with_reducible rfl)
      (try simp only [Act.put, List.getElem_toArray, List.getElem_cons_succ, List.getElem_cons_zero, List.setIfInBounds_toArray, List.set_cons_zero, List.set_cons_succ])
      refine wpAnyH_take (i := 6) (v := ?_) rfl (by kernel_rfl) (by kernel_rfl) (by kernel_rfl) (fun _ _ _ h => h) (Or.inl ⟨by rfl, ?_⟩) (by assumption) ?_
      rotate_left
      · intro w hSw; (try dsimp only at hSw); first | (go_simp; done) | (go_simp; with_reducible rfl)
      (try simp only [Act.put, List.getElem_toArray, List.getElem_cons_succ, List.getElem_cons_zero, List.setIfInBounds_toArray, List.set_cons_zero, List.set_cons_succ])
      refine wpAnyH_take (i := 7) (v := undef) rfl (by kernel_rfl) (by kernel_rfl) (by kernel_rfl) (fun _ _ _ h => h) (Or.inr ⟨by rfl, rfl⟩) (by assumption) ?_
      (try simp only [Act.put, List.getElem_toArray, List.getElem_cons_succ, List.getElem_cons_zero, List.setIfInBounds_toArray, List.set_cons_zero, List.set_cons_succ])
      refine wpAnyH_take (i := 8) (v := undef) rfl (by kernel_rfl) (by kernel_rfl) (by kernel_rfl) (fun _ _ _ h => h) (Or.inr ⟨by rfl, rfl⟩) (by assumption) ?_
      (try simp only [Act.put, List.getElem_toArray, List.getElem_cons_succ, List.getElem_cons_zero, List.setIfInBounds_toArray, List.set_cons_zero, List.set_cons_succ])
      refine wpAnyH_take (i := 9) (v := undef) rfl (by kernel_rfl) (by kernel_rfl) (by kernel_rfl) (fun _ _ _ h => h) (Or.inr ⟨by rfl, rfl⟩) (by assumption) ?_
      (try simp only [Act.put, List.getElem_toArray, List.getElem_cons_succ, List.getElem_cons_zero, List.setIfInBounds_toArray, List.set_cons_zero, List.set_cons_succ])
      refine wpAnyH_take (i := 10) (v := undef) rfl (by kernel_rfl) (by kernel_rfl) (by kernel_rfl) (fun _ _ _ h => h) (Or.inr ⟨by rfl, rfl⟩) (by assumption) ?_
      (try simp only [Act.put, List.getElem_toArray, List.getElem_cons_succ, List.getElem_cons_zero, List.setIfInBounds_toArray, List.set_cons_zero, List.set_cons_succ])
      refine wpAnyH_take (i := 11) (v := undef) rfl (by kernel_rfl) (by kernel_rfl) (by kernel_rfl) (fun _ _ _ h => h) (Or.inr ⟨by rfl, rfl⟩) (by assumption) ?_
      (try simp only [Act.put, List.getElem_toArray, List.getElem_cons_succ, List.getElem_cons_zero, List.setIfInBounds_toArray, List.set_cons_zero, List.set_cons_succ])
      refine wpAnyH_take (i := 12) (v := undef) rfl (by kernel_rfl) (by kernel_rfl) (by kernel_rfl) (fun _ _ _ h => h) (Or.inr ⟨by rfl, rfl⟩) (by assumption) ?_
      (try simp only [Act.put, List.getElem_toArray, List.getElem_cons_succ, List.getElem_cons_zero, List.setIfInBounds_toArray, List.set_cons_zero, List.set_cons_succ])
      refine wpAnyH_take (i := 13) (v := undef) rfl (by kernel_rfl) (by kernel_rfl) (by kernel_rfl) (fun _ _ _ h => h) (Or.inr ⟨by rfl, rfl⟩) (by assumption) ?_
      (try simp only [Act.put, List.getElem_toArray, List.getElem_cons_succ, List.getElem_cons_zero, List.setIfInBounds_toArray, List.set_cons_zero, List.set_cons_succ])
      refine wpAnyH_take (i := 14) (v := undef) rfl (by kernel_rfl) (by kernel_rfl) (by kernel_rfl) (fun _ _ _ h => h) (Or.inr ⟨by rfl, rfl⟩) (by assumption) ?_
      (try simp only [Act.put, List.getElem_toArray, List.getElem_cons_succ, List.getElem_cons_zero, List.setIfInBounds_toArray, List.set_cons_zero, List.set_cons_succ])
      refine wpAnyH_take (i := 15) (v := ?_) rfl (by kernel_rfl) (by kernel_rfl) (by kernel_rfl) (fun _ _ _ h => h) (Or.inl ⟨by rfl, ?_⟩) (by assumption) ?_
      rotate_left
      · intro w hSw; (try dsimp only at hSw); first | (go_simp; done) | (go_simp; with_reducible rfl)
      (try simp only [Act.put, List.getElem_toArray, List.getElem_cons_succ, List.getElem_cons_zero, List.setIfInBounds_toArray, List.set_cons_zero, List.set_cons_succ])
      refine wpAnyH_take (i := 16) (v := ?_) rfl (by kernel_rfl) (by kernel_rfl) (by kernel_rfl) (fun _ _ _ h => h) (Or.inl ⟨by rfl, ?_⟩) (by assumption) ?_
      rotate_left
      · intro w hSw; (try dsimp only at hSw); first | (go_simp; done) | (go_simp; with_reducible rfl)
      (try simp only [Act.put, List.getElem_toArray, List.getElem_cons_succ, List.getElem_cons_zero, List.setIfInBounds_toArray, List.set_cons_zero, List.set_cons_succ])
      refine wpAnyH_take (i := 17) (v := ?_) rfl (by kernel_rfl) (by kernel_rfl) (by kernel_rfl) (fun _ _ _ h => h) (Or.inl ⟨by rfl, ?_⟩) (by assumption) ?_
      rotate_left
      · intro w hSw; (try dsimp only at hSw); first | (go_simp; done) | (go_simp; with_reducible rfl)
      (try simp only [Act.put, List.getElem_toArray, List.getElem_cons_succ, List.getElem_cons_zero, List.setIfInBounds_toArray, List.set_cons_zero, List.set_cons_succ])
      refine wpAnyH_take (i := 18) (v := ?_) rfl (by kernel_rfl) (by kernel_rfl) (by kernel_rfl) (fun _ _ _ h => h) (Or.inl ⟨by rfl, ?_⟩) (by assumption) ?_
      rotate_left
      · intro w hSw; (try dsimp only at hSw); first | (go_simp; done) | (go_simp; with_reducible rfl)
      (try simp only [Act.put, List.getElem_toArray, List.getElem_cons_succ, List.getElem_cons_zero, List.setIfInBounds_toArray, List.set_cons_zero, List.set_cons_succ])
      refine wpAnyH_take (i := 19) (v := ?_) rfl (by kernel_rfl) (by kernel_rfl) (by kernel_rfl) (fun _ _ _ h => h) (Or.inl ⟨by rfl, ?_⟩) (by assumption) ?_
      rotate_left
      · intro w hSw; (try dsimp only at hSw); first | (go_simp; done) | (go_simp; with_reducible rfl)
      (try simp only [Act.put, List.getElem_toArray, List.getElem_cons_succ, List.getElem_cons_zero, List.setIfInBounds_toArray, List.set_cons_zero, List.set_cons_succ])
      refine wpAnyH_take (i := 20) (v := ?_) rfl (by kernel_rfl) (by kernel_rfl) (by kernel_rfl) (fun _ _ _ h => h) (Or.inl ⟨by rfl, ?_⟩) (by assumption) ?_
      rotate_left
      · intro w hSw; (try dsimp only at hSw); first | (go_simp; done) | (go_simp; with_reducible rfl)
      (try simp only [Act.put, List.getElem_toArray, List.getElem_cons_succ, List.getElem_cons_zero, List.setIfInBounds_toArray, List.set_cons_zero, List.set_cons_succ])
      refine wpAnyH_take (i := 21) (v := ?_) rfl (by kernel_rfl) (by kernel_rfl) (by kernel_rfl) (fun _ _ _ h => h) (Or.inl ⟨by rfl, ?_⟩) (by assumption) ?_
      rotate_left
      · intro w hSw; (try dsimp only at hSw); first | (go_simp; done) | (go_simp; with_reducible rfl)
      (try simp only [Act.put, List.getElem_toArray, List.getElem_cons_succ, List.getElem_cons_zero, List.setIfInBounds_toArray, List.set_cons_zero, List.set_cons_succ])
      refine wpAnyH_take (i := 22) (v := ?_) rfl (by kernel_rfl) (by kernel_rfl) (by kernel_rfl) (fun _ _ _ h => h) (Or.inl ⟨by rfl, ?_⟩) (by assumption) ?_
      rotate_left
      · intro w hSw; (try dsimp only at hSw); first | (go_simp; done) | (go_simp; with_reducible rfl)
      (try simp only [Act.put, List.getElem_toArray, List.getElem_cons_succ, List.getElem_cons_zero, List.setIfInBounds_toArray, List.set_cons_zero, List.set_cons_succ])
      refine wpAnyH_take (i := 23) (v := ?_) rfl (by kernel_rfl) (by kernel_rfl) (by kernel_rfl) (fun _ _ _ h => h) (Or.inl ⟨by rfl, ?_⟩) (by assumption) ?_
      rotate_left
      · intro w hSw; (try dsimp only at hSw); first | (go_simp; done) | (go_simp; with_reducible rfl)
      (try simp only [Act.put, List.getElem_toArray, List.getElem_cons_succ, List.getElem_cons_zero, List.setIfInBounds_toArray, List.set_cons_zero, List.set_cons_succ])
      refine wpAnyH_take (i := 24) (v := ?_) rfl (by kernel_rfl) (by kernel_rfl) (by kernel_rfl) (fun _ _ _ h => h) (Or.inl ⟨by rfl, ?_⟩) (by assumption) ?_
      rotate_left
      · intro w hSw; (try dsimp only at hSw); first | (go_simp; done) | (go_simp; with_reducible rfl)
      (try simp only [Act.put, List.getElem_toArray, List.getElem_cons_succ, List.getElem_cons_zero, List.setIfInBounds_toArray, List.set_cons_zero, List.set_cons_succ])
      refine wpAnyH_take (i := 25) (v := ?_) rfl (by kernel_rfl) (by kernel_rfl) (by kernel_rfl) (fun _ _ _ h => h) (Or.inl ⟨by rfl, ?_⟩) (by assumption) ?_
      rotate_left
      · intro w hSw; (try dsimp only at hSw); first | (go_simp; done) | (go_simp; with_reducible rfl)
      (try simp only [Act.put, List.getElem_toArray, List.getElem_cons_succ, List.getElem_cons_zero, List.setIfInBounds_toArray, List.set_cons_zero, List.set_cons_succ])
      refine wpAnyH_take (i := 26) (v := ?_) rfl (by kernel_rfl) (by kernel_rfl) (by kernel_rfl) (fun _ _ _ h => h) (Or.inl ⟨by rfl, ?_⟩) (by assumption) ?_
      rotate_left
      · intro w hSw; (try dsimp only at hSw); first | (go_simp; done) | (go_simp; with_reducible rfl)
      (try simp only [Act.put, List.getElem_toArray, List.getElem_cons_succ, List.getElem_cons_zero, List.setIfInBounds_toArray, List.set_cons_zero, List.set_cons_succ])
      refine wpAnyH_take (i := 29) (v := ?_) rfl (by kernel_rfl) (by kernel_rfl) (by kernel_rfl) (fun _ _ _ h => h) (Or.inl ⟨by rfl, ?_⟩) (by assumption) ?_
      rotate_left
      · intro w hSw; (try dsimp only at hSw); first | (go_simp; done) | (go_simp; with_reducible rfl)
      (try simp only [Act.put, List.getElem_toArray, List.getElem_cons_succ, List.getElem_cons_zero, List.setIfInBounds_toArray, List.set_cons_zero, List.set_cons_succ])
      refine wpAnyH_take (i := 30) (v := ?_) rfl (by kernel_rfl) (by kernel_rfl) (by kernel_rfl) (fun _ _ _ h => h) (Or.inl ⟨by rfl, ?_⟩) (by assumption) ?_
      rotate_left
      · intro w hSw; (try dsimp only at hSw); first | (go_simp; done) | (go_simp; with_reducible rfl)
      (try simp only [Act.put, List.getElem_toArray, List.getElem_cons_succ, List.getElem_cons_zero, List.setIfInBounds_toArray, List.set_cons_zero, List.set_cons_succ])
      refine wpAnyH_take (i := 31) (v := ?_) rfl (by kernel_rfl) (by kernel_rfl) (by kernel_rfl) (fun _ _ _ h => h) (Or.inl ⟨by rfl, ?_⟩) (by assumption) ?_
      rotate_left
      · intro w hSw; (try dsimp only at hSw); first | (go_simp; done) | (go_simp; with_reducible rfl)
      (try simp only [Act.put, List.getElem_toArray, List.getElem_cons_succ, List.getElem_cons_zero, List.setIfInBounds_toArray, List.set_cons_zero, List.set_cons_succ])
      refine wpAnyH_take (i := 32) (v := ?_) rfl (by kernel_rfl) (by kernel_rfl) (by kernel_rfl) (fun _ _ _ h => h) (Or.inl ⟨by rfl, ?_⟩) (by assumption) ?_
      rotate_left
      · intro w hSw; (try dsimp only at hSw); first | (go_simp; done) | (go_simp; with_reducible rfl)
      (try simp only [Act.put, List.getElem_toArray, List.getElem_cons_succ, List.getElem_cons_zero, List.setIfInBounds_toArray, List.set_cons_zero, List.set_cons_succ])
      refine wpAnyH_take (i := 33) (v := ?_) rfl (by kernel_rfl) (by kernel_rfl) (by kernel_rfl) (fun _ _ _ h => h) (Or.inl ⟨by rfl, ?_⟩) (by assumption) ?_
      rotate_left
      · intro w hSw; (try dsimp only at hSw); first | (go_simp; done) | (go_simp; with_reducible rfl)
      (try simp only [Act.put, List.getElem_toArray, List.getElem_cons_succ, List.getElem_cons_zero, List.setIfInBounds_toArray, List.set_cons_zero, List.set_cons_succ])
      refine wpAnyH_ready (rs := [27]) (by kernel_rfl) (by simp) ?_
      refine AllReadyH.cons rfl (fun K hK => ?_) AllReadyH.nil
      go_simp
      refine (HSI.out _).mono ?_
      rintro e w4 ⟨rfl, hb4⟩
      have hb4' := low_to (w0 := w3) hbd hb4
      clear hb4
      clear hHeld
      go_wp2_with fail
      refine hK.out _ _ (HSS.out _ hb4') (fun hHeld => ?_)
      clear hK K
      (try simp only [Act.put, List.getElem_toArray, List.getElem_cons_succ, List.getElem_cons_zero, List.setIfInBounds_toArray, List.set_cons_zero, List.set_cons_succ])
      refine wpAnyH_take (i := 28) (v := ?_) rfl (by kernel_rfl) (by kernel_rfl) (by kernel_rfl) (fun _ _ _ h => h) (Or.inl ⟨by rfl, ?_⟩) (by assumption) ?_
      rotate_left
      · intro w hSw; (try dsimp only at hSw); first | (go_simp; done) | (go_simp; with_reducible rfl)
      (try simp only [Act.put, List.getElem_toArray, List.getElem_cons_succ, List.getElem_cons_zero, List.setIfInBounds_toArray, List.set_cons_zero, List.set_cons_succ])
      refine wpAnyH_take (i := 34) (v := ?_) rfl (by kernel_rfl) (by kernel_rfl) (by kernel_rfl) (fun _ _ _ h => h) (Or.inl ⟨by rfl, ?_⟩) (by assumption) ?_
      rotate_left
      · intro w hSw; (try dsimp only at hSw); first | (go_simp; done) | (go_simp; with_reducible rfl)
      (try simp only [Act.put, List.getElem_toArray, List.getElem_cons_succ, List.getElem_cons_zero, List.setIfInBounds_toArray, List.set_cons_zero, List.set_cons_succ])
      refine wpAnyH_take (i := 35) (v := ?_) rfl (by kernel_rfl) (by kernel_rfl) (by kernel_rfl) (fun _ _ _ h => h) (Or.inl ⟨by rfl, ?_⟩) (by assumption) ?_
      rotate_left
      · intro w hSw; (try dsimp only at hSw); first | (go_simp; done) | (go_simp; with_reducible rfl)
      (try simp only [Act.put, List.getElem_toArray, List.getElem_cons_succ, List.getElem_cons_zero, List.setIfInBounds_toArray, List.set_cons_zero, List.set_cons_succ])
      refine wpAnyH_take (i := 36) (v := ?_) rfl (by kernel_rfl) (by kernel_rfl) (by kernel_rfl) (fun _ _ _ h => h) (Or.inl ⟨by rfl, ?_⟩) (by assumption) ?_
      rotate_left
      · intro w hSw; (try dsimp only at hSw); first | (go_simp; done) | (go_simp; with_reducible rfl)
      (try simp only [Act.put, List.getElem_toArray, List.getElem_cons_succ, List.getElem_cons_zero, List.setIfInBounds_toArray, List.set_cons_zero, List.set_cons_succ])
      refine wpAnyH_take (i := 37) (v := ?_) rfl (by kernel_rfl) (by kernel_rfl) (by kernel_rfl) (fun _ _ _ h => h) (Or.inl ⟨by rfl, ?_⟩) (by assumption) ?_
      rotate_left
      · intro w hSw; (try dsimp only at hSw); first | (go_simp; done) | (go_simp; with_reducible rfl)
      (try simp only [Act.put, List.getElem_toArray, List.getElem_cons_succ, List.getElem_cons_zero, List.setIfInBounds_toArray, List.set_cons_zero, List.set_cons_succ])
      refine wpAnyH_done (by kernel_rfl) ?_ _
      have HBF := Lib.hid (HBW.out.trans (hb4'.mono HBW.out.size))
      clear hb4' hbd HSI HSS HCL
      go_wp2_with fail
      go_ret
      exact ⟨by simp [d1, d3], HBF.out⟩
    · have d3 : decide (0 < by_) = false := decide_eq_false h3
      obtain ⟨k2, k3, s0, s1, q0, q1, q2, q3, q4, q5⟩ := HSS.out w3 (Below.refl _ _)
      go_quiet (fail)
      go_wp2_with fail
      go_ret
      exact ⟨by simp, below_drewN HBW.out _⟩
end
end Go.Proofs.YtbgchhgdlceceaaGreatDoor.Strm
