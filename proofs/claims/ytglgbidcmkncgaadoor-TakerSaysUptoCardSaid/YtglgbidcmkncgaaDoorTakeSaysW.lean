/- The law TakerSays, walked: it returns true. -/
import Derived.Test.YtglgbidcmkncgaaDoorTakeRText
import Derived.Test.YtglgbidcmkncgaaDoorTakeWait
import Derived.Test.YtglgbidcmkncgaaDoorTakeRef
namespace Go.Proofs.YtglgbidcmkncgaaDoor.Subj
open Go.RowKit

theorem wait_both (name filt : ByteArray) (src start ack wait most pend : Int) (push : Bool) (ao : Option Addr) (n cap : Nat) (back : List Int) (nth : Int) (w1 : World) (hn : back.length = n) (hnl : n ≤ 1048576) (hB : Ints w1 (.slice ao n cap) back) :
    ∃ x : Int, (∀ wr, Inv w1 wr → Calls Tryd.prog 44 #[.agg (tCells name filt src start ack wait (.slice ao n cap) most pend push), .int .i64 nth] wr (WaitIs wr x)) ∧ (∀ wr, Inv w1 wr → Calls Tryd.prog 45 #[.agg (tCells name filt src start ack wait (.slice ao n cap) most pend push), .int .i64 nth] wr (WaitIs wr x)) := by
  by_cases h0 : n = 0
  · subst h0
    exact ⟨wait, fun wr _ => waitC_none name filt src start ack wait ao cap most pend push nth wr, fun wr _ => waitR_none name filt src start ack wait ao cap most pend push nth wr⟩
  · obtain ⟨ao', cap', e', _, hat⟩ := hB
    simp only [Value.slice.injEq] at e'
    obtain ⟨rfl, -, rfl⟩ := e'
    obtain ⟨g, off, rfl, hst⟩ := hat (by intro e; rw [e] at hn; simp at hn; omega)
    have hj : min (max nth 1) (n : Int) = ((min (max nth 1) (n : Int) - 1).toNat : Int) + 1 := by omega
    exact ⟨back.getD (min (max nth 1) (n : Int) - 1).toNat 0, fun wr h => waitC_some name filt src start ack wait g off cap n _ back most pend push nth wr (hst.below h.2) hn hnl (by omega) hj, fun wr h => waitR_some name filt src start ack wait g off cap n _ back most pend push nth wr (hst.below h.2) hn hnl (by omega) hj⟩

set_option maxHeartbeats 4000000 in
set_option maxRecDepth 100000 in
theorem takerSays_walk (name filt : ByteArray) (src start ack wait most pend : Int) (push : Bool) (ao : Option Addr) (n cap : Nat) (back : List Int) (nth : Int) (w : World) (hnm : name.size ≤ 1048576) (hfl : filt.size ≤ 1048576) (hn : back.length = n) (hnl : n ≤ 1048576) (hB : Ints w (.slice ao n cap) back) (hm : ML w) (ht : TenLaid w) :
    Calls Tryd.prog 8 #[.agg (tCells name filt src start ack wait (.slice ao n cap) most pend push), .int .i64 nth] w (IsRet w true) := by
  obtain ⟨w1, hw1⟩ : ∃ w1, w1 = w.alloc (.cells (tCells name filt src start ack wait (.slice ao n cap) most pend push) 37) := ⟨_, rfl⟩
  have hI1 : Inv w w1 := by rw [hw1]; exact Inv.made hm _
  have hB1 := ten_alloc w 37 (.string name) (.string filt) (.int .i64 src) (.int .i64 start) (.int .i64 ack) (.int .i64 wait) (.slice ao n cap) (.int .i64 most) (.int .i64 pend) (.bool push)
  rw [← hw1] at hB1
  have hBk := hB.below hI1.2
  have hml : name.size ≤ maxLen := by unfold maxLen; omega
  obtain ⟨t, ht0⟩ : ∃ t : TakerP, t = ⟨name.data.toList, filt.data.toList, src, start, ack, wait, back, most, pend, push⟩ := ⟨_, rfl⟩
  have HREF := Lib.hid (show Calls Tryd.prog 40 #[.agg (tCells name filt src start ack wait (.slice ao n cap) most pend push)] w1 (IntRet w1 (errT t)) from by rw [ht0]; exact takerRef_any name filt src start ack wait most pend push ao n cap back w1 hml hfl hn hBk hI1.1)
  have HCK := Lib.hid (fun wr (h : Inv w1 wr) => (show Calls Tryd.prog 43 #[.agg (tCells name filt src start ack wait (.slice ao n cap) most pend push)] wr (IntRet wr (errT t)) from by rw [ht0]; exact takerCheck_any name filt src start ack wait most pend push ao n cap back wr hml hfl hn (hBk.below h.2) h.1))
  have HPR := Lib.hid (fun wr (h : Inv w1 wr) => (show Calls Tryd.prog 42 #[.agg (tCells name filt src start ack wait (.slice ao n cap) most pend push)] wr (PrintTPost wr (printT t)) from by rw [ht0]; exact printT_any name filt src start ack wait most pend push ao n cap back wr hml hfl hn (hBk.below h.2) h.1 ((ht.inv hI1).inv h)))
  have HTX := Lib.hid (fun wr (h : Inv w1 wr) (q : errT t = 0) => (show Calls Tryd.prog 41 #[.agg (tCells name filt src start ack wait (.slice ao n cap) most pend push)] wr (fun e w' => e = .returned (.string ⟨(textT t).toArray⟩) ∧ Inv wr w') from by rw [ht0] at q ⊢; exact takerText_any name filt src start ack wait most pend push ao n cap back wr hn (hBk.below h.2) h.1 ((ht.inv hI1).inv h) q))
  obtain ⟨x, hxc, hxr⟩ := wait_both name filt src start ack wait most pend push ao n cap back nth w1 hn hnl hBk
  have HXC := Lib.hid hxc; have HXR := Lib.hid hxr
  have HI1 := Lib.hid hI1; have HB1 := Lib.hid hB1
  obtain ⟨y0, y1, y2, y3, y4, y5, y6, y7, y8, y9, yf⟩ := ten hB1
  clear hI1 hB1 hBk hB hm ht hml hn hnl hnm hfl hxc hxr ht0
  obtain ⟨pr, hpr⟩ : ∃ pr, printT t = pr := ⟨_, rfl⟩
  obtain ⟨er, her⟩ : ∃ er, errT t = er := ⟨_, rfl⟩
  obtain ⟨TX, hTX⟩ : ∃ TX : ByteArray, TX = ⟨(if er = 0 then textT t else []).toArray⟩ := ⟨_, rfl⟩
  have hp1 : (⟨pr.1.toArray⟩ : ByteArray) = TX := by
    rw [← hpr, hTX, ← her]; unfold printT
    by_cases e : errT t = 0
    · rw [if_pos e, if_pos e]
    · rw [if_neg e, if_neg e]
  have hp2 : pr.2 = er := by
    rw [← hpr, ← her]; unfold printT
    by_cases e : errT t = 0
    · rw [if_pos e]; exact e.symm
    · rw [if_neg e]
  rw [hpr] at HPR; rw [her] at HREF HCK HTX
  have HPR2 := Lib.hid (fun wr (h : Inv w1 wr) => (show Calls Tryd.prog 42 #[.agg (tCells name filt src start ack wait (.slice ao n cap) most pend push)] wr (fun e w' => e = .returned (.tuple #[.string TX, .int .i64 er]) ∧ Inv wr w') from (HPR.out wr h).mono fun e w' q => ⟨by rw [q.1, hp1, hp2], q.2⟩))
  have HTXE := Lib.hid (fun (q : er = 0) => (by rw [hTX, if_pos q] : TX = ⟨(textT t).toArray⟩))
  have HTXN := Lib.hid (fun (q : er ≠ 0) => (by rw [hTX, if_neg q] : TX = ⟨#[]⟩))
  clear hpr her hTX hp1 hp2 HPR
  go_enter Tryd.func8, Tryd.ntmps8
  go_upto_region 1 with fail
  rw [← hw1]
  clear hw1
  go_wp2_with fail
  refine HREF.out.mono ?_
  rintro e w2 ⟨rfl, hI2⟩
  have HI2 := Lib.hid hI2
  obtain ⟨q0, q1, q2, q3, q4, q5, q6, q7, q8, q9, qf⟩ := ten (hI2.blk HB1.out)
  clear hI2 y0 y1 y2 y3 y4 y5 y6 y7 y8 y9 yf HREF
  go_upto_if 12 with fail
  go_cut [6] from 13 to 14 (fun s6 wx => s6 = .string TX ∧ Inv w1 wx)
  case first =>
    by_cases he : er = 0
    · subst he
      have HT2 := Lib.hid (HTX.out _ HI2.out rfl)
      have HTT := Lib.hid (HTXE.out rfl)
      clear HTX HTXE HTXN HPR2 HCK HXC HXR
      go_wp2_with fail
      refine HT2.out.mono ?_
      rintro e w3 ⟨rfl, hI3⟩
      have HI3 := Lib.hid (HI2.out.thru hI3)
      clear hI3
      go_wp2_with fail
      go_meet
      exact ⟨by rw [HTT.out], HI3.out⟩
    · have hd : ((er : Int) == 0) = false := by simpa using he
      have HTT := Lib.hid (HTXN.out he)
      clear HTX HTXE HTXN HPR2 HCK HXC HXR he
      go_wp2_with fail
      go_meet
      exact ⟨by rw [HTT.out], HI2.out⟩
  case rest =>
  obtain ⟨rfl, hI3⟩ := hcut
  have HI3 := Lib.hid hI3
  clear hI3 HTX HTXE HTXN q0 q1 q2 q3 q4 q5 q6 q7 q8 q9 qf
  obtain ⟨q0, q1, q2, q3, q4, q5, q6, q7, q8, q9, qf⟩ := ten (HI3.out.blk HB1.out)
  go_wp2_with fail
  refine (HPR2.out _ HI3.out).mono ?_
  rintro e w4 ⟨rfl, hI4⟩
  have HI4 := Lib.hid (HI3.out.thru hI4)
  clear hI4 HPR2 q0 q1 q2 q3 q4 q5 q6 q7 q8 q9 qf HI3
  have hB4 := HI4.out.blk HB1.out
  obtain ⟨q0, q1, q2, q3, q4, q5, q6, q7, q8, q9, qf⟩ := ten hB4
  clear hB4
  have hid0 : Inv w1 w4.drew := HI4.out.step (Below.refl _ _).drew
  have HC4 := Lib.hid (HCK.out _ hid0)
  by_cases hnth : 100 < nth
  · go_wp2_with fail
    have dt : decide ((100 : Int) < nth) = true := decide_eq_true hnth
    refine wp_region_held_drew (S := (fun w' => w'.cell? ⟨w.heap.size, 0, none⟩ = some (.string name) ∧ w'.cell? ⟨w.heap.size, 1, none⟩ = some (.string filt) ∧ w'.cell? ⟨w.heap.size, 2, none⟩ = some (.int .i64 src) ∧ w'.cell? ⟨w.heap.size, 3, none⟩ = some (.int .i64 start) ∧ w'.cell? ⟨w.heap.size, 4, none⟩ = some (.int .i64 ack) ∧ w'.cell? ⟨w.heap.size, 5, none⟩ = some (.int .i64 wait) ∧ w'.cell? ⟨w.heap.size, 6, none⟩ = some (.slice ao n cap) ∧ w'.cell? ⟨w.heap.size, 7, none⟩ = some (.int .i64 most) ∧ w'.cell? ⟨w.heap.size, 8, none⟩ = some (.int .i64 pend) ∧ w'.cell? ⟨w.heap.size, 9, none⟩ = some (.bool push))) (by kernel_rfl) ⟨q0, q1, q2, q3, q4, q5, q6, q7, q8, q9⟩ (fun hHeld => ?_)
    refine wpAnyH_take (i := 0) (v := ?_) rfl (by kernel_rfl) (by kernel_rfl) (by kernel_rfl) (fun _ _ _ h => h) (Or.inl ⟨by rfl, ?_⟩) (by assumption) ?_
    rotate_left
    · intro w hSw; (try dsimp only at hSw); first | (go_simp; done) | (go_simp; with_reducible rfl)
    (try simp only [Act.put, List.getElem_toArray, List.getElem_cons_succ, List.getElem_cons_zero, List.setIfInBounds_toArray, List.set_cons_zero, List.set_cons_succ])
    refine wpAnyH_take (i := 2) (v := ?_) rfl (by kernel_rfl) (by kernel_rfl) (by kernel_rfl) (fun _ _ _ h => h) (Or.inl ⟨by rfl, ?_⟩) (by assumption) ?_
    rotate_left
    · intro w hSw; (try dsimp only at hSw); first | (go_simp; done) | (go_simp; with_reducible rfl)
    (try simp only [Act.put, List.getElem_toArray, List.getElem_cons_succ, List.getElem_cons_zero, List.setIfInBounds_toArray, List.set_cons_zero, List.set_cons_succ])
    refine wpAnyH_ready (rs := [1]) (by kernel_rfl) (by simp) ?_
    refine AllReadyH.cons rfl (fun K hK => ?_) AllReadyH.nil
    go_simp
    refine HC4.out.mono ?_
    rintro e w' ⟨rfl, h2⟩
    have hinv : Inv w1 w' := hid0.thru h2
    obtain ⟨k0, k1, k2, k3, k4, k5, k6, k7, k8, k9, kf⟩ := ten (hinv.blk HB1.out)
    clear h2 hHeld
    go_wp2_with fail
    refine hK.out _ _ ⟨k0, k1, k2, k3, k4, k5, k6, k7, k8, k9⟩ (fun hHeld => ?_)
    clear hK K
    (try simp only [Act.put, List.getElem_toArray, List.getElem_cons_succ, List.getElem_cons_zero, List.setIfInBounds_toArray, List.set_cons_zero, List.set_cons_succ])
    refine wpAnyH_take (i := 3) (v := ?_) rfl (by kernel_rfl) (by kernel_rfl) (by kernel_rfl) (fun _ _ _ h => h) (Or.inl ⟨by rfl, ?_⟩) (by assumption) ?_
    rotate_left
    · intro w hSw; (try dsimp only at hSw); first | (go_simp; done) | (go_simp; with_reducible rfl)
    (try simp only [Act.put, List.getElem_toArray, List.getElem_cons_succ, List.getElem_cons_zero, List.setIfInBounds_toArray, List.set_cons_zero, List.set_cons_succ])
    refine wpAnyH_take (i := 4) (v := ?_) rfl (by kernel_rfl) (by kernel_rfl) (by kernel_rfl) (fun _ _ _ h => h) (Or.inl ⟨by rfl, ?_⟩) (by assumption) ?_
    rotate_left
    · intro w hSw; (try dsimp only at hSw); first | (go_simp; done) | (go_simp; with_reducible rfl)
    (try simp only [Act.put, List.getElem_toArray, List.getElem_cons_succ, List.getElem_cons_zero, List.setIfInBounds_toArray, List.set_cons_zero, List.set_cons_succ])
    refine wpAnyH_take (i := 5) (v := ?_) rfl (by kernel_rfl) (by kernel_rfl) (by kernel_rfl) (fun _ _ _ h => h) (Or.inl ⟨by rfl, ?_⟩) (by assumption) ?_
    rotate_left
    · intro w hSw; (try dsimp only at hSw); first | (go_simp; done) | (go_simp; with_reducible rfl)
    (try simp only [Act.put, List.getElem_toArray, List.getElem_cons_succ, List.getElem_cons_zero, List.setIfInBounds_toArray, List.set_cons_zero, List.set_cons_succ])
    refine wpAnyH_take (i := 6) (v := ?_) rfl (by kernel_rfl) (by kernel_rfl) (by kernel_rfl) (fun _ _ _ h => h) (Or.inl ⟨by rfl, ?_⟩) (by assumption) ?_
    rotate_left
    · intro w hSw; (try dsimp only at hSw); first | (go_simp; done) | (go_simp; with_reducible rfl)
    (try simp only [Act.put, List.getElem_toArray, List.getElem_cons_succ, List.getElem_cons_zero, List.setIfInBounds_toArray, List.set_cons_zero, List.set_cons_succ])
    refine wpAnyH_take (i := 7) (v := ?_) rfl (by kernel_rfl) (by kernel_rfl) (by kernel_rfl) (fun _ _ _ h => h) (Or.inl ⟨by rfl, ?_⟩) (by assumption) ?_
    rotate_left
    · intro w hSw; (try dsimp only at hSw); first | (go_simp; done) | (go_simp; with_reducible rfl)
    (try simp only [Act.put, List.getElem_toArray, List.getElem_cons_succ, List.getElem_cons_zero, List.setIfInBounds_toArray, List.set_cons_zero, List.set_cons_succ])
    refine wpAnyH_take (i := 8) (v := ?_) rfl (by kernel_rfl) (by kernel_rfl) (by kernel_rfl) (fun _ _ _ h => h) (Or.inl ⟨by rfl, ?_⟩) (by assumption) ?_
    rotate_left
    · intro w hSw; (try dsimp only at hSw); first | (go_simp; done) | (go_simp; with_reducible rfl)
    (try simp only [Act.put, List.getElem_toArray, List.getElem_cons_succ, List.getElem_cons_zero, List.setIfInBounds_toArray, List.set_cons_zero, List.set_cons_succ])
    refine wpAnyH_take (i := 9) (v := ?_) rfl (by kernel_rfl) (by kernel_rfl) (by kernel_rfl) (fun _ _ _ h => h) (Or.inl ⟨by rfl, ?_⟩) (by assumption) ?_
    rotate_left
    · intro w hSw; (try dsimp only at hSw); first | (go_simp; done) | (go_simp; with_reducible rfl)
    (try simp only [Act.put, List.getElem_toArray, List.getElem_cons_succ, List.getElem_cons_zero, List.setIfInBounds_toArray, List.set_cons_zero, List.set_cons_succ])
    refine wpAnyH_take (i := 10) (v := ?_) rfl (by kernel_rfl) (by kernel_rfl) (by kernel_rfl) (fun _ _ _ h => h) (Or.inl ⟨by rfl, ?_⟩) (by assumption) ?_
    rotate_left
    · intro w hSw; (try dsimp only at hSw); first | (go_simp; done) | (go_simp; with_reducible rfl)
    (try simp only [Act.put, List.getElem_toArray, List.getElem_cons_succ, List.getElem_cons_zero, List.setIfInBounds_toArray, List.set_cons_zero, List.set_cons_succ])
    refine wpAnyH_take (i := 11) (v := ?_) rfl (by kernel_rfl) (by kernel_rfl) (by kernel_rfl) (fun _ _ _ h => h) (Or.inl ⟨by rfl, ?_⟩) (by assumption) ?_
    rotate_left
    · intro w hSw; (try dsimp only at hSw); first | (go_simp; done) | (go_simp; with_reducible rfl)
    (try simp only [Act.put, List.getElem_toArray, List.getElem_cons_succ, List.getElem_cons_zero, List.setIfInBounds_toArray, List.set_cons_zero, List.set_cons_succ])
    refine wpAnyH_take (i := 12) (v := ?_) rfl (by kernel_rfl) (by kernel_rfl) (by kernel_rfl) (fun _ _ _ h => h) (Or.inl ⟨by rfl, ?_⟩) (by assumption) ?_
    rotate_left
    · intro w hSw; (try dsimp only at hSw); first | (go_simp; done) | (go_simp; with_reducible rfl)
    (try simp only [Act.put, List.getElem_toArray, List.getElem_cons_succ, List.getElem_cons_zero, List.setIfInBounds_toArray, List.set_cons_zero, List.set_cons_succ])
    refine wpAnyH_take (i := 13) (v := ?_) rfl (by kernel_rfl) (by kernel_rfl) (by kernel_rfl) (fun _ _ _ h => h) (Or.inl ⟨by rfl, ?_⟩) (by assumption) ?_
    rotate_left
    · intro w hSw; (try dsimp only at hSw); first | (go_simp; done) | (go_simp; with_reducible rfl)
    (try simp only [Act.put, List.getElem_toArray, List.getElem_cons_succ, List.getElem_cons_zero, List.setIfInBounds_toArray, List.set_cons_zero, List.set_cons_succ])
    refine wpAnyH_take (i := 14) (v := ?_) rfl (by kernel_rfl) (by kernel_rfl) (by kernel_rfl) (fun _ _ _ h => h) (Or.inl ⟨by rfl, ?_⟩) (by assumption) ?_
    rotate_left
    · intro w hSw; (try dsimp only at hSw); first | (go_simp; done) | (go_simp; with_reducible rfl)
    (try simp only [Act.put, List.getElem_toArray, List.getElem_cons_succ, List.getElem_cons_zero, List.setIfInBounds_toArray, List.set_cons_zero, List.set_cons_succ])
    refine wpAnyH_take (i := 15) (v := ?_) rfl (by kernel_rfl) (by kernel_rfl) (by kernel_rfl) (fun _ _ _ h => h) (Or.inl ⟨by rfl, ?_⟩) (by assumption) ?_
    rotate_left
    · intro w hSw; (try dsimp only at hSw); first | (go_simp; done) | (go_simp; with_reducible rfl)
    (try simp only [Act.put, List.getElem_toArray, List.getElem_cons_succ, List.getElem_cons_zero, List.setIfInBounds_toArray, List.set_cons_zero, List.set_cons_succ])
    refine wpAnyH_take (i := 16) (v := ?_) rfl (by kernel_rfl) (by kernel_rfl) (by kernel_rfl) (fun _ _ _ h => h) (Or.inl ⟨by rfl, ?_⟩) (by assumption) ?_
    rotate_left
    · intro w hSw; (try dsimp only at hSw); first | (go_simp; done) | (go_simp; with_reducible rfl)
    (try simp only [Act.put, List.getElem_toArray, List.getElem_cons_succ, List.getElem_cons_zero, List.setIfInBounds_toArray, List.set_cons_zero, List.set_cons_succ])
    refine wpAnyH_take (i := 17) (v := ?_) rfl (by kernel_rfl) (by kernel_rfl) (by kernel_rfl) (fun _ _ _ h => h) (Or.inl ⟨by rfl, ?_⟩) (by assumption) ?_
    rotate_left
    · intro w hSw; (try dsimp only at hSw); first | (go_simp; done) | (go_simp; with_reducible rfl)
    (try simp only [Act.put, List.getElem_toArray, List.getElem_cons_succ, List.getElem_cons_zero, List.setIfInBounds_toArray, List.set_cons_zero, List.set_cons_succ])
    refine wpAnyH_take (i := 18) (v := undef) rfl (by kernel_rfl) (by kernel_rfl) (by kernel_rfl) (fun _ _ _ h => h) (Or.inr ⟨by rfl, rfl⟩) (by assumption) ?_
    (try simp only [Act.put, List.getElem_toArray, List.getElem_cons_succ, List.getElem_cons_zero, List.setIfInBounds_toArray, List.set_cons_zero, List.set_cons_succ])
    refine wpAnyH_take (i := 19) (v := undef) rfl (by kernel_rfl) (by kernel_rfl) (by kernel_rfl) (fun _ _ _ h => h) (Or.inr ⟨by rfl, rfl⟩) (by assumption) ?_
    (try simp only [Act.put, List.getElem_toArray, List.getElem_cons_succ, List.getElem_cons_zero, List.setIfInBounds_toArray, List.set_cons_zero, List.set_cons_succ])
    refine wpAnyH_take (i := 20) (v := undef) rfl (by kernel_rfl) (by kernel_rfl) (by kernel_rfl) (fun _ _ _ h => h) (Or.inr ⟨by rfl, rfl⟩) (by assumption) ?_
    (try simp only [Act.put, List.getElem_toArray, List.getElem_cons_succ, List.getElem_cons_zero, List.setIfInBounds_toArray, List.set_cons_zero, List.set_cons_succ])
    refine wpAnyH_take (i := 21) (v := undef) rfl (by kernel_rfl) (by kernel_rfl) (by kernel_rfl) (fun _ _ _ h => h) (Or.inr ⟨by rfl, rfl⟩) (by assumption) ?_
    (try simp only [Act.put, List.getElem_toArray, List.getElem_cons_succ, List.getElem_cons_zero, List.setIfInBounds_toArray, List.set_cons_zero, List.set_cons_succ])
    refine wpAnyH_take (i := 22) (v := undef) rfl (by kernel_rfl) (by kernel_rfl) (by kernel_rfl) (fun _ _ _ h => h) (Or.inr ⟨by rfl, rfl⟩) (by assumption) ?_
    (try simp only [Act.put, List.getElem_toArray, List.getElem_cons_succ, List.getElem_cons_zero, List.setIfInBounds_toArray, List.set_cons_zero, List.set_cons_succ])
    refine wpAnyH_take (i := 23) (v := undef) rfl (by kernel_rfl) (by kernel_rfl) (by kernel_rfl) (fun _ _ _ h => h) (Or.inr ⟨by rfl, rfl⟩) (by assumption) ?_
    (try simp only [Act.put, List.getElem_toArray, List.getElem_cons_succ, List.getElem_cons_zero, List.setIfInBounds_toArray, List.set_cons_zero, List.set_cons_succ])
    refine wpAnyH_take (i := 24) (v := undef) rfl (by kernel_rfl) (by kernel_rfl) (by kernel_rfl) (fun _ _ _ h => h) (Or.inr ⟨by rfl, rfl⟩) (by assumption) ?_
    (try simp only [Act.put, List.getElem_toArray, List.getElem_cons_succ, List.getElem_cons_zero, List.setIfInBounds_toArray, List.set_cons_zero, List.set_cons_succ])
    refine wpAnyH_take (i := 25) (v := ?_) rfl (by kernel_rfl) (by kernel_rfl) (by kernel_rfl) (fun _ _ _ h => h) (Or.inl ⟨by rfl, ?_⟩) (by assumption) ?_
    rotate_left
    · intro w hSw; (try dsimp only at hSw); first | (go_simp; done) | (go_simp; with_reducible rfl)
    (try simp only [Act.put, List.getElem_toArray, List.getElem_cons_succ, List.getElem_cons_zero, List.setIfInBounds_toArray, List.set_cons_zero, List.set_cons_succ])
    refine wpAnyH_take (i := 26) (v := ?_) rfl (by kernel_rfl) (by kernel_rfl) (by kernel_rfl) (fun _ _ _ h => h) (Or.inl ⟨by rfl, ?_⟩) (by assumption) ?_
    rotate_left
    · intro w hSw; (try dsimp only at hSw); first | (go_simp; done) | (go_simp; with_reducible rfl)
    (try simp only [Act.put, List.getElem_toArray, List.getElem_cons_succ, List.getElem_cons_zero, List.setIfInBounds_toArray, List.set_cons_zero, List.set_cons_succ])
    refine wpAnyH_take (i := 27) (v := ?_) rfl (by kernel_rfl) (by kernel_rfl) (by kernel_rfl) (fun _ _ _ h => h) (Or.inl ⟨by rfl, ?_⟩) (by assumption) ?_
    rotate_left
    · intro w hSw; (try dsimp only at hSw); first | (go_simp; done) | (go_simp; with_reducible rfl)
    (try simp only [Act.put, List.getElem_toArray, List.getElem_cons_succ, List.getElem_cons_zero, List.setIfInBounds_toArray, List.set_cons_zero, List.set_cons_succ])
    refine wpAnyH_done (by kernel_rfl) ?_ _
    have HFI := Lib.hid (HI1.out.thru hinv)
    go_wp2
    go_ret
    exact ⟨by simp, HFI.out⟩
  · go_wp2_with fail
    have h100 : ¬ (100 : Int) < nth := by omega
    have dn : decide ((100 : Int) < nth) = false := decide_eq_false h100
    go_region_held3 (fun w' => w'.cell? ⟨w.heap.size, 0, none⟩ = some (.string name) ∧ w'.cell? ⟨w.heap.size, 1, none⟩ = some (.string filt) ∧ w'.cell? ⟨w.heap.size, 2, none⟩ = some (.int .i64 src) ∧ w'.cell? ⟨w.heap.size, 3, none⟩ = some (.int .i64 start) ∧ w'.cell? ⟨w.heap.size, 4, none⟩ = some (.int .i64 ack) ∧ w'.cell? ⟨w.heap.size, 5, none⟩ = some (.int .i64 wait) ∧ w'.cell? ⟨w.heap.size, 6, none⟩ = some (.slice ao n cap) ∧ w'.cell? ⟨w.heap.size, 7, none⟩ = some (.int .i64 most) ∧ w'.cell? ⟨w.heap.size, 8, none⟩ = some (.int .i64 pend) ∧ w'.cell? ⟨w.heap.size, 9, none⟩ = some (.bool push)) (first | (with_reducible exact ⟨k0, k1, k2, k3, k4, k5, k6, k7, k8, k9⟩) | (with_reducible exact ⟨q0, q1, q2, q3, q4, q5, q6, q7, q8, q9⟩) | go_keep)
      (first
        | (go_at_call 43; ((with_reducible refine HC4.out.mono ?_); rintro e w' ⟨rfl, h2⟩; have hinv : Inv w1 w' := hid0.thru h2; obtain ⟨k0, k1, k2, k3, k4, k5, k6, k7, k8, k9, kf⟩ := ten (hinv.blk HB1.out); clear h2))
        | (go_at_call 44; ((refine (HXC.out _ (by assumption)).mono ?_); rintro e w' ⟨rfl, h2⟩; have hinv : Inv w1 w' := Inv.step (by assumption) h2; obtain ⟨k0, k1, k2, k3, k4, k5, k6, k7, k8, k9, kf⟩ := ten (hinv.blk HB1.out); clear h2))
        | (go_at_call 45; ((refine (HXR.out _ (by assumption)).mono ?_); rintro e w' ⟨rfl, h2⟩; have hinv : Inv w1 w' := Inv.step (by assumption) h2; obtain ⟨k0, k1, k2, k3, k4, k5, k6, k7, k8, k9, kf⟩ := ten (hinv.blk HB1.out); clear h2)))
    all_goals
      have HFI := Lib.hid (HI1.out.thru hinv)
      go_wp2
      go_ret
      exact ⟨by simp, HFI.out⟩
end Go.Proofs.YtglgbidcmkncgaaDoor.Subj
