/- The law TakerBack, walked: it returns true. -/
import Derived.Test.YtglgbidcmkncgaaDoorTakeBPlain
import Derived.Test.YtglgbidcmkncgaaDoorTakeBPre
namespace Go.Proofs.YtglgbidcmkncgaaDoor.Subj
open Go.RowKit

theorem itoa_five : Lib.itoa 5 = [53] := by
  unfold Lib.itoa
  rw [if_neg (by decide)]
  show Lib.decDigits 5 = _
  rw [Lib.decDigits, dif_pos (by decide)]
  rfl

theorem lit_printT : printT ⟨[99], [97], 0, 0, 2, 5, [], 0, 0, false⟩ = ([99, 32, 97, 32, 119, 97, 105, 116, 61, 53], 0) := by
  have h1 : errT ⟨[99], [97], 0, 0, 2, 5, [], 0, 0, false⟩ = 0 := by decide
  unfold printT
  rw [if_pos h1, textT_flat]
  simp [flatS, fromWs, ackWs, numWs, backWs, pushWs, waitE, itoa_five]

theorem lit_ints (w : World) : Ints w (.slice none 0 0) [] := ⟨none, 0, rfl, Nat.le_refl _, fun h => absurd rfl h⟩

/-- What is printed, if nothing is wrong. -/
theorem printT_zero {t : TakerP} {x : List UInt8} (h : printT t = (x, 0)) : errT t = 0 ∧ x = textT t := by
  unfold printT at h
  split at h
  · rename_i h1
    simp only [Prod.mk.injEq, and_true] at h
    exact ⟨h1, h.symm⟩
  · rename_i h1
    simp only [Prod.mk.injEq] at h
    exact absurd h.2 h1

/-- What is read, if nothing is wrong. -/
theorem ParseTPost.ok {W w : World} {t : TakerP} {e : Ending} (h : ParseTPost W (some t, 0) e w) :
    Inv W w ∧ ∃ (nm ft : ByteArray) (bo : Option Addr) (cap : Nat), e = .returned (.tuple #[.agg (tCells nm ft t.src t.start t.ack t.wait (.slice bo t.back.length cap) t.most t.pend t.push), .int .i64 0]) ∧ nm.data.toList = t.name ∧ ft.data.toList = t.filt ∧ Ints w (.slice bo t.back.length cap) t.back := by
  obtain ⟨hI, nm, ft, src, start, ack, wait, vb, most, pend, push, rfl, h1, h2, rfl, rfl, rfl, rfl, h3, rfl, rfl, rfl⟩ := h
  obtain ⟨bo, cap, rfl, hh⟩ := h3
  exact ⟨hI, nm, ft, bo, cap, rfl, h1, h2, ⟨bo, cap, rfl, hh⟩⟩

theorem ParseTPost.bad {W w : World} {er : Nat} {e : Ending} (h : ParseTPost W (none, er) e w) :
    Inv W w ∧ e = .returned (.tuple #[.agg (tCells ⟨#[]⟩ ⟨#[]⟩ 0 0 0 0 (.slice none 0 0) 0 0 false), .int .i64 er]) := by
  obtain ⟨hI, nm, ft, src, start, ack, wait, vb, most, pend, push, rfl, rfl, rfl, rfl, rfl, rfl, rfl, rfl, rfl, rfl, rfl⟩ := h
  exact ⟨hI, rfl⟩

theorem parseT_ways (s : List UInt8) : (∃ p, parseT s = (some p, 0)) ∨ ∃ er, er ≠ 0 ∧ parseT s = (none, er) := by
  have hans : ∀ E, (∃ p, ansT E = (some p, 0)) ∨ ∃ er, er ≠ 0 ∧ ansT E = (none, er) := by
    intro E
    unfold ansT
    split
    · split
      · exact .inl ⟨_, rfl⟩
      · rename_i h; exact .inr ⟨_, h, rfl⟩
    · exact .inr ⟨_, by decide, rfl⟩
  unfold parseT
  split
  · exact .inr ⟨_, by decide, rfl⟩
  · split
    · exact hans _
    · exact .inr ⟨_, by decide, rfl⟩

set_option maxHeartbeats 4000000 in
set_option maxRecDepth 100000 in
theorem takerBack_walk (name filt : ByteArray) (src start ack wait most pend : Int) (push : Bool) (ao : Option Addr) (n cap : Nat) (back : List Int) (s : ByteArray) (w : World) (hnm : name.size ≤ 1048576) (hfl : filt.size ≤ 1048576) (hn : back.length = n) (hnl : n ≤ 1048576) (hB : Ints w (.slice ao n cap) back) (hs : s.size ≤ 1048576) (hm : ML w) (ht : TenLaid w) :
    Calls Tryd.prog 11 #[.agg (tCells name filt src start ack wait (.slice ao n cap) most pend push), .string s] w (IsRet w true) := by
  obtain ⟨w1, hw1⟩ : ∃ w1, w1 = w.alloc (.cells (tCells name filt src start ack wait (.slice ao n cap) most pend push) 37) := ⟨_, rfl⟩
  have hI1 : Inv w w1 := by rw [hw1]; exact Inv.made hm _
  have hB1 := ten_alloc w 37 (.string name) (.string filt) (.int .i64 src) (.int .i64 start) (.int .i64 ack) (.int .i64 wait) (.slice ao n cap) (.int .i64 most) (.int .i64 pend) (.bool push)
  rw [← hw1] at hB1
  have hS1 := hB.below hI1.2
  have hp := printT_any ⟨#[99]⟩ ⟨#[97]⟩ 0 0 2 5 0 0 false none 0 0 [] w1 (by decide) (by decide) rfl (lit_ints _) hI1.1 (ht.inv hI1)
  have hlit : printT ⟨(⟨#[99]⟩ : ByteArray).data.toList, (⟨#[97]⟩ : ByteArray).data.toList, 0, 0, 2, 5, [], 0, 0, false⟩ = ([99, 32, 97, 32, 119, 97, 105, 116, 61, 53], 0) := lit_printT
  rw [hlit] at hp
  have hml : name.size ≤ maxLen := by unfold maxLen; omega
  have HP := Lib.hid hp; have HI1 := Lib.hid hI1; have HB1 := Lib.hid hB1; have HS1 := Lib.hid hS1
  have HPR := Lib.hid (fun wr (h : Inv w wr) (q : Ints wr (.slice ao n cap) back) => printT_any name filt src start ack wait most pend push ao n cap back wr hml hfl hn q h.1 (ht.inv h))
  have HPA := Lib.hid (fun wr (h : Inv w wr) (t : ByteArray) (q : t.size ≤ 1048576) => parseT_any t wr (by unfold maxLen; omega) h.1)
  have HT := Lib.hid ht; have HN := Lib.hid hn; have HS := Lib.hid hs
  clear hp hlit hI1 hB1 hS1 hB hm ht hnm hfl hml hnl hs hn
  go_enter Tryd.func11, Tryd.ntmps11
  go_upto_region 1 with fail
  rw [← hw1]
  have HW1 := Lib.hid hw1
  clear hw1
  go_wp2_with fail
  refine HP.out.mono ?_
  rintro e w3 ⟨rfl, hI3⟩
  have HB3 := Lib.hid (hI3.blk HB1.out)
  have HS3 := Lib.hid (HS1.out.below hI3.2)
  have HI3 := Lib.hid (HI1.out.thru hI3)
  clear hI3 HB1 HS1 HI1 HP
  obtain ⟨y0, y1, y2, y3, y4, y5, y6, y7, y8, y9, yf⟩ := ten HB3.out
  go_wp2_with fail
  have HPR3 := Lib.hid (HPR.out _ HI3.out HS3.out)
  clear HPR
  obtain ⟨pr, hpr⟩ : ∃ pr, printT ⟨name.data.toList, filt.data.toList, src, start, ack, wait, back, most, pend, push⟩ = pr := ⟨_, rfl⟩
  rw [hpr] at HPR3
  obtain ⟨t, er⟩ := pr
  refine HPR3.out.mono ?_
  rintro e w4 ⟨rfl, hI4⟩
  have HB4 := Lib.hid (hI4.blk HB3.out)
  have HS4 := Lib.hid (HS3.out.below hI4.2)
  have HI4 := Lib.hid (HI3.out.thru hI4)
  have HPRE := Lib.hid hpr
  clear hI4 HB3 HS3 HI3 HPR3 hpr y0 y1 y2 y3 y4 y5 y6 y7 y8 y9 yf
  go_upto_if 31 with fail
  go_cut [] (fun wx => Inv w wx)
  case first =>
    by_cases he : er = 0
    · subst he
      obtain ⟨f1, f3⟩ := printT_zero HPRE.out
      have hpt : parseT t = (some ⟨name.data.toList, filt.data.toList, src, start, ack, wait, back, most, pend, push⟩, 0) := by rw [f3]; exact parseT_print f1
      have hlen : t.length ≤ 1024 := by rw [f3]; exact textT_len f1
      have hpa : Calls Tryd.prog 20 #[.string ⟨t.toArray⟩] w4 (ParseTPost w4 (some ⟨name.data.toList, filt.data.toList, src, start, ack, wait, back, most, pend, push⟩, 0)) := by
        have := HPA.out _ HI4.out ⟨t.toArray⟩ (by show t.toArray.size ≤ _; rw [List.size_toArray]; omega)
        rw [show parseT (⟨t.toArray⟩ : ByteArray).data.toList = _ from hpt] at this
        exact this
      have hfl : back.length ≤ 9223372036854775807 := by have := (errT_facts f1).2.2.1; simp only at this; omega
      have HPA4 := Lib.hid hpa; have HFL := Lib.hid hfl
      clear hpa hpt hlen f1 f3 hfl HPRE HPA
      go_wp2_with fail
      refine HPA4.out.mono ?_
      intro e w5 hpost
      obtain ⟨hI5, nm, ft, bo, cap', rfl, hn', hf', hS'⟩ := hpost.ok
      simp only at hn' hf' hS'
      obtain rfl : name = nm := bytes_eqT hn'.symm
      obtain rfl : filt = ft := bytes_eqT hf'.symm
      obtain ⟨w6, hw6⟩ : ∃ w6, w6 = w5.alloc (.cells (tCells name filt src start ack wait (.slice bo back.length cap') most pend push) 37) := ⟨_, rfl⟩
      have hB6 := ten_alloc w5 37 (.string name) (.string filt) (.int .i64 src) (.int .i64 start) (.int .i64 ack) (.int .i64 wait) (.slice bo back.length cap') (.int .i64 most) (.int .i64 pend) (.bool push)
      rw [← hw6] at hB6
      have hb6 : Below w5.heap.size w5 w6 := by rw [hw6]; go_grown
      have hA6 := (hI5.step hb6).blk HB4.out
      have HSA := Lib.hid (HS4.out.below (hI5.step hb6).2); have HSB := Lib.hid (hS'.below hb6)
      have HI6 := Lib.hid (HI4.out.thru (hI5.step hb6))
      obtain ⟨y0, y1, y2, y3, y4, y5, y6, y7, y8, y9, yf⟩ := ten hA6
      obtain ⟨z0, z1, z2, z3, z4, z5, z6, z7, z8, z9, zf⟩ := ten hB6
      clear hn' hf' hS' hB6 hA6 hb6 hI5 hpost HB4 HS4 HI4 HPA4
      go_upto_region 7 with fail
      rw [← hw6]
      clear hw6
      go_wp2_with fail
      refine (sameT_true _ _ _ _ _ _ _ _ _ _ _ _ _ HFL.out HSB.out HSA.out HI6.out.1).mono ?_
      rintro e w7 ⟨rfl, hI7⟩
      have HI7 := Lib.hid (HI6.out.thru hI7)
      clear hI7 HI6 HSA HSB y0 y1 y2 y3 y4 y5 y6 y7 y8 y9 z0 z1 z2 z3 z4 z5 z6 z7 z8 z9 yf zf
      go_wp2_with fail
      go_meet
      exact HI7.out
    · have hd : ((er : Int) == 0) = false := by simpa using he
      go_wp2_with fail
      go_meet
      exact HI4.out
  case rest =>
    have HIC := Lib.hid hcut
    clear hcut
    have hpa := HPA.out _ HIC.out s HS.out
    clear HPA HPRE HB4 HS4 HI4 HS
    rcases parseT_ways s.data.toList with ⟨⟨nl, fl, src2, start2, ack2, wait2, back2, most2, pend2, push2⟩, hp⟩ | ⟨er, her, hp⟩
    · obtain ⟨c1, c2⟩ := printT_parse hp
      rw [hp] at hpa
      have HPA := Lib.hid hpa
      have HC := Lib.hid (⟨c1, c2⟩ : textT ⟨nl, fl, src2, start2, ack2, wait2, back2, most2, pend2, push2⟩ = s.data.toList ∧ errT ⟨nl, fl, src2, start2, ack2, wait2, back2, most2, pend2, push2⟩ = 0)
      clear hpa hp c1 c2
      go_wp2_with fail
      refine HPA.out.mono ?_
      intro e w5 hpost
      obtain ⟨hI5, nm, ft, bo, cap', rfl, hn', hf', hS'⟩ := hpost.ok
      obtain ⟨c1, c2⟩ := HC.out
      simp only at hn' hf' hS'
      subst hn' hf'
      obtain ⟨g1, g2, g3, _⟩ := errT_facts c2
      have hnz : nm.size ≤ maxLen := by have := (name_facts g1).2; unfold maxLen; simp at this; omega
      have hfz : ft.size ≤ 1048576 := by have := (filter_facts g2).2; simp at this; omega
      obtain ⟨w6, hw6⟩ : ∃ w6, w6 = w5.alloc (.cells (tCells nm ft src2 start2 ack2 wait2 (.slice bo back2.length cap') most2 pend2 push2) 37) := ⟨_, rfl⟩
      have hB6 := ten_alloc w5 37 (.string nm) (.string ft) (.int .i64 src2) (.int .i64 start2) (.int .i64 ack2) (.int .i64 wait2) (.slice bo back2.length cap') (.int .i64 most2) (.int .i64 pend2) (.bool push2)
      rw [← hw6] at hB6
      have hb6 : Below w5.heap.size w5 w6 := by rw [hw6]; go_grown
      have hI6 := HIC.out.thru (hI5.step hb6)
      have hS6 := hS'.below hb6
      have hpr := printT_any nm ft src2 start2 ack2 wait2 most2 pend2 push2 bo back2.length cap' back2 w6 hnz hfz rfl hS6 hI6.1 (HT.out.inv hI6)
      have hprr : printT ⟨nm.data.toList, ft.data.toList, src2, start2, ack2, wait2, back2, most2, pend2, push2⟩ = (s.data.toList, 0) := by
        unfold printT; rw [if_pos c2, c1]
      rw [hprr] at hpr
      have HB6 := Lib.hid hB6; have HI6 := Lib.hid hI6; have HS6 := Lib.hid hS6; have HPR6 := Lib.hid hpr
      have HCK := Lib.hid (fun wr (h : Inv w6 wr) => (by have := takerCheck_any nm ft src2 start2 ack2 wait2 most2 pend2 push2 bo back2.length cap' back2 wr hnz hfz rfl (hS6.below h.2) h.1; rw [show takerErr nm.data.toList ft.data.toList src2 start2 ack2 wait2 back2 most2 pend2 = 0 from c2] at this; exact this : Calls Tryd.prog 43 #[.agg (tCells nm ft src2 start2 ack2 wait2 (.slice bo back2.length cap') most2 pend2 push2)] wr (IntRet wr 0)))
      obtain ⟨y0, y1, y2, y3, y4, y5, y6, y7, y8, y9, yf⟩ := ten hB6
      clear hpr hprr hS6 hI6 hb6 hB6 hI5 hS' hpost c1 c2 g1 g2 g3 hnz hfz HC HPA HIC
      go_upto_region 10 with fail
      rw [← hw6]
      clear hw6
      go_wp2_with fail
      refine HPR6.out.mono ?_
      rintro e w7 ⟨rfl, hI7⟩
      have hB7 := hI7.blk HB6.out
      have HI7 := Lib.hid hI7
      have HCK7 := Lib.hid (HCK.out _ hI7)
      clear hI7 y0 y1 y2 y3 y4 y5 y6 y7 y8 y9 yf HB6 HS6 HPR6 HCK
      obtain ⟨y0, y1, y2, y3, y4, y5, y6, y7, y8, y9, yf⟩ := ten hB7
      clear hB7
      go_wp2_with fail
      refine HCK7.out.mono ?_
      rintro e w8 ⟨rfl, hI8⟩
      have HI8 := Lib.hid (HI6.out.thru (HI7.out.thru hI8))
      clear hI8 y0 y1 y2 y3 y4 y5 y6 y7 y8 y9 yf HI7 HI6 HCK7
      go_wp2
      go_ret
      exact ⟨by simp, HI8.out⟩
    · rw [hp] at hpa
      have hd : ((er : Int) != 0) = true := by simpa using her
      have HPA := Lib.hid hpa
      clear hpa hp her
      go_wp2_with fail
      refine HPA.out.mono ?_
      intro e w5 hpost
      obtain ⟨hI5, rfl⟩ := hpost.bad
      have HI5 := Lib.hid (HIC.out.thru hI5)
      clear hI5 hpost HPA HIC
      go_wp2
      go_ret
      exact ⟨by simp, HI5.out.step (by go_grown)⟩

end Go.Proofs.YtglgbidcmkncgaaDoor.Subj
