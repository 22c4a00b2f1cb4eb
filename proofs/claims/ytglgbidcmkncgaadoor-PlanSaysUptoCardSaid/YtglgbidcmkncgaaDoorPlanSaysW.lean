/- The law PlanSays, walked: it returns true. -/
import Derived.Test.YtglgbidcmkncgaaDoorPlanSay2
import Derived.Test.YtglgbidcmkncgaaDoorPlanText
namespace Go.Proofs.YtglgbidcmkncgaaDoor.Subj
open Go.RowKit

set_option maxHeartbeats 4000000 in
set_option maxRecDepth 100000 in
theorem planSays_walk (name : ByteArray) (ao : Option Addr) (n cap : Nat) (fs : List Tok) (x0 x1 x2 x3 x4 x5 x6 x7 : Int) (w : World) (hnm : name.size ≤ 1048576) (hn : fs.length = n) (hnl : n ≤ 1048576) (hS : Strs w (.slice ao n cap) fs) (hz : Small fs) (hm : ML w) (ht : TenLaid w) (hwl : WordsLaid w) :
    Calls Tryd.prog 9 #[.agg #[.string name, .slice ao n cap, .int .i64 x0, .int .i64 x1, .int .i64 x2, .int .i64 x3, .int .i64 x4, .int .i64 x5, .int .i64 x6, .int .i64 x7]] w (IsRet w true) := by
  obtain ⟨w1, hw1⟩ : ∃ w1, w1 = w.alloc (.cells #[.string name, .slice ao n cap, .int .i64 x0, .int .i64 x1, .int .i64 x2, .int .i64 x3, .int .i64 x4, .int .i64 x5, .int .i64 x6, .int .i64 x7] 29) := ⟨_, rfl⟩
  have hI1 : Inv w w1 := by rw [hw1]; exact Inv.made hm _
  have hB1 := ten_alloc w 29 (.string name) (.slice ao n cap) (.int .i64 x0) (.int .i64 x1) (.int .i64 x2) (.int .i64 x3) (.int .i64 x4) (.int .i64 x5) (.int .i64 x6) (.int .i64 x7)
  rw [← hw1] at hB1
  have hS1 := hS.below hI1.2
  have hml : name.size ≤ maxLen := by unfold maxLen; omega
  have HREF := Lib.hid (refCheck_any name ao n cap fs x0 x1 x2 x3 x4 x5 x6 x7 w1 hml hn hS1 hz hI1.1)
  have HPR := Lib.hid (fun wr (h : Inv w1 wr) => print_any name ao n cap fs x0 x1 x2 x3 x4 x5 x6 x7 wr hml hn hnl (hS1.below h.2) hz h.1 ((ht.inv hI1).inv h))
  have HCK := Lib.hid (fun wr (h : Inv w1 wr) => (check_any name (.slice ao n cap) fs x0 x1 x2 x3 x4 x5 x6 x7 wr hml (hS1.below h.2) hz h.1 : Calls Tryd.prog 48 #[.agg #[.string name, .slice ao n cap, .int .i64 x0, .int .i64 x1, .int .i64 x2, .int .i64 x3, .int .i64 x4, .int .i64 x5, .int .i64 x6, .int .i64 x7]] wr (IntRet wr (planErr name.data.toList fs [x0, x1, x2, x3, x4, x5, x6, x7]))))
  have HTX := Lib.hid (fun wr (h : Inv w1 wr) (q : planErr name.data.toList fs [x0, x1, x2, x3, x4, x5, x6, x7] = 0) => planText_any name ao n cap fs x0 x1 x2 x3 x4 x5 x6 x7 wr q hn (hS1.below h.2) h.1 ((ht.inv hI1).inv h) ((hwl.inv hI1).inv h))
  have HI1 := Lib.hid hI1; have HB1 := Lib.hid hB1
  obtain ⟨y0, y1, y2, y3, y4, y5, y6, y7, y8, y9, yf⟩ := ten hB1
  clear hI1 hB1 hS1 hS hz hm ht hwl hml hn hnl hnm
  obtain ⟨pr, hpr⟩ : ∃ pr, printR name.data.toList fs [x0, x1, x2, x3, x4, x5, x6, x7] = pr := ⟨_, rfl⟩
  obtain ⟨er, her⟩ : ∃ er, planErr name.data.toList fs [x0, x1, x2, x3, x4, x5, x6, x7] = er := ⟨_, rfl⟩
  obtain ⟨tx, htx⟩ : ∃ tx, (if hasComma fs then none else some (printL name.data.toList fs [x0, x1, x2, x3, x4, x5, x6, x7])) = tx := ⟨_, rfl⟩
  rw [hpr] at HPR; rw [her] at HREF HCK HTX; rw [htx] at HTX
  have hways : (er ≠ 0 ∧ pr = ([], er)) ∨ (er = 0 ∧ tx = none ∧ pr = ([], 3)) ∨ (er = 0 ∧ ∃ t, tx = some t ∧ pr = (t, 0)) := by
    rw [← hpr, ← htx]
    unfold printR
    rw [her]
    by_cases e : er = 0
    · cases hc : hasComma fs with
      | true => exact .inr (.inl ⟨e, rfl, by rw [if_pos e]; rfl⟩)
      | false => exact .inr (.inr ⟨e, _, rfl, by rw [if_pos e]; rfl⟩)
    · exact .inl ⟨e, by rw [if_neg e]⟩
  have HWAYS := Lib.hid hways
  clear hways hpr her htx
  go_enter Tryd.func9, Tryd.ntmps9
  go_upto_region 1 with fail
  rw [← hw1]
  clear hw1
  go_wp2_with fail
  refine HREF.out.mono ?_
  rintro e w2 ⟨rfl, hI2⟩
  have HI2 := Lib.hid hI2
  obtain ⟨q0, q1, q2, q3, q4, q5, q6, q7, q8, q9, qf⟩ := ten (hI2.blk HB1.out)
  clear hI2 y0 y1 y2 y3 y4 y5 y6 y7 y8 y9 yf HREF
  go_wp2_with fail
  refine (HPR.out _ HI2.out).mono ?_
  rintro e w3 ⟨rfl, hI3⟩
  have HI3 := Lib.hid (HI2.out.thru hI3)
  obtain ⟨y0, y1, y2, y3, y4, y5, y6, y7, y8, y9, yf⟩ := ten (HI3.out.blk HB1.out)
  clear hI3 HI2 q0 q1 q2 q3 q4 q5 q6 q7 q8 q9 qf HPR
  go_wp2_with fail
  refine (HCK.out _ HI3.out).mono ?_
  rintro e w4 ⟨rfl, hI4⟩
  have HI4 := Lib.hid (HI3.out.thru hI4)
  obtain ⟨q0, q1, q2, q3, q4, q5, q6, q7, q8, q9, qf⟩ := ten (HI4.out.blk HB1.out)
  clear hI4 HI3 y0 y1 y2 y3 y4 y5 y6 y7 y8 y9 yf HCK
  have d0 : ((er : Int) != er) = false := by simp
  rcases HWAYS.out with ⟨he, rfl⟩ | ⟨rfl, rfl, rfl⟩ | ⟨rfl, t, rfl, rfl⟩
  · have dn : ((er : Int) != 0) = true := by simpa using he
    clear he
    go_wp2
    go_ret
    exact ⟨by simp, HI1.out.thru HI4.out⟩
  · have HT4 := Lib.hid (HTX.out _ HI4.out rfl)
    clear HTX HWAYS
    go_wp2_with fail
    refine HT4.out.mono ?_
    rintro e w5 ⟨rfl, hI5⟩
    have HI5 := Lib.hid (HI1.out.thru (HI4.out.thru hI5))
    clear hI5 q0 q1 q2 q3 q4 q5 q6 q7 q8 q9 qf
    go_wp2
    go_ret
    exact ⟨by simp, HI5.out⟩
  · have HT4 := Lib.hid (HTX.out _ HI4.out rfl)
    clear HTX HWAYS
    go_wp2_with fail
    refine HT4.out.mono ?_
    rintro e w5 ⟨rfl, hI5⟩
    have HI5 := Lib.hid (HI1.out.thru (HI4.out.thru hI5))
    clear hI5 q0 q1 q2 q3 q4 q5 q6 q7 q8 q9 qf
    go_wp2
    go_ret
    exact ⟨by simp, HI5.out⟩

end Go.Proofs.YtglgbidcmkncgaaDoor.Subj
