/- Parts of the proof, joined: What is wrong with a consumer's plan: taker.Check and rillref.Taker, walked. -/
import Derived.Test.YtapmhpnkpjgefaaDoorConsumerRulesUptoM23
namespace Go.Proofs.YtapmhpnkpjgefaaDoor.Subj
open Go.RowKit

/-- The ways of the answer. -/
theorem takerErr_ways (name filt : List UInt8) (src start ack wait : Int) (back : List Int) (most pend : Int) :
    (nameOk name = false ∧ takerErr name filt src start ack wait back most pend = 3) ∨
    (nameOk name = true ∧ err true filt ≠ 0 ∧ takerErr name filt src start ack wait back most pend = err true filt) ∨
    (nameOk name = true ∧ err true filt = 0 ∧ 5 < back.length ∧ takerErr name filt src start ack wait back most pend = 2) ∨
    (nameOk name = true ∧ err true filt = 0 ∧ ¬ 5 < back.length ∧ takerErr name filt src start ack wait back most pend = if argsOk src start ack wait back most pend = true then 0 else 1) := by
  unfold takerErr
  cases h1 : nameOk name with
  | false => exact .inl ⟨rfl, rfl⟩
  | true =>
    rw [if_pos rfl]
    by_cases h2 : err true filt = 0
    · rw [if_pos h2]
      by_cases h3 : 5 < back.length
      · rw [if_pos h3]; exact .inr (.inr (.inl ⟨rfl, h2, h3, rfl⟩))
      · rw [if_neg h3]; exact .inr (.inr (.inr ⟨rfl, h2, h3, rfl⟩))
    · rw [if_neg h2]; exact .inr (.inl ⟨rfl, h2, rfl⟩)

set_option maxHeartbeats 4000000 in
set_option maxRecDepth 100000 in
theorem takerCheck_any (name filt : ByteArray) (src start ack wait most pend : Int) (push : Bool) (ao : Option Addr) (n cap : Nat) (back : List Int) (w : World) (hnm : name.size ≤ maxLen) (hfl : filt.size ≤ 1048576) (hn : back.length = n) (hB : Ints w (.slice ao n cap) back) (hm : ML w) :
    Calls Tryd.prog 15 #[.agg #[.string name, .string filt, .int .i64 src, .int .i64 start, .int .i64 ack, .int .i64 wait, .slice ao n cap, .int .i64 most, .int .i64 pend, .bool push]] w (IntRet w (takerErr name.data.toList filt.data.toList src start ack wait back most pend)) := by
  have hways := takerErr_ways name.data.toList filt.data.toList src start ack wait back most pend
  generalize takerErr name.data.toList filt.data.toList src start ack wait back most pend = r at *
  obtain ⟨w1, hw1⟩ : ∃ w1, w1 = w.alloc (.cells #[.string name, .string filt, .int .i64 src, .int .i64 start, .int .i64 ack, .int .i64 wait, .slice ao n cap, .int .i64 most, .int .i64 pend, .bool push] 24) := ⟨_, rfl⟩
  have hI1 : Inv w w1 := by rw [hw1]; exact Inv.made hm _
  have hB1 := ten_alloc w 24 (.string name) (.string filt) (.int .i64 src) (.int .i64 start) (.int .i64 ack) (.int .i64 wait) (.slice ao n cap) (.int .i64 most) (.int .i64 pend) (.bool push)
  rw [← hw1] at hB1
  have hBk := hB.below hI1.2
  rw [hn] at hways
  have HNM := Lib.hid (fun w => named_any name w hnm)
  have HFI := Lib.hid (filterN_inv filt hfl w1 (Inv.refl hI1.1))
  have HTM := Lib.hid (fun (q : ¬ 5 < n) wr (h : Inv w1 wr) => times_any name filt src start ack wait most pend push ao n cap back wr hn (by omega) (hBk.below h.2) h.1)
  have HIR := Lib.hid (Inv.refl hI1.1)
  have HI1 := Lib.hid hI1; have HB1 := Lib.hid hB1
  have HWS := Lib.hid hways
  clear hI1 hB1 hBk hB hm hn hnm hfl hways
  obtain ⟨y0, y1, y2, y3, y4, y5, y6, y7, y8, y9, yf⟩ := ten HB1.out
  go_enter Tryd.func15, Tryd.ntmps15
  go_upto_region 1 with fail
  rw [← hw1]
  clear hw1
  rcases HWS.out with ⟨h1, rfl⟩ | ⟨h1, h2, h3⟩ | ⟨h1, h2, h3, rfl⟩ | ⟨h1, h2, h3, h4⟩
  · rw [h1] at HNM
    clear h1 HFI HTM HWS
    go_wp2_with (go_at_call 36; refine (HNM.out _).mono ?_; rintro e w' ⟨rfl, rfl⟩)
    go_ret
    exact ⟨rfl, HI1.out⟩
  · have hd : ((err true filt.data.toList : Int) != 0) = true := by simpa using h2
    rw [h1] at HNM
    rw [← h3] at HFI hd
    clear h1 h2 h3 HTM HWS
    go_wp2_with (go_at_call 36; refine (HNM.out _).mono ?_; rintro e w' ⟨rfl, rfl⟩)
    refine HFI.out.mono ?_
    rintro e w2 ⟨rfl, hI2⟩
    have HI2 := Lib.hid hI2
    clear hI2
    go_wp2
    go_ret
    exact ⟨rfl, HI1.out.thru HI2.out⟩
  · rw [h1] at HNM
    rw [h2] at HFI
    have h5 : (5 : Int) < n := by omega
    clear h1 h2 h3 HTM HWS
    go_wp2_with (go_at_call 36; refine (HNM.out _).mono ?_; rintro e w' ⟨rfl, rfl⟩)
    refine HFI.out.mono ?_
    rintro e w2 ⟨rfl, hI2⟩
    have HI2 := Lib.hid hI2
    clear y0 y1 y2 y3 y4 y5 y6 y7 y8 y9 yf
    obtain ⟨y0, y1, y2, y3, y4, y5, y6, y7, y8, y9, yf⟩ := ten (hI2.blk HB1.out)
    clear hI2
    go_wp2
    go_ret
    exact ⟨rfl, HI1.out.thru HI2.out⟩
  · rw [h1] at HNM
    rw [h2] at HFI
    have h5 : ¬ (5 : Int) < n := by omega
    have HT := Lib.hid (HTM.out h3)
    have H4 := Lib.hid h4
    clear h1 h2 h3 h4 HTM HWS
    go_wp2_with (go_at_call 36; refine (HNM.out _).mono ?_; rintro e w' ⟨rfl, rfl⟩)
    refine HFI.out.mono ?_
    rintro e w2 ⟨rfl, hI2⟩
    have HI2 := Lib.hid hI2
    have HT2 := Lib.hid (HT.out _ hI2)
    clear y0 y1 y2 y3 y4 y5 y6 y7 y8 y9 yf
    obtain ⟨y0, y1, y2, y3, y4, y5, y6, y7, y8, y9, yf⟩ := ten (hI2.blk HB1.out)
    clear hI2 HT HFI HNM
    have h4 := H4.out
    clear H4
    unfold argsOk at h4
    have hst : startOk src start = if (src == 3) = true then inB start 1 999999999 else start == 0 := rfl
    have HSRC := Lib.hid fun w => within_any src 0 3 w
    have HACK := Lib.hid fun w => within_any ack 0 2 w
    have HSTA := Lib.hid fun w => within_any start 1 999999999 w
    generalize startOk src start = st at *
    generalize timesOk ack wait back most pend = b4 at *
    generalize inB src 0 3 = b1 at *
    generalize inB ack 0 2 = b2 at *
    generalize inB start 1 999999999 = b3 at *
    cases hs : (src == 3) with
    | true =>
      rw [hs, if_pos rfl] at hst
      subst hst
      cases b1 <;> cases st <;> cases b2 <;> cases b4
      all_goals
        obtain rfl := h4
        go_wp2_with (first
          | (go_at_call 38; (with_reducible first | refine (HSRC.out _).mono ?_ | refine (HACK.out _).mono ?_ | refine (HSTA.out _).mono ?_); rintro e w' ⟨rfl, rfl⟩)
          | (go_at_call 39; refine HT2.out.mono ?_; rintro e w3 ⟨rfl, hI3⟩; have HI3 := Lib.hid hI3; clear hI3))
        go_ret
        first
          | exact ⟨rfl, HI1.out.thru HI2.out⟩
          | exact ⟨rfl, HI1.out.thru (HI2.out.thru HI3.out)⟩
    | false =>
      rw [hs, if_neg (by decide)] at hst
      cases hz : (start == 0) <;> cases b1 <;> cases b2 <;> cases b4
      all_goals
        rw [hz] at hst
        subst hst
        obtain rfl := h4
        go_wp2_with (first
          | (go_at_call 38; (with_reducible first | refine (HSRC.out _).mono ?_ | refine (HACK.out _).mono ?_ | refine (HSTA.out _).mono ?_); rintro e w' ⟨rfl, rfl⟩)
          | (go_at_call 39; refine HT2.out.mono ?_; rintro e w3 ⟨rfl, hI3⟩; have HI3 := Lib.hid hI3; clear hI3))
        go_ret
        first
          | exact ⟨rfl, HI1.out.thru HI2.out⟩
          | exact ⟨rfl, HI1.out.thru (HI2.out.thru HI3.out)⟩
end Go.Proofs.YtapmhpnkpjgefaaDoor.Subj
