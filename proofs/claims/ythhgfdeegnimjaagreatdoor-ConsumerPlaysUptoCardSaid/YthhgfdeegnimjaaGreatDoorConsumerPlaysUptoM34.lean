/- Parts of the proof, joined: What is wrong with a consumer's plan: rillref.Taker, walked. -/
import Derived.Test.YthhgfdeegnimjaaGreatDoorConsumerPlaysUptoM27
namespace Go.Proofs.YthhgfdeegnimjaaGreatDoor.Subj
open Go.RowKit

theorem refIn (n lo hi : Int) (w : World) : Calls Tryz.prog 28 #[.int .i64 n, .int .i64 lo, .int .i64 hi] w fun e w' => e = .returned (.bool (inB n lo hi)) ∧ w' = w := in_flip n lo hi w

set_option maxHeartbeats 4000000 in
set_option maxRecDepth 100000 in
theorem takerRef_any (name filt : ByteArray) (src start ack wait most pend : Int) (push : Bool) (ao : Option Addr) (n cap : Nat) (back : List Int) (w : World) (hnm : name.size ≤ maxLen) (hfl : filt.size ≤ 1048576) (hn : back.length = n) (hB : Ints w (.slice ao n cap) back) (hm : ML w) :
    Calls Tryz.prog 12 #[.agg #[.string name, .string filt, .int .i64 src, .int .i64 start, .int .i64 ack, .int .i64 wait, .slice ao n cap, .int .i64 most, .int .i64 pend, .bool push]] w (IntRet w (takerErr name.data.toList filt.data.toList src start ack wait back most pend)) := by
  have hways := takerErr_ways name.data.toList filt.data.toList src start ack wait back most pend
  generalize takerErr name.data.toList filt.data.toList src start ack wait back most pend = r at *
  obtain ⟨w1, hw1⟩ : ∃ w1, w1 = w.alloc (.cells #[.string name, .string filt, .int .i64 src, .int .i64 start, .int .i64 ack, .int .i64 wait, .slice ao n cap, .int .i64 most, .int .i64 pend, .bool push] 24) := ⟨_, rfl⟩
  have hI1 : Inv w w1 := by rw [hw1]; exact Inv.made hm _
  have hB1 := ten_alloc w 24 (.string name) (.string filt) (.int .i64 src) (.int .i64 start) (.int .i64 ack) (.int .i64 wait) (.slice ao n cap) (.int .i64 most) (.int .i64 pend) (.bool push)
  rw [← hw1] at hB1
  have hBk := hB.below hI1.2
  rw [hn] at hways
  have HNM := Lib.hid (fun w => refNamed_any name w hnm)
  have HFI := Lib.hid (refFilter_inv filt hfl w1 (Inv.refl hI1.1))
  have HI1 := Lib.hid hI1; have HB1 := Lib.hid hB1; have HBK := Lib.hid hBk; have HN := Lib.hid hn
  have HWS := Lib.hid hways
  clear hI1 hB1 hBk hB hm hn hnm hfl hways
  obtain ⟨y0, y1, y2, y3, y4, y5, y6, y7, y8, y9, yf⟩ := ten HB1.out
  go_enter Tryz.func12, Tryz.ntmps12
  go_upto_region 1 with fail
  rw [← hw1]
  clear hw1
  rcases HWS.out with ⟨h1, rfl⟩ | ⟨h1, h2, h3⟩ | ⟨h1, h2, h3, rfl⟩ | ⟨h1, h2, h3, h4⟩
  · rw [h1] at HNM
    clear h1 HFI HWS
    go_wp2_with (go_at_call 62; refine (HNM.out _).mono ?_; rintro e w' ⟨rfl, rfl⟩)
    go_ret
    exact ⟨rfl, HI1.out⟩
  · have hd : ((err true filt.data.toList : Int) != 0) = true := by simpa using h2
    rw [h1] at HNM
    rw [← h3] at HFI hd
    clear h1 h2 h3 HWS
    go_wp2_with (go_at_call 62; refine (HNM.out _).mono ?_; rintro e w' ⟨rfl, rfl⟩)
    refine HFI.out.mono ?_
    rintro e w2 ⟨rfl, hI2⟩
    have HI2 := Lib.hid hI2
    clear hI2
    go_wp2
    go_ret
    exact ⟨rfl, HI1.out.thru HI2.out⟩
  · rw [h1] at HNM
    rw [h2] at HFI
    have h5 : (5 : Int) < n := by omega
    clear h1 h2 h3 HWS
    go_wp2_with (go_at_call 62; refine (HNM.out _).mono ?_; rintro e w' ⟨rfl, rfl⟩)
    refine HFI.out.mono ?_
    rintro e w2 ⟨rfl, hI2⟩
    have HI2 := Lib.hid hI2
    clear y0 y1 y2 y3 y4 y5 y6 y7 y8 y9 yf
    obtain ⟨y0, y1, y2, y3, y4, y5, y6, y7, y8, y9, yf⟩ := ten (hI2.blk HB1.out)
    clear hI2
    go_wp2
    go_ret
    exact ⟨rfl, HI1.out.thru HI2.out⟩
  · rw [h1] at HNM
    rw [h2] at HFI
    have h5 : ¬ (5 : Int) < n := by omega
    have h5n : n ≤ 5 := by omega
    have H4 := Lib.hid h4
    clear h1 h2 h3 h4 HWS
    go_wp2_with (go_at_call 62; refine (HNM.out _).mono ?_; rintro e w' ⟨rfl, rfl⟩)
    refine HFI.out.mono ?_
    rintro e w2 ⟨rfl, hI2⟩
    have HI2 := Lib.hid hI2
    have HBK2 := Lib.hid (HBK.out.below hI2.2)
    clear y0 y1 y2 y3 y4 y5 y6 y7 y8 y9 yf
    obtain ⟨y0, y1, y2, y3, y4, y5, y6, y7, y8, y9, yf⟩ := ten (hI2.blk HB1.out)
    clear hI2 HFI HNM HBK
    have HSRC := Lib.hid fun w => refIn src 0 3 w
    have HACK := Lib.hid fun w => refIn ack 0 2 w
    have HSTA := Lib.hid fun w => refIn start 1 999999999 w
    have HWAI := Lib.hid fun w => refIn wait 1 100000 w
    have HMOS := Lib.hid fun w => refIn most 0 20 w
    have HPEN := Lib.hid fun w => refIn pend 0 50 w
    have HELT := Lib.hid fun z w => refIn z 1 100000 w
    have h4 := H4.out
    clear H4
    unfold argsOk at h4
    have hst : startOk src start = if (src == 3) = true then inB start 1 999999999 else start == 0 := rfl
    have htm : timesOk ack wait back most pend = if (ack == 0) = true then (wait == 0) && ((n : Int) == 0) && (most == 0) && (pend == 0) else inB wait 1 100000 && inB most 0 20 && inB pend 0 50 && back.all fun z => inB z 1 100000 := by rw [← HN.out]; rfl
    generalize startOk src start = st at *
    generalize timesOk ack wait back most pend = tm at *
    generalize inB src 0 3 = b1 at *
    generalize inB ack 0 2 = b2 at *
    generalize inB start 1 999999999 = b3 at *
    generalize inB wait 1 100000 = b4 at *
    generalize inB most 0 20 = b5 at *
    generalize inB pend 0 50 = b6 at *
    have HR := Lib.hid h4; have HST := Lib.hid hst; have HTM := Lib.hid htm
    clear h4 hst htm
    go_upto_region 8 with fail
    go_cut [4] (fun s4 wx => s4 = .bool (b1 && b2) ∧ w2 = wx)
    case first =>
      clear HR HST HTM
      cases b1 <;> cases b2
      all_goals
        go_wp2_with (go_at_call 28; (with_reducible first | refine (HSRC.out _).mono ?_ | refine (HACK.out _).mono ?_ | refine (HSTA.out _).mono ?_ | refine (HWAI.out _).mono ?_ | refine (HMOS.out _).mono ?_ | refine (HPEN.out _).mono ?_); rintro e w' ⟨rfl, rfl⟩)
        go_meet
        exact ⟨rfl, rfl⟩
    case rest =>
      obtain ⟨rfl, rfl⟩ := hcut
      have hb12 : (b1 && st && b2 && tm) = ((b1 && b2) && st && tm) := by cases b1 <;> cases b2 <;> cases st <;> rfl
      rw [hb12] at HR
      clear hb12
      generalize (b1 && b2) = k1 at *
      go_upto_if 30 with fail
      go_cut [4] (fun s4 wx => s4 = .bool (k1 && st) ∧ w2 = wx)
      case first =>
        have h := HST.out
        clear HR HST HTM
        cases hs : (src == 3) with
        | true =>
          rw [hs, if_pos rfl] at h
          subst h
          cases k1 <;> cases st
          all_goals
            go_wp2_with (go_at_call 28; (with_reducible first | refine (HSRC.out _).mono ?_ | refine (HACK.out _).mono ?_ | refine (HSTA.out _).mono ?_ | refine (HWAI.out _).mono ?_ | refine (HMOS.out _).mono ?_ | refine (HPEN.out _).mono ?_); rintro e w' ⟨rfl, rfl⟩)
            go_meet
            exact ⟨rfl, rfl⟩
        | false =>
          rw [hs, if_neg (by decide)] at h
          cases hz : (start == 0) <;> cases k1
          all_goals
            rw [hz] at h
            subst h
            go_wp2
            go_meet
            exact ⟨rfl, rfl⟩
      case rest =>
        obtain ⟨rfl, rfl⟩ := hcut
        generalize (k1 && st) = k2 at *
        go_upto_if 45 with fail
        go_cut [4] (fun s4 wx => s4 = .bool (k2 && tm) ∧ w2 = wx)
        case first =>
          have h := HTM.out
          clear HR HST HTM
          cases hs : (ack == 0) with
          | true =>
            rw [hs, if_pos rfl] at h
            cases hz1 : (wait == 0) <;> cases hz2 : (most == 0) <;> cases hz3 : (pend == 0) <;> cases hz4 : ((n : Int) == 0) <;> cases k2
            all_goals
              rw [hz1, hz2, hz3, hz4] at h
              subst h
              go_wp2
              go_meet
              exact ⟨rfl, rfl⟩
          | false =>
            rw [hs, if_neg (by decide)] at h
            have HH := Lib.hid h
            clear h
            go_upto_region 14 with fail
            go_cut [4] (fun s4 wx => s4 = .bool (k2 && (b4 && b5 && b6)) ∧ w2 = wx)
            case first =>
              clear HH
              cases k2 <;> cases b4 <;> cases b5 <;> cases b6
              all_goals
                go_wp2_with (go_at_call 28; (with_reducible first | refine (HSRC.out _).mono ?_ | refine (HACK.out _).mono ?_ | refine (HSTA.out _).mono ?_ | refine (HWAI.out _).mono ?_ | refine (HMOS.out _).mono ?_ | refine (HPEN.out _).mono ?_); rintro e w' ⟨rfl, rfl⟩)
                go_meet
                exact ⟨rfl, rfl⟩
            case rest =>
              obtain ⟨rfl, rfl⟩ := hcut
              have h7 : (k2 && tm) = ((k2 && (b4 && b5 && b6)) && back.all fun z => inB z 1 100000) := by rw [HH.out]; cases k2 <;> rfl
              generalize (k2 && tm) = fin at *
              generalize (k2 && (b4 && b5 && b6)) = k3 at *
              have H7 := Lib.hid h7
              clear h7 HH
              go_wp2_with fail
              go_loop [4, 5] (fun s4 i => ∃ k : Nat, k ≤ n ∧ i = .int .i64 k ∧ s4 = .bool (k3 && (back.take k).all fun z => inB z 1 100000)) (fun _ i => n - (intOf i).toNat)
              case atStart => exact ⟨0, Nat.zero_le _, rfl, by simp⟩
              case round =>
                obtain ⟨k, hk, rfl, rfl⟩ := hrel
                by_cases hlt : k < n
                · have hltz : (k : Int) < n := by omega
                  obtain ⟨ao', cap', e', _, hat⟩ := HBK2.out
                  simp only [Value.slice.injEq] at e'
                  obtain ⟨rfl, -, rfl⟩ := e'
                  obtain ⟨g, off, rfl, hst⟩ := hat (by intro e; have := HN.out; rw [e] at this; simp at this; omega)
                  have c0 := hst k (by rw [HN.out]; exact hlt)
                  have hstep := all_takeI (fun z => inB z 1 100000) back k (by rw [HN.out]; exact hlt)
                  have HE := Lib.hid fun w => HELT.out (back.getD k 0) w
                  have hs2 : (k3 && (back.take (k + 1)).all fun z => inB z 1 100000) = ((k3 && (back.take k).all fun z => inB z 1 100000) && inB (back.getD k 0) 1 100000) := by rw [hstep, Bool.and_assoc]
                  have HS2 := Lib.hid hs2
                  clear hstep hs2 hst hat
                  generalize (k3 && (back.take k).all fun z => inB z 1 100000) = a1 at *
                  generalize inB (back.getD k 0) 1 100000 = a2 at *
                  generalize back.getD k 0 = z at *
                  cases a1 <;> cases a2
                  all_goals
                    go_wp2_with (go_at_call 28; refine (HE.out _).mono ?_; rintro e w' ⟨rfl, rfl⟩)
                    exact ⟨⟨k + 1, by omega, by go_num, by rw [HS2.out]; rfl⟩, by simp [intOf]; omega⟩
                · have hltz : ¬ (k : Int) < n := by omega
                  obtain rfl : k = n := by omega
                  have hfin : fin = (k3 && (back.take k).all fun z => inB z 1 100000) := by
                    rw [H7.out, List.take_of_length_le (by rw [HN.out]; exact Nat.le_refl _)]
                  clear H7
                  subst hfin
                  generalize (k3 && (back.take k).all fun z => inB z 1 100000) = a1 at *
                  go_wp2
                  go_meet
                  exact ⟨rfl, rfl⟩
        case rest =>
          obtain ⟨rfl, rfl⟩ := hcut
          have h := HR.out
          clear HR HST HTM
          generalize (k2 && tm) = fin at *
          cases fin
          all_goals
            obtain rfl := h
            go_wp2
            go_ret
            exact ⟨rfl, HI1.out.thru HI2.out⟩
end Go.Proofs.YthhgfdeegnimjaaGreatDoor.Subj
