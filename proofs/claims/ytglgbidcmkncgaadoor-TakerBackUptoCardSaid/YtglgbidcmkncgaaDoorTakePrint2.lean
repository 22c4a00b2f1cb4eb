/- taker.Print, walked. -/
import Derived.Test.YtglgbidcmkncgaaDoorTakePrint
import Derived.Test.YtglgbidcmkncgaaDoorPlanBackPlain2
import Derived.Deep.CutBlock
namespace Go.Proofs.YtglgbidcmkncgaaDoor.Subj
open Go.RowKit

theorem words_bound {t : TakerP} (h : errT t = 0) : (wordsT t).length ≤ 9 ∧ ∀ f ∈ wordsT t, f.length ≤ 1024 := by
  obtain ⟨h1, h2, h3, h4⟩ := errT_facts h
  obtain ⟨f1, f2, f3, f4, f5, f6, f6', f7, f8, f9⟩ := argsOk_facts h4
  have n1 := (name_facts h1).2
  have n2 := (filter_facts h2).2
  have i1 := itoa_len f3.1 f3.2
  have i2 := itoa_len (v := t.wait) f5.1 (by omega)
  have i3 := itoa_len (v := t.most) f7.1 (by omega)
  have i4 := itoa_len (v := t.pend) f8.1 (by omega)
  have i5 : (listT t.back).length ≤ 5 * 10 := by
    have := join_len [44] 9 (t.back.map Lib.itoa) (fun f hf => by
      obtain ⟨z, hz, rfl⟩ := List.mem_map.1 hf
      obtain ⟨j, hj, rfl⟩ := List.getElem_of_mem hz
      have h1 := f9 j hj
      have h2 : t.back.getD j 0 = t.back[j] := by simp [List.getD, hj]
      rw [h2] at h1
      exact itoa_len (v := t.back[j]) (by omega) (by omega))
    rw [List.length_map] at this
    have h5 : t.back.length * (9 + [44].length) ≤ 5 * 10 := Nat.mul_le_mul h3 (by decide)
    exact Nat.le_trans this h5
  have one : ∀ (c : Bool) (x y : List Tok), (if c = true then x else y) = x ∨ (if c = true then x else y) = y := fun c x y => by cases c <;> simp
  have g1 : (fromWs t.src t.start).length ≤ 1 ∧ ∀ f ∈ fromWs t.src t.start, f.length ≤ 1024 := by
    unfold fromWs
    split
    · simp
    · split
      · simp
      · split
        · refine ⟨by simp, fun f hf => ?_⟩
          rw [List.mem_singleton] at hf; subst hf
          rw [List.length_append]; have : fromE.length = 5 := rfl; omega
        · simp
  have g2 : (ackWs t.ack).length ≤ 1 ∧ ∀ f ∈ ackWs t.ack, f.length ≤ 1024 := by
    unfold ackWs
    split
    · simp
    · split <;> simp
  have num : ∀ (e : Tok) (z : Int), e.length ≤ 8 → (Lib.itoa z).length ≤ 9 → (numWs e z).length ≤ 1 ∧ ∀ f ∈ numWs e z, f.length ≤ 1024 := fun e z he hz => by
    unfold numWs
    split
    · refine ⟨by simp, fun f hf => ?_⟩
      rw [List.mem_singleton] at hf; subst hf
      rw [List.length_append]; omega
    · simp
  have g3 := num waitE t.wait (by decide) i2
  have g4 : (backWs t.back).length ≤ 1 ∧ ∀ f ∈ backWs t.back, f.length ≤ 1024 := by
    unfold backWs
    split
    · refine ⟨by simp, fun f hf => ?_⟩
      rw [List.mem_singleton] at hf; subst hf
      rw [List.length_append]; have : backE.length = 8 := rfl; omega
    · simp
  have g5 := num mostE t.most (by decide) i3
  have g6 := num pendE t.pend (by decide) i4
  have g7 : (pushWs t.push).length ≤ 1 ∧ ∀ f ∈ pushWs t.push, f.length ≤ 1024 := by
    unfold pushWs
    split <;> simp
  constructor
  · unfold wordsT
    simp only [List.length_append, List.length_cons, List.length_nil]
    omega
  · intro f hf
    unfold wordsT at hf
    simp only [List.mem_append, List.mem_cons, List.not_mem_nil, or_false] at hf
    rcases hf with ((((((hf | hf) | hf) | hf) | hf) | hf) | hf) | hf
    · rcases hf with rfl | rfl <;> omega
    · exact g1.2 f hf
    · exact g2.2 f hf
    · exact g3.2 f hf
    · exact g4.2 f hf
    · exact g5.2 f hf
    · exact g6.2 f hf
    · exact g7.2 f hf

set_option maxHeartbeats 8000000 in
set_option maxRecDepth 100000 in
theorem printT_any (name filt : ByteArray) (src start ack wait most pend : Int) (push : Bool) (ao : Option Addr) (n cap : Nat) (back : List Int) (w : World) (hnm : name.size ≤ maxLen) (hfl : filt.size ≤ 1048576) (hn : back.length = n) (hB : Ints w (.slice ao n cap) back) (hm : ML w) (ht : TenLaid w) :
    Calls Tryd.prog 42 #[.agg (tCells name filt src start ack wait (.slice ao n cap) most pend push)] w (PrintTPost w (printT ⟨name.data.toList, filt.data.toList, src, start, ack, wait, back, most, pend, push⟩)) := by
  obtain ⟨res, hres⟩ : ∃ res, printT ⟨name.data.toList, filt.data.toList, src, start, ack, wait, back, most, pend, push⟩ = res := ⟨_, rfl⟩
  rw [hres]
  obtain ⟨w1, hw1⟩ : ∃ w1, w1 = w.alloc (.cells (tCells name filt src start ack wait (.slice ao n cap) most pend push) 37) := ⟨_, rfl⟩
  have hI1 : Inv w w1 := by rw [hw1]; exact Inv.made hm _
  have hB1 := ten_alloc w 37 (.string name) (.string filt) (.int .i64 src) (.int .i64 start) (.int .i64 ack) (.int .i64 wait) (.slice ao n cap) (.int .i64 most) (.int .i64 pend) (.bool push)
  rw [← hw1] at hB1
  have hBk := hB.below hI1.2
  have HCK := Lib.hid (show Calls Tryd.prog 43 #[.agg (tCells name filt src start ack wait (.slice ao n cap) most pend push)] w1 (IntRet w1 (errT ⟨name.data.toList, filt.data.toList, src, start, ack, wait, back, most, pend, push⟩)) from takerCheck_any name filt src start ack wait most pend push ao n cap back w1 hnm hfl hn hBk hI1.1)
  have HI1 := Lib.hid hI1; have HB1 := Lib.hid hB1; have HBK := Lib.hid hBk; have HRES := Lib.hid hres; have HT := Lib.hid ht; have HN := Lib.hid hn
  clear hI1 hB1 hBk hB hm hn hres ht
  obtain ⟨y0, y1, y2, y3, y4, y5, y6, y7, y8, y9, yf⟩ := ten HB1.out
  obtain ⟨er, her⟩ : ∃ er, errT ⟨name.data.toList, filt.data.toList, src, start, ack, wait, back, most, pend, push⟩ = er := ⟨_, rfl⟩
  rw [her] at HCK
  have HER := Lib.hid her
  clear her
  obtain ⟨i0, hi, hz0, hz1, hz2⟩ := info_parts info_strT
  go_enter Tryd.func42, Tryd.ntmps42
  go_upto_region 1 with fail
  rw [← hw1]
  clear hw1
  go_wp2_with fail
  refine HCK.out.mono ?_
  rintro e w2 ⟨rfl, hI2⟩
  have HI2 := Lib.hid (HI1.out.thru hI2)
  have HBOX := Lib.hid (fun wr (h : Below w2.heap.size w2 wr) => (Inv.thru (hI2) ⟨hI2.1.below h, h⟩).blk HB1.out)
  have HBK2 := Lib.hid (fun wr (h : Below w2.heap.size w2 wr) => (HBK.out.below hI2.2).below h)
  have HTL := Lib.hid (fun wr (h : Below w2.heap.size w2 wr) => HT.out.inv (HI2.out.step h))
  have HML := Lib.hid (fun wr (h : Below w2.heap.size w2 wr) => (hI2.1.below h : ML wr))
  clear hI2 y0 y1 y2 y3 y4 y5 y6 y7 y8 y9 yf HCK HB1 HBK HT HI1
  by_cases he : er = 0
  · subst he
    obtain ⟨hf1, hf2, hf3, hf4⟩ := errT_facts HER.out
    obtain ⟨g1, g1', g2, g3, g4, g4', g4'', g5, g6, g7⟩ := argsOk_facts hf4
    have HG7 := Lib.hid g7
    clear g1' g4' g4''
    have hwb := words_bound HER.out
    have HWB := Lib.hid hwb.2
    have hr : res = (textT ⟨name.data.toList, filt.data.toList, src, start, ack, wait, back, most, pend, push⟩, 0) := by rw [← HRES.out]; unfold printT; rw [if_pos HER.out]
    have HR := Lib.hid hr
    have hwl : (wordsT ⟨name.data.toList, filt.data.toList, src, start, ack, wait, back, most, pend, push⟩).length ≤ 9 := hwb.1
    obtain ⟨l0, hl0⟩ : ∃ l0, [name.data.toList, filt.data.toList] = l0 := ⟨_, rfl⟩
    obtain ⟨l1, hl1⟩ : ∃ l1, l0 ++ fromWs src start = l1 := ⟨_, rfl⟩
    obtain ⟨l2, hl2⟩ : ∃ l2, l1 ++ ackWs ack = l2 := ⟨_, rfl⟩
    obtain ⟨l3, hl3⟩ : ∃ l3, l2 ++ numWs waitE wait = l3 := ⟨_, rfl⟩
    obtain ⟨l4, hl4⟩ : ∃ l4, l3 ++ backWs back = l4 := ⟨_, rfl⟩
    obtain ⟨l5, hl5⟩ : ∃ l5, l4 ++ numWs mostE most = l5 := ⟨_, rfl⟩
    obtain ⟨l6, hl6⟩ : ∃ l6, l5 ++ numWs pendE pend = l6 := ⟨_, rfl⟩
    obtain ⟨l7, hl7⟩ : ∃ l7, l6 ++ pushWs push = l7 := ⟨_, rfl⟩
    have hl : wordsT ⟨name.data.toList, filt.data.toList, src, start, ack, wait, back, most, pend, push⟩ = l7 := by
      rw [← hl7, ← hl6, ← hl5, ← hl4, ← hl3, ← hl2, ← hl1, ← hl0]; rfl
    rw [hl] at hwl HWB
    have k7 : l6.length ≤ 9 := by have := congrArg List.length hl7; rw [List.length_append] at this; omega
    have k6 : l5.length ≤ 9 := by have := congrArg List.length hl6; rw [List.length_append] at this; omega
    have k5 : l4.length ≤ 9 := by have := congrArg List.length hl5; rw [List.length_append] at this; omega
    have k4 : l3.length ≤ 9 := by have := congrArg List.length hl4; rw [List.length_append] at this; omega
    have k3 : l2.length ≤ 9 := by have := congrArg List.length hl3; rw [List.length_append] at this; omega
    have k2 : l1.length ≤ 9 := by have := congrArg List.length hl2; rw [List.length_append] at this; omega
    have k1 : l0.length ≤ 9 := by rw [← hl0]; simp
    have hne : l7 ≠ [] := by rw [← hl]; simp [wordsT]
    have HL := Lib.hid hl; have HNE := Lib.hid hne; have HWL := Lib.hid hwl
    clear hne hwl
    obtain ⟨wc, hwc⟩ : ∃ wc, wc = w2.alloc (.cells #[.string name, .string filt] 9) := ⟨_, rfl⟩
    have haw : AW w2 l0 (.slice (some ⟨w2.heap.size, 0, none⟩) 2 2) wc := by
      have e0 : strsV [name.data.toList, filt.data.toList] = [.string name, .string filt] := by simp [strsV]
      refine ⟨by rw [hwc]; exact (Below.refl _ _).alloc (Nat.le_refl _) _, ?_, fun k hk => by simp [Heap.own, Value.ownBlock] at hk; omega⟩
      rw [← hl0]
      rw [e0]
      refine ⟨rfl, .inr ⟨w2.heap.size, 0, 2, _, rfl, by rw [hwc]; exact heap_alloc_new w2 _, Nat.le_refl _, by unfold maxLen; decide, by simp, rfl⟩⟩
    have HAW := Lib.hid haw; have HL0 := Lib.hid hl0; have HL1 := Lib.hid hl1; have HL2 := Lib.hid hl2; have HL3 := Lib.hid hl3; have HL4 := Lib.hid hl4; have HL5 := Lib.hid hl5; have HL6 := Lib.hid hl6; have HL7 := Lib.hid hl7
    obtain ⟨y0, y1, y2, y3, y4, y5, y6, y7, y8, y9, yf⟩ := ten (HBOX.out w2 (Below.refl _ _))
    clear haw hl0 hl1 hl2 hl3 hl4 hl5 hl6 hl7 hl hr hf1 hf2 hf4 hwb g7 HRES HER hnm hfl
    go_upto_region 5 with fail
    rw [← hwc]
    clear hwc y0 y1 y2 y3 y4 y5 y6 y7 y8 y9 yf
    obtain ⟨y0, y1, y2, y3, y4, y5, y6, y7, y8, y9, yf⟩ := ten (HBOX.out wc HAW.out.1)
    have HEQ := HL1
    go_upto_block 0 with fail
    go_cut [5] from 18 to 36 (fun s5 wx => ∃ v5, s5 = v5 ∧ AW w2 l1 v5 wx)
    case first =>
      cases h1 : (src == 1) with
      | true =>
        have heq : l0 ++ [[102, 114, 111, 109, 61, 108, 97, 115, 116]] = l1 := by rw [← HL1.out]; unfold fromWs; rw [h1]; rfl
        have HEQ := Lib.hid heq
        clear heq
        have HG := Lib.hid (AW.grow HAW.out (Below.refl _ _) ⟨#[102, 114, 111, 109, 61, 108, 97, 115, 116]⟩ [102, 114, 111, 109, 61, 108, 97, 115, 116] rfl)
        go_wp2_with (at_builtin; refine Heap.wpList_append_row _ rfl (.tmp 20) (.tmp 21) 27 rfl 9 i0 _ 1 16 Tryd.underlying27 hi hz0 hz1 hz2 rfl (by decide) _ l0.length _ rfl HG.out.1 ⟨wc.heap.size, 0, none⟩ 1 1 [.string (⟨#[102, 114, 111, 109, 61, 108, 97, 115, 116]⟩)] rfl rfl (news_str wc (⟨#[102, 114, 111, 109, 61, 108, 97, 115, 116]⟩) _) (by simp [Value.oneCell']) (by unfold maxLen; omega) (by omega) ?_)
        intro v2 w9 r3 t3 o3
        have HF := Lib.hid (HG.out.2 v2 w9 r3 t3 o3)
        clear r3 t3 o3
        go_wp2_with fail
        go_meet
        exact ⟨v2, rfl, by rw [← HEQ.out]; exact HF.out⟩
      | false =>
        cases h2 : (src == 2) with
        | true =>
          have heq : l0 ++ [[102, 114, 111, 109, 61, 110, 101, 119]] = l1 := by rw [← HL1.out]; unfold fromWs; rw [h1, h2]; rfl
          have HEQ := Lib.hid heq
          clear heq
          have HG := Lib.hid (AW.grow HAW.out (Below.refl _ _) ⟨#[102, 114, 111, 109, 61, 110, 101, 119]⟩ [102, 114, 111, 109, 61, 110, 101, 119] rfl)
          go_wp2_with (at_builtin; refine Heap.wpList_append_row _ rfl (.tmp 25) (.tmp 26) 27 rfl 9 i0 _ 1 16 Tryd.underlying27 hi hz0 hz1 hz2 rfl (by decide) _ l0.length _ rfl HG.out.1 ⟨wc.heap.size, 0, none⟩ 1 1 [.string (⟨#[102, 114, 111, 109, 61, 110, 101, 119]⟩)] rfl rfl (news_str wc (⟨#[102, 114, 111, 109, 61, 110, 101, 119]⟩) _) (by simp [Value.oneCell']) (by unfold maxLen; omega) (by omega) ?_)
          intro v2 w9 r3 t3 o3
          have HF := Lib.hid (HG.out.2 v2 w9 r3 t3 o3)
          clear r3 t3 o3
          go_wp2_with fail
          go_meet
          exact ⟨v2, rfl, by rw [← HEQ.out]; exact HF.out⟩
        | false =>
          cases h3 : (src == 3) with
          | true =>
            have heq : l0 ++ [[102, 114, 111, 109, 61] ++ Lib.itoa start] = l1 := by rw [← HL1.out]; unfold fromWs; rw [h1, h2, h3]; rfl
            have HEQ := Lib.hid heq
            clear heq
            have HIT := Lib.hid (itoa_any start (by omega) (by omega) wc (HTL.out wc HAW.out.1))
            have hit := itoa_tok start (by omega) (by omega)
            obtain ⟨XX, hXX⟩ : ∃ XX : ByteArray, XX = ⟨(Lib.itoa start).toArray⟩ := ⟨_, rfl⟩
            have hxd : XX.data.toList = Lib.itoa start := by rw [hXX]
            rw [← hXX] at HIT hit
            have HXD := Lib.hid hxd
            clear hxd hXX
            have q1 : ¬ 9223372036854775807 < 5 + XX.size := by omega
            go_wp2_with fail
            refine HIT.out.mono ?_
            rintro e w' ⟨rfl, hb'⟩
            have HG := Lib.hid (AW.grow HAW.out hb' (⟨#[102, 114, 111, 109, 61]⟩ ++ XX) ([102, 114, 111, 109, 61] ++ Lib.itoa start) (by simp [HXD.out]))
            clear hb'
            go_wp2_with (at_builtin; refine Heap.wpList_append_row _ rfl (.tmp 30) (.tmp 35) 27 rfl 9 i0 _ 1 16 Tryd.underlying27 hi hz0 hz1 hz2 rfl (by decide) _ l0.length _ rfl HG.out.1 ⟨w'.heap.size, 0, none⟩ 1 1 [.string (⟨#[102, 114, 111, 109, 61]⟩ ++ XX)] rfl rfl (news_str w' (⟨#[102, 114, 111, 109, 61]⟩ ++ XX) _) (by simp [Value.oneCell']) (by unfold maxLen; omega) (by omega) ?_)
            intro v2 w9 r3 t3 o3
            have HF := Lib.hid (HG.out.2 v2 w9 r3 t3 o3)
            clear r3 t3 o3
            go_wp2_with fail
            go_meet
            exact ⟨v2, rfl, by rw [← HEQ.out]; exact HF.out⟩
          | false =>
            have heq : l0 ++ [] = l1 := by rw [← HL1.out]; unfold fromWs; rw [h1, h2, h3]; rfl
            have HEQ := Lib.hid heq
            clear heq
            go_wp2_with fail
            go_meet
            exact ⟨_, rfl, by rw [← HEQ.out, List.append_nil]; exact HAW.out⟩
    case rest =>
    obtain ⟨v5, rfl, haw⟩ := hcut
    have HAW := Lib.hid haw
    clear haw HEQ y0 y1 y2 y3 y4 y5 y6 y7 y8 y9 yf
    obtain ⟨y0, y1, y2, y3, y4, y5, y6, y7, y8, y9, yf⟩ := ten (HBOX.out wc HAW.out.1)
    go_upto_block 1 with fail
    go_cut [5] from 39 to 48 (fun s5 wx => ∃ v5, s5 = v5 ∧ AW w2 l2 v5 wx)
    case first =>
      cases h1 : (ack == 0) with
      | true =>
        have heq : l1 ++ [[97, 99, 107, 61, 110, 111, 110, 101]] = l2 := by rw [← HL2.out]; unfold ackWs; rw [h1]; rfl
        have HEQ := Lib.hid heq
        clear heq
        have HG := Lib.hid (AW.grow HAW.out (Below.refl _ _) ⟨#[97, 99, 107, 61, 110, 111, 110, 101]⟩ [97, 99, 107, 61, 110, 111, 110, 101] rfl)
        go_wp2_with (at_builtin; refine Heap.wpList_append_row _ rfl (.tmp 41) (.tmp 42) 27 rfl 9 i0 _ 1 16 Tryd.underlying27 hi hz0 hz1 hz2 rfl (by decide) _ l1.length _ rfl HG.out.1 ⟨wc.heap.size, 0, none⟩ 1 1 [.string (⟨#[97, 99, 107, 61, 110, 111, 110, 101]⟩)] rfl rfl (news_str wc (⟨#[97, 99, 107, 61, 110, 111, 110, 101]⟩) _) (by simp [Value.oneCell']) (by unfold maxLen; omega) (by omega) ?_)
        intro v2 w9 r3 t3 o3
        have HF := Lib.hid (HG.out.2 v2 w9 r3 t3 o3)
        clear r3 t3 o3
        go_wp2_with fail
        go_meet
        exact ⟨v2, rfl, by rw [← HEQ.out]; exact HF.out⟩
      | false =>
        cases h2 : (ack == 1) with
        | true =>
          have heq : l1 ++ [[97, 99, 107, 61, 97, 108, 108]] = l2 := by rw [← HL2.out]; unfold ackWs; rw [h1, h2]; rfl
          have HEQ := Lib.hid heq
          clear heq
          have HG := Lib.hid (AW.grow HAW.out (Below.refl _ _) ⟨#[97, 99, 107, 61, 97, 108, 108]⟩ [97, 99, 107, 61, 97, 108, 108] rfl)
          go_wp2_with (at_builtin; refine Heap.wpList_append_row _ rfl (.tmp 46) (.tmp 47) 27 rfl 9 i0 _ 1 16 Tryd.underlying27 hi hz0 hz1 hz2 rfl (by decide) _ l1.length _ rfl HG.out.1 ⟨wc.heap.size, 0, none⟩ 1 1 [.string (⟨#[97, 99, 107, 61, 97, 108, 108]⟩)] rfl rfl (news_str wc (⟨#[97, 99, 107, 61, 97, 108, 108]⟩) _) (by simp [Value.oneCell']) (by unfold maxLen; omega) (by omega) ?_)
          intro v2 w9 r3 t3 o3
          have HF := Lib.hid (HG.out.2 v2 w9 r3 t3 o3)
          clear r3 t3 o3
          go_wp2_with fail
          go_meet
          exact ⟨v2, rfl, by rw [← HEQ.out]; exact HF.out⟩
        | false =>
          have heq : l1 ++ [] = l2 := by rw [← HL2.out]; unfold ackWs; rw [h1, h2]; rfl
          have HEQ := Lib.hid heq
          clear heq
          go_wp2_with fail
          go_meet
          exact ⟨_, rfl, by rw [← HEQ.out, List.append_nil]; exact HAW.out⟩
    case rest =>
    obtain ⟨v5, rfl, haw⟩ := hcut
    have HAW := Lib.hid haw
    clear haw y0 y1 y2 y3 y4 y5 y6 y7 y8 y9 yf
    obtain ⟨y0, y1, y2, y3, y4, y5, y6, y7, y8, y9, yf⟩ := ten (HBOX.out wc HAW.out.1)
    go_upto_if 51 with fail
    go_cut [5] from 51 to 58 (fun s5 wx => ∃ v5, s5 = v5 ∧ AW w2 l3 v5 wx)
    case first =>
      by_cases hp : 0 < wait
      · have heq : l2 ++ [[119, 97, 105, 116, 61] ++ Lib.itoa wait] = l3 := by rw [← HL3.out]; unfold numWs; rw [if_pos hp]; rfl
        have HEQ := Lib.hid heq
        clear heq
        have HIT := Lib.hid (itoa_any wait (by omega) (by omega) wc (HTL.out wc HAW.out.1))
        have hit := itoa_tok wait (by omega) (by omega)
        obtain ⟨XX, hXX⟩ : ∃ XX : ByteArray, XX = ⟨(Lib.itoa wait).toArray⟩ := ⟨_, rfl⟩
        have hxd : XX.data.toList = Lib.itoa wait := by rw [hXX]
        rw [← hXX] at HIT hit
        have HXD := Lib.hid hxd
        clear hxd hXX
        have q1 : ¬ 9223372036854775807 < 5 + XX.size := by omega
        go_wp2_with fail
        refine HIT.out.mono ?_
        rintro e w' ⟨rfl, hb'⟩
        have HG := Lib.hid (AW.grow HAW.out hb' (⟨#[119, 97, 105, 116, 61]⟩ ++ XX) ([119, 97, 105, 116, 61] ++ Lib.itoa wait) (by simp [HXD.out]))
        clear hb'
        go_wp2_with (at_builtin; refine Heap.wpList_append_row _ rfl (.tmp 52) (.tmp 57) 27 rfl 9 i0 _ 1 16 Tryd.underlying27 hi hz0 hz1 hz2 rfl (by decide) _ l2.length _ rfl HG.out.1 ⟨w'.heap.size, 0, none⟩ 1 1 [.string (⟨#[119, 97, 105, 116, 61]⟩ ++ XX)] rfl rfl (news_str w' (⟨#[119, 97, 105, 116, 61]⟩ ++ XX) _) (by simp [Value.oneCell']) (by unfold maxLen; omega) (by omega) ?_)
        intro v2 w9 r3 t3 o3
        have HF := Lib.hid (HG.out.2 v2 w9 r3 t3 o3)
        clear r3 t3 o3
        go_wp2_with fail
        go_meet
        exact ⟨v2, rfl, by rw [← HEQ.out]; exact HF.out⟩
      · have heq : l2 ++ [] = l3 := by rw [← HL3.out]; unfold numWs; rw [if_neg hp]
        have HEQ := Lib.hid heq
        clear heq
        go_wp2_with fail
        go_meet
        exact ⟨_, rfl, by rw [← HEQ.out, List.append_nil]; exact HAW.out⟩
    case rest =>
    obtain ⟨v5, rfl, haw⟩ := hcut
    have HAW := Lib.hid haw
    clear haw y0 y1 y2 y3 y4 y5 y6 y7 y8 y9 yf
    obtain ⟨y0, y1, y2, y3, y4, y5, y6, y7, y8, y9, yf⟩ := ten (HBOX.out wc HAW.out.1)
    go_upto_if 62 with fail
    go_cut [5] from 62 to 69 (fun s5 wx => ∃ v5, s5 = v5 ∧ AW w2 l4 v5 wx)
    case first =>
      by_cases hp : 0 < n
      · have hpz : (0 : Int) < n := by omega
        have heq : l3 ++ [[98, 97, 99, 107, 111, 102, 102, 61] ++ listT back] = l4 := by rw [← HL4.out]; unfold backWs; rw [if_pos (by rw [HN.out]; exact hp)]; rfl
        have HEQ := Lib.hid heq
        clear heq
        have HIT := Lib.hid (list_any back _ wc (HBK2.out wc HAW.out.1) (by rw [HN.out]; exact hp) hf3 HG7.out (HML.out wc HAW.out.1) (HTL.out wc HAW.out.1))
        have hit : (⟨(listT back).toArray⟩ : ByteArray).size ≤ 50 := by
          show (List.toArray _).size ≤ _
          rw [List.size_toArray]
          have := join_len [44] 9 (back.map Lib.itoa) (fun f hf => by
            obtain ⟨z, hz, rfl⟩ := List.mem_map.1 hf
            obtain ⟨j, hj, rfl⟩ := List.getElem_of_mem hz
            have h1 := HG7.out j hj
            have h2 : back.getD j 0 = back[j] := by simp [List.getD, hj]
            rw [h2] at h1
            exact itoa_len (v := back[j]) (by omega) (by omega))
          rw [List.length_map] at this
          have h5 : back.length * (9 + [44].length) ≤ 5 * 10 := Nat.mul_le_mul hf3 (by decide)
          exact Nat.le_trans this h5
        obtain ⟨XX, hXX⟩ : ∃ XX : ByteArray, XX = ⟨(listT back).toArray⟩ := ⟨_, rfl⟩
        have hxd : XX.data.toList = listT back := by rw [hXX]
        rw [← hXX] at HIT hit
        have HXD := Lib.hid hxd
        clear hxd hXX
        have q1 : ¬ 9223372036854775807 < 8 + XX.size := by omega
        go_wp2_with fail
        refine HIT.out.mono ?_
        rintro e w' ⟨rfl, hb'⟩
        have HG := Lib.hid (AW.grow HAW.out hb' (⟨#[98, 97, 99, 107, 111, 102, 102, 61]⟩ ++ XX) ([98, 97, 99, 107, 111, 102, 102, 61] ++ listT back) (by simp [HXD.out]))
        clear hb'
        go_wp2_with (at_builtin; refine Heap.wpList_append_row _ rfl (.tmp 63) (.tmp 68) 27 rfl 9 i0 _ 1 16 Tryd.underlying27 hi hz0 hz1 hz2 rfl (by decide) _ l3.length _ rfl HG.out.1 ⟨w'.heap.size, 0, none⟩ 1 1 [.string (⟨#[98, 97, 99, 107, 111, 102, 102, 61]⟩ ++ XX)] rfl rfl (news_str w' (⟨#[98, 97, 99, 107, 111, 102, 102, 61]⟩ ++ XX) _) (by simp [Value.oneCell']) (by unfold maxLen; omega) (by omega) ?_)
        intro v2 w9 r3 t3 o3
        have HF := Lib.hid (HG.out.2 v2 w9 r3 t3 o3)
        clear r3 t3 o3
        go_wp2_with fail
        go_meet
        exact ⟨v2, rfl, by rw [← HEQ.out]; exact HF.out⟩
      · have hpz : ¬ (0 : Int) < n := by omega
        have heq : l3 ++ [] = l4 := by rw [← HL4.out]; unfold backWs; rw [if_neg (by rw [HN.out]; exact hp)]
        have HEQ := Lib.hid heq
        clear heq
        go_wp2_with fail
        go_meet
        exact ⟨_, rfl, by rw [← HEQ.out, List.append_nil]; exact HAW.out⟩
    case rest =>
    obtain ⟨v5, rfl, haw⟩ := hcut
    have HAW := Lib.hid haw
    clear haw y0 y1 y2 y3 y4 y5 y6 y7 y8 y9 yf
    obtain ⟨y0, y1, y2, y3, y4, y5, y6, y7, y8, y9, yf⟩ := ten (HBOX.out wc HAW.out.1)
    go_upto_if 72 with fail
    go_cut [5] from 72 to 79 (fun s5 wx => ∃ v5, s5 = v5 ∧ AW w2 l5 v5 wx)
    case first =>
      by_cases hp : 0 < most
      · have heq : l4 ++ [[109, 111, 115, 116, 61] ++ Lib.itoa most] = l5 := by rw [← HL5.out]; unfold numWs; rw [if_pos hp]; rfl
        have HEQ := Lib.hid heq
        clear heq
        have HIT := Lib.hid (itoa_any most (by omega) (by omega) wc (HTL.out wc HAW.out.1))
        have hit := itoa_tok most (by omega) (by omega)
        obtain ⟨XX, hXX⟩ : ∃ XX : ByteArray, XX = ⟨(Lib.itoa most).toArray⟩ := ⟨_, rfl⟩
        have hxd : XX.data.toList = Lib.itoa most := by rw [hXX]
        rw [← hXX] at HIT hit
        have HXD := Lib.hid hxd
        clear hxd hXX
        have q1 : ¬ 9223372036854775807 < 5 + XX.size := by omega
        go_wp2_with fail
        refine HIT.out.mono ?_
        rintro e w' ⟨rfl, hb'⟩
        have HG := Lib.hid (AW.grow HAW.out hb' (⟨#[109, 111, 115, 116, 61]⟩ ++ XX) ([109, 111, 115, 116, 61] ++ Lib.itoa most) (by simp [HXD.out]))
        clear hb'
        go_wp2_with (at_builtin; refine Heap.wpList_append_row _ rfl (.tmp 73) (.tmp 78) 27 rfl 9 i0 _ 1 16 Tryd.underlying27 hi hz0 hz1 hz2 rfl (by decide) _ l4.length _ rfl HG.out.1 ⟨w'.heap.size, 0, none⟩ 1 1 [.string (⟨#[109, 111, 115, 116, 61]⟩ ++ XX)] rfl rfl (news_str w' (⟨#[109, 111, 115, 116, 61]⟩ ++ XX) _) (by simp [Value.oneCell']) (by unfold maxLen; omega) (by omega) ?_)
        intro v2 w9 r3 t3 o3
        have HF := Lib.hid (HG.out.2 v2 w9 r3 t3 o3)
        clear r3 t3 o3
        go_wp2_with fail
        go_meet
        exact ⟨v2, rfl, by rw [← HEQ.out]; exact HF.out⟩
      · have heq : l4 ++ [] = l5 := by rw [← HL5.out]; unfold numWs; rw [if_neg hp]
        have HEQ := Lib.hid heq
        clear heq
        go_wp2_with fail
        go_meet
        exact ⟨_, rfl, by rw [← HEQ.out, List.append_nil]; exact HAW.out⟩
    case rest =>
    obtain ⟨v5, rfl, haw⟩ := hcut
    have HAW := Lib.hid haw
    clear haw y0 y1 y2 y3 y4 y5 y6 y7 y8 y9 yf
    obtain ⟨y0, y1, y2, y3, y4, y5, y6, y7, y8, y9, yf⟩ := ten (HBOX.out wc HAW.out.1)
    go_upto_if 82 with fail
    go_cut [5] from 82 to 89 (fun s5 wx => ∃ v5, s5 = v5 ∧ AW w2 l6 v5 wx)
    case first =>
      by_cases hp : 0 < pend
      · have heq : l5 ++ [[112, 101, 110, 100, 105, 110, 103, 61] ++ Lib.itoa pend] = l6 := by rw [← HL6.out]; unfold numWs; rw [if_pos hp]; rfl
        have HEQ := Lib.hid heq
        clear heq
        have HIT := Lib.hid (itoa_any pend (by omega) (by omega) wc (HTL.out wc HAW.out.1))
        have hit := itoa_tok pend (by omega) (by omega)
        obtain ⟨XX, hXX⟩ : ∃ XX : ByteArray, XX = ⟨(Lib.itoa pend).toArray⟩ := ⟨_, rfl⟩
        have hxd : XX.data.toList = Lib.itoa pend := by rw [hXX]
        rw [← hXX] at HIT hit
        have HXD := Lib.hid hxd
        clear hxd hXX
        have q1 : ¬ 9223372036854775807 < 8 + XX.size := by omega
        go_wp2_with fail
        refine HIT.out.mono ?_
        rintro e w' ⟨rfl, hb'⟩
        have HG := Lib.hid (AW.grow HAW.out hb' (⟨#[112, 101, 110, 100, 105, 110, 103, 61]⟩ ++ XX) ([112, 101, 110, 100, 105, 110, 103, 61] ++ Lib.itoa pend) (by simp [HXD.out]))
        clear hb'
        go_wp2_with (at_builtin; refine Heap.wpList_append_row _ rfl (.tmp 83) (.tmp 88) 27 rfl 9 i0 _ 1 16 Tryd.underlying27 hi hz0 hz1 hz2 rfl (by decide) _ l5.length _ rfl HG.out.1 ⟨w'.heap.size, 0, none⟩ 1 1 [.string (⟨#[112, 101, 110, 100, 105, 110, 103, 61]⟩ ++ XX)] rfl rfl (news_str w' (⟨#[112, 101, 110, 100, 105, 110, 103, 61]⟩ ++ XX) _) (by simp [Value.oneCell']) (by unfold maxLen; omega) (by omega) ?_)
        intro v2 w9 r3 t3 o3
        have HF := Lib.hid (HG.out.2 v2 w9 r3 t3 o3)
        clear r3 t3 o3
        go_wp2_with fail
        go_meet
        exact ⟨v2, rfl, by rw [← HEQ.out]; exact HF.out⟩
      · have heq : l5 ++ [] = l6 := by rw [← HL6.out]; unfold numWs; rw [if_neg hp]
        have HEQ := Lib.hid heq
        clear heq
        go_wp2_with fail
        go_meet
        exact ⟨_, rfl, by rw [← HEQ.out, List.append_nil]; exact HAW.out⟩
    case rest =>
    obtain ⟨v5, rfl, haw⟩ := hcut
    have HAW := Lib.hid haw
    clear haw y0 y1 y2 y3 y4 y5 y6 y7 y8 y9 yf
    obtain ⟨y0, y1, y2, y3, y4, y5, y6, y7, y8, y9, yf⟩ := ten (HBOX.out wc HAW.out.1)
    go_upto_if 91 with fail
    go_cut [5] from 91 to 94 (fun s5 wx => ∃ v5, s5 = v5 ∧ AW w2 l7 v5 wx)
    case first =>
      cases push with
      | true =>
        have HEQ := HL7
        unfold pushWs at HEQ
        rw [if_pos rfl] at HEQ
        have HG := Lib.hid (AW.grow HAW.out (Below.refl _ _) ⟨#[112, 117, 115, 104]⟩ [112, 117, 115, 104] rfl)
        go_wp2_with (at_builtin; refine Heap.wpList_append_row _ rfl (.tmp 92) (.tmp 93) 27 rfl 9 i0 _ 1 16 Tryd.underlying27 hi hz0 hz1 hz2 rfl (by decide) _ l6.length _ rfl HG.out.1 ⟨wc.heap.size, 0, none⟩ 1 1 [.string (⟨#[112, 117, 115, 104]⟩)] rfl rfl (news_str wc (⟨#[112, 117, 115, 104]⟩) _) (by simp [Value.oneCell']) (by unfold maxLen; omega) (by omega) ?_)
        intro v2 w9 r3 t3 o3
        have HF := Lib.hid (HG.out.2 v2 w9 r3 t3 o3)
        clear r3 t3 o3
        go_wp2_with fail
        go_meet
        exact ⟨v2, rfl, by rw [← HEQ.out]; exact HF.out⟩
      | false =>
        have heq : l6 ++ [] = l7 := HL7.out
        have HEQ := Lib.hid heq
        clear heq
        go_wp2_with fail
        go_meet
        exact ⟨_, rfl, by rw [← HEQ.out, List.append_nil]; exact HAW.out⟩
    case rest =>
    obtain ⟨v5, rfl, haw⟩ := hcut
    have HAW := Lib.hid haw
    clear haw y0 y1 y2 y3 y4 y5 y6 y7 y8 y9 yf
    obtain ⟨y0, y1, y2, y3, y4, y5, y6, y7, y8, y9, yf⟩ := ten (HBOX.out wc HAW.out.1)
    have hj := joinT_any ⟨#[32]⟩ l7 _ wc (strs_row HAW.out.2.1) HNE.out rfl (by have := HWL.out; omega) HWB.out
    obtain ⟨JT, hJT⟩ : ∃ JT : ByteArray, JT = ⟨(Lib.join l7 (⟨#[32]⟩ : ByteArray).data.toList).toArray⟩ := ⟨_, rfl⟩
    rw [← hJT] at hj
    have HJ := Lib.hid hj
    have hrj : res = (JT.data.toList, 0) := by rw [HR.out, hJT]; unfold textT; rw [HL.out]
    have HRJ := Lib.hid hrj
    have HBE := Lib.hid HAW.out.1
    clear hj hJT hrj y0 y1 y2 y3 y4 y5 y6 y7 y8 y9 yf HL0 HL1 HL2 HL3 HL4 HL5 HL6 HL7 HL HR HWB HNE HWL HAW HBOX HBK2 HTL HML HG7 HN hi hz0 hz1 hz2 k1 k2 k3 k4 k5 k6 k7
    go_wp2_with fail
    refine HJ.out.mono ?_
    rintro e w' ⟨rfl, hb'⟩
    have HFI := Lib.hid (HI2.out.step (HBE.out.trans (hb'.mono HBE.out.size)))
    clear hb' HJ
    go_wp2
    go_ret2
    refine ⟨?_, HFI.out⟩
    rw [HRJ.out]
    rfl
  · have hr : res = ([], er) := by rw [← HRES.out]; unfold printT; rw [HER.out, if_neg he]
    have dn : ((er : Int) != 0) = true := by simpa using he
    have HR := Lib.hid hr
    clear he hr
    go_wp2
    go_ret2
    exact ⟨by rw [HR.out]; rfl, HI2.out⟩

end Go.Proofs.YtglgbidcmkncgaaDoor.Subj
