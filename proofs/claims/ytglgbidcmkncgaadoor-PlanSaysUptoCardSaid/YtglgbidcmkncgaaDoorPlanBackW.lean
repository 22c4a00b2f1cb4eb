/- The law PlanBack, walked: it returns true. -/
import Derived.Test.YtglgbidcmkncgaaDoorPlanSay2
import Derived.Test.YtglgbidcmkncgaaDoorPlanReads
namespace Go.Proofs.YtglgbidcmkncgaaDoor.Subj
open Go.RowKit

theorem itoa_three : Lib.itoa 3 = [51] := by
  unfold Lib.itoa
  rw [if_neg (by decide)]
  show Lib.decDigits 3 = _
  rw [Lib.decDigits, dif_pos (by decide)]
  rfl

theorem lit_print : printR [115] [[97, 46, 62], [98]] [0, 0, 0, 3, 0, 0, 0, 0] = ([115, 32, 97, 46, 62, 44, 98, 32, 112, 101, 114, 61, 51], 0) := by
  have h1 : planErr [115] [[97, 46, 62], [98]] [0, 0, 0, 3, 0, 0, 0, 0] = 0 := by decide
  have h2 : hasComma [[97, 46, 62], [98]] = false := by decide
  unfold printR
  rw [h1, h2]
  simp only [if_true, Bool.false_eq_true, if_false]
  unfold printL
  rw [tail_eight]
  simp [tailD, words, wordOf, itoa_three]
  decide

theorem lit_strs (w : World) : Strs (w.alloc (.cells #[.string ⟨#[97, 46, 62]⟩, .string ⟨#[98]⟩] 9)) (.slice (some ⟨w.heap.size, 0, none⟩) 2 2) [[97, 46, 62], [98]] :=
  ⟨_, 2, rfl, Nat.le_refl _, fun _ => ⟨w.heap.size, 0, rfl, fun k hk => by
    rw [World.cell?_alloc_at _ _ _ _ rfl]
    rcases k with _ | _ | k
    · rfl
    · rfl
    · simp at hk; omega⟩⟩

theorem lit_small : Small [[97, 46, 62], [98]] := fun i => by
  rcases i with _ | _ | i <;> simp [List.getD]

/-- What is printed, if nothing is wrong. -/
theorem printR_zero {name : List UInt8} {fs : List Tok} {vs : List Int} {t : List UInt8} (h : printR name fs vs = (t, 0)) : planErr name fs vs = 0 ∧ hasComma fs = false ∧ t = printL name fs vs := by
  unfold printR at h
  split at h
  · rename_i h1
    split at h
    · cases h
    · rename_i h2
      simp only [Prod.mk.injEq, and_true] at h
      exact ⟨h1, by simpa using h2, h.symm⟩
  · rename_i h1
    simp only [Prod.mk.injEq] at h
    exact absurd h.2 h1

/-- What is read, if nothing is wrong. -/
theorem ParsePost.ok {W w : World} {name : List UInt8} {fs : List Tok} {vs : List Int} {e : Ending} (h : ParsePost W (some ⟨name, fs, vs⟩, 0) e w) :
    Inv W w ∧ ∃ (nm : ByteArray) (bo : Option Addr) (cap : Nat) (x0 x1 x2 x3 x4 x5 x6 x7 : Int), e = .returned (.tuple #[.agg #[.string nm, .slice bo fs.length cap, .int .i64 x0, .int .i64 x1, .int .i64 x2, .int .i64 x3, .int .i64 x4, .int .i64 x5, .int .i64 x6, .int .i64 x7], .int .i64 0]) ∧ nm.data.toList = name ∧ Strs w (.slice bo fs.length cap) fs ∧ vs = [x0, x1, x2, x3, x4, x5, x6, x7] := by
  obtain ⟨hI, nm, v, x0, x1, x2, x3, x4, x5, x6, x7, rfl, h1, h2, h3⟩ := h
  obtain ⟨bo, cap, rfl, hh⟩ := h2
  exact ⟨hI, nm, bo, cap, x0, x1, x2, x3, x4, x5, x6, x7, rfl, h1, ⟨bo, cap, rfl, hh⟩, h3⟩

theorem ParsePost.bad {W w : World} {er : Nat} {e : Ending} (h : ParsePost W (none, er) e w) :
    Inv W w ∧ e = .returned (.tuple #[.agg #[.string ⟨#[]⟩, .slice none 0 0, .int .i64 0, .int .i64 0, .int .i64 0, .int .i64 0, .int .i64 0, .int .i64 0, .int .i64 0, .int .i64 0], .int .i64 er]) := by
  obtain ⟨hI, nm, v, x0, x1, x2, x3, x4, x5, x6, x7, rfl, rfl, rfl, h3⟩ := h
  simp only [List.replicate, List.cons.injEq, and_true] at h3
  obtain ⟨rfl, rfl, rfl, rfl, rfl, rfl, rfl, rfl⟩ := h3
  exact ⟨hI, rfl⟩

theorem parseP_ways (s : List UInt8) : (∃ p, parseP s = (some p, 0)) ∨ ∃ er, er ≠ 0 ∧ parseP s = (none, er) := by
  unfold parseP
  split
  · exact .inr ⟨_, by decide, rfl⟩
  · split
    · split
      · split
        · exact .inl ⟨_, rfl⟩
        · rename_i h; exact .inr ⟨_, h, rfl⟩
      · exact .inr ⟨_, by decide, rfl⟩
    · exact .inr ⟨_, by decide, rfl⟩

set_option maxHeartbeats 4000000 in
set_option maxRecDepth 100000 in
theorem planBack_walk (name : ByteArray) (ao : Option Addr) (n cap : Nat) (fs : List Tok) (x0 x1 x2 x3 x4 x5 x6 x7 : Int) (s : ByteArray) (w : World) (hnm : name.size ≤ 1048576) (hn : fs.length = n) (hnl : n ≤ 1048576) (hS : Strs w (.slice ao n cap) fs) (hz : Small fs) (hs : s.size ≤ 1048576) (hm : ML w) (ht : TenLaid w) :
    Calls Tryd.prog 10 #[.agg #[.string name, .slice ao n cap, .int .i64 x0, .int .i64 x1, .int .i64 x2, .int .i64 x3, .int .i64 x4, .int .i64 x5, .int .i64 x6, .int .i64 x7], .string s] w (IsRet w true) := by
  obtain ⟨w1, hw1⟩ : ∃ w1, w1 = w.alloc (.cells #[.string name, .slice ao n cap, .int .i64 x0, .int .i64 x1, .int .i64 x2, .int .i64 x3, .int .i64 x4, .int .i64 x5, .int .i64 x6, .int .i64 x7] 29) := ⟨_, rfl⟩
  have hI1 : Inv w w1 := by rw [hw1]; exact Inv.made hm _
  have hB1 := ten_alloc w 29 (.string name) (.slice ao n cap) (.int .i64 x0) (.int .i64 x1) (.int .i64 x2) (.int .i64 x3) (.int .i64 x4) (.int .i64 x5) (.int .i64 x6) (.int .i64 x7)
  rw [← hw1] at hB1
  have hS1 := hS.below hI1.2
  obtain ⟨w2, hw2⟩ : ∃ w2, w2 = w1.alloc (.cells #[.string ⟨#[97, 46, 62]⟩, .string ⟨#[98]⟩] 9) := ⟨_, rfl⟩
  have hb2 : Below w1.heap.size w1 w2 := by rw [hw2]; exact (Below.refl _ _).alloc (Nat.le_refl _) _
  have hI2 : Inv w w2 := hI1.step hb2
  have hB2 := (hb2.block _ (Array.getElem?_eq_some_iff.1 hB1).1).trans hB1
  have hp := print_any ⟨#[115]⟩ (some ⟨w1.heap.size, 0, none⟩) 2 2 [[97, 46, 62], [98]] 0 0 0 3 0 0 0 0 w2 (by decide) rfl (by decide) (by rw [hw2]; exact lit_strs w1) lit_small hI2.1 (ht.inv hI2)
  have hlit : printR (⟨#[115]⟩ : ByteArray).data.toList [[97, 46, 62], [98]] [0, 0, 0, 3, 0, 0, 0, 0] = ([115, 32, 97, 46, 62, 44, 98, 32, 112, 101, 114, 61, 51], 0) := lit_print
  rw [hlit] at hp
  have HP := Lib.hid hp; have HI2 := Lib.hid hI2; have HB2 := Lib.hid hB2; have HS2 := Lib.hid (hS1.below hb2)
  have HPR := Lib.hid (fun wr (h : Inv w wr) (q : Strs wr (.slice ao n cap) fs) => print_any name ao n cap fs x0 x1 x2 x3 x4 x5 x6 x7 wr (by unfold maxLen; omega) hn hnl q hz h.1 (ht.inv h))
  have HPA := Lib.hid (fun wr (h : Inv w wr) (t : ByteArray) (q : t.size ≤ 1048576) => parse_any t wr (by unfold maxLen; omega) h.1)
  have HT := Lib.hid ht; have HN := Lib.hid hn; have HS := Lib.hid hs
  clear hp hlit hI1 hI2 hB1 hB2 hS1 hb2 hS hz hm ht hnm hnl hs hn
  go_enter Tryd.func10, Tryd.ntmps10
  go_upto_region 1 with fail
  rw [← hw1]
  have HW2 := Lib.hid hw2
  have HW1 := Lib.hid hw1
  clear hw1 hw2
  go_wp2_with fail
  rw [← HW2.out]
  refine HP.out.mono ?_
  rintro e w3 ⟨rfl, hI3⟩
  have HB3 := Lib.hid (hI3.blk HB2.out)
  have HS3 := Lib.hid (HS2.out.below hI3.2)
  have HI3 := Lib.hid (HI2.out.thru hI3)
  clear hI3 HB2 HS2 HI2 HP
  obtain ⟨y0, y1, y2, y3, y4, y5, y6, y7, y8, y9, yf⟩ := ten HB3.out
  go_wp2_with fail
  have HPR3 := Lib.hid (HPR.out _ HI3.out HS3.out)
  clear HPR
  obtain ⟨pr, hpr⟩ : ∃ pr, printR name.data.toList fs [x0, x1, x2, x3, x4, x5, x6, x7] = pr := ⟨_, rfl⟩
  rw [hpr] at HPR3
  obtain ⟨t, er⟩ := pr
  refine HPR3.out.mono ?_
  rintro e w4 ⟨rfl, hI4⟩
  have HB4 := Lib.hid (hI4.blk HB3.out)
  have HS4 := Lib.hid (HS3.out.below hI4.2)
  have HI4 := Lib.hid (HI3.out.thru hI4)
  have HPRE := Lib.hid hpr
  clear hI4 HB3 HS3 HI3 HPR3 hpr y0 y1 y2 y3 y4 y5 y6 y7 y8 y9 yf
  go_upto_if 32 with fail
  go_cut [] (fun wx => Inv w wx)
  case first =>
    by_cases he : er = 0
    · subst he
      obtain ⟨f1, f2, f3⟩ := printR_zero HPRE.out
      have hpt : parseP t = (some ⟨name.data.toList, fs, [x0, x1, x2, x3, x4, x5, x6, x7]⟩, 0) := by rw [f3]; exact parse_print f1 rfl f2
      have hlen : t.length ≤ 1024 := by rw [f3]; exact printL_len f1
      have hpa : Calls Tryd.prog 17 #[.string ⟨t.toArray⟩] w4 (ParsePost w4 (some ⟨name.data.toList, fs, [x0, x1, x2, x3, x4, x5, x6, x7]⟩, 0)) := by
        have := HPA.out _ HI4.out ⟨t.toArray⟩ (by show t.toArray.size ≤ _; rw [List.size_toArray]; omega)
        rw [show parseP (⟨t.toArray⟩ : ByteArray).data.toList = _ from hpt] at this
        exact this
      have hfl : fs.length ≤ 9223372036854775807 := by have := (plan_facts f1).2.2.1; omega
      have HPA4 := Lib.hid hpa; have HFL := Lib.hid hfl
      clear hpa hpt hlen f1 f2 f3 hfl HPRE HPA
      go_wp2_with fail
      refine HPA4.out.mono ?_
      intro e w5 hpost
      obtain ⟨hI5, nm, bo, cap', z0, z1, z2, z3, z4, z5, z6, z7, rfl, hn', hS', hv'⟩ := hpost.ok
      obtain rfl : name = nm := bytes_eq hn'.symm
      simp only [List.cons.injEq, and_true] at hv'
      obtain ⟨rfl, rfl, rfl, rfl, rfl, rfl, rfl, rfl⟩ := hv'
      obtain ⟨w6, hw6⟩ : ∃ w6, w6 = w5.alloc (.cells #[.string name, .slice bo fs.length cap', .int .i64 x0, .int .i64 x1, .int .i64 x2, .int .i64 x3, .int .i64 x4, .int .i64 x5, .int .i64 x6, .int .i64 x7] 29) := ⟨_, rfl⟩
      have hB6 := ten_alloc w5 29 (.string name) (.slice bo fs.length cap') (.int .i64 x0) (.int .i64 x1) (.int .i64 x2) (.int .i64 x3) (.int .i64 x4) (.int .i64 x5) (.int .i64 x6) (.int .i64 x7)
      rw [← hw6] at hB6
      have hb6 : Below w5.heap.size w5 w6 := by rw [hw6]; go_grown
      have hA6 := (hI5.step hb6).blk HB4.out
      have HSA := Lib.hid (HS4.out.below (hI5.step hb6).2); have HSB := Lib.hid (hS'.below hb6)
      have HI6 := Lib.hid (HI4.out.thru (hI5.step hb6))
      obtain ⟨y0, y1, y2, y3, y4, y5, y6, y7, y8, y9, yf⟩ := ten hA6
      obtain ⟨z0, z1, z2, z3, z4, z5, z6, z7, z8, z9, zf⟩ := ten hB6
      clear hn' hS' hB6 hA6 hb6 hI5 hpost HB4 HS4 HI4 HPA4
      go_upto_region 7 with fail
      rw [← hw6]
      clear hw6
      go_wp2_with fail
      refine (same_true _ _ _ _ _ _ _ _ _ _ _ _ _ HFL.out HSB.out HSA.out HI6.out.1).mono ?_
      rintro e w7 ⟨rfl, hI7⟩
      have HI7 := Lib.hid (HI6.out.thru hI7)
      clear hI7 HI6 HSA HSB y0 y1 y2 y3 y4 y5 y6 y7 y8 y9 z0 z1 z2 z3 z4 z5 z6 z7 z8 z9 yf zf
      go_wp2_with fail
      go_meet
      exact HI7.out
    · have hd : ((er : Int) == 0) = false := by simpa using he
      go_wp2_with fail
      go_meet
      exact HI4.out
  case rest =>
    have HIC := Lib.hid hcut
    clear hcut
    have hpa := HPA.out _ HIC.out s HS.out
    clear HPA HPRE HB4 HS4 HI4 HS
    rcases parseP_ways s.data.toList with ⟨⟨nl, fl, vl⟩, hp⟩ | ⟨er, her, hp⟩
    · obtain ⟨c1, c2, c3, c4⟩ := print_parse hp
      rw [hp] at hpa
      have HPA := Lib.hid hpa
      have HC := Lib.hid (⟨c1, c2, c3⟩ : hasComma fl = false ∧ printL nl fl vl = s.data.toList ∧ planErr nl fl vl = 0)
      clear hpa hp c1 c2 c3 c4
      go_wp2_with fail
      refine HPA.out.mono ?_
      intro e w5 hpost
      obtain ⟨hI5, nm, bo, cap', z0, z1, z2, z3, z4, z5, z6, z7, rfl, hn', hS', hv'⟩ := hpost.ok
      obtain ⟨c1, c2, c3⟩ := HC.out
      subst hn' hv'
      obtain ⟨g1, _, g3, g4, _⟩ := plan_facts c3
      have hnz : nm.size ≤ maxLen := by have := (name_facts g1).2; unfold maxLen; simp at this; omega
      have hsm : Small fl := fun i => by
        by_cases hi : i < fl.length
        · have := (filter_facts (g4 (fl.getD i []) (by simp [List.getD, hi]))).2; omega
        · simp [List.getD, show fl.length ≤ i by omega]
      obtain ⟨w6, hw6⟩ : ∃ w6, w6 = w5.alloc (.cells #[.string nm, .slice bo fl.length cap', .int .i64 z0, .int .i64 z1, .int .i64 z2, .int .i64 z3, .int .i64 z4, .int .i64 z5, .int .i64 z6, .int .i64 z7] 29) := ⟨_, rfl⟩
      have hB6 := ten_alloc w5 29 (.string nm) (.slice bo fl.length cap') (.int .i64 z0) (.int .i64 z1) (.int .i64 z2) (.int .i64 z3) (.int .i64 z4) (.int .i64 z5) (.int .i64 z6) (.int .i64 z7)
      rw [← hw6] at hB6
      have hb6 : Below w5.heap.size w5 w6 := by rw [hw6]; go_grown
      have hI6 := HIC.out.thru (hI5.step hb6)
      have hS6 := hS'.below hb6
      have hpr := print_any nm bo fl.length cap' fl z0 z1 z2 z3 z4 z5 z6 z7 w6 hnz rfl (by omega) hS6 hsm hI6.1 (HT.out.inv hI6)
      have hprr : printR nm.data.toList fl [z0, z1, z2, z3, z4, z5, z6, z7] = (s.data.toList, 0) := by
        unfold printR; rw [c1, c3, c2]; rfl
      rw [hprr] at hpr
      have HB6 := Lib.hid hB6; have HI6 := Lib.hid hI6; have HS6 := Lib.hid hS6; have HPR6 := Lib.hid hpr
      have HCK := Lib.hid (fun wr (h : Inv w6 wr) => (by have := check_any nm (.slice bo fl.length cap') fl z0 z1 z2 z3 z4 z5 z6 z7 wr hnz (hS6.below h.2) hsm h.1; rw [c3] at this; exact this : Calls Tryd.prog 48 #[.agg #[.string nm, .slice bo fl.length cap', .int .i64 z0, .int .i64 z1, .int .i64 z2, .int .i64 z3, .int .i64 z4, .int .i64 z5, .int .i64 z6, .int .i64 z7]] wr (IntRet wr 0)))
      obtain ⟨y0, y1, y2, y3, y4, y5, y6, y7, y8, y9, yf⟩ := ten hB6
      clear hpr hprr hS6 hI6 hb6 hB6 hI5 hS' hpost c1 c2 c3 g1 g3 g4 hnz hsm HC HPA HIC
      go_upto_region 10 with fail
      rw [← hw6]
      clear hw6
      go_wp2_with fail
      refine HPR6.out.mono ?_
      rintro e w7 ⟨rfl, hI7⟩
      have hB7 := hI7.blk HB6.out
      have HI7 := Lib.hid hI7
      have HCK7 := Lib.hid (HCK.out _ hI7)
      clear hI7 y0 y1 y2 y3 y4 y5 y6 y7 y8 y9 yf HB6 HS6 HPR6 HCK
      obtain ⟨y0, y1, y2, y3, y4, y5, y6, y7, y8, y9, yf⟩ := ten hB7
      clear hB7
      go_wp2_with fail
      refine HCK7.out.mono ?_
      rintro e w8 ⟨rfl, hI8⟩
      have HI8 := Lib.hid (HI6.out.thru (HI7.out.thru hI8))
      clear hI8 y0 y1 y2 y3 y4 y5 y6 y7 y8 y9 yf HI7 HI6 HCK7
      go_wp2
      go_ret
      exact ⟨by simp, HI8.out⟩
    · rw [hp] at hpa
      have hd : ((er : Int) != 0) = true := by simpa using her
      have HPA := Lib.hid hpa
      clear hpa hp her
      go_wp2_with fail
      refine HPA.out.mono ?_
      intro e w5 hpost
      obtain ⟨hI5, rfl⟩ := hpost.bad
      have HI5 := Lib.hid (HIC.out.thru hI5)
      clear hI5 hpost HPA HIC
      go_wp2
      go_ret
      exact ⟨by simp, HI5.out.step (by go_grown)⟩

end Go.Proofs.YtglgbidcmkncgaaDoor.Subj
