/- plan.Print, walked. -/
import Derived.Test.YtglgbidcmkncgaaDoorPlanSay
namespace Go.Proofs.YtglgbidcmkncgaaDoor.Subj
open Go.RowKit
open Go.Sort (grow)

set_option maxHeartbeats 4000000 in
set_option maxRecDepth 100000 in
theorem print_any (name : ByteArray) (ao : Option Addr) (n cap : Nat) (fs : List Tok) (x0 x1 x2 x3 x4 x5 x6 x7 : Int) (w : World) (hnm : name.size ≤ maxLen) (hn : fs.length = n) (hnl : n ≤ 1048576) (hS : Strs w (.slice ao n cap) fs) (hz : Small fs) (hm : ML w) (ht : TenLaid w) :
    Calls Tryd.prog 47 #[.agg #[.string name, .slice ao n cap, .int .i64 x0, .int .i64 x1, .int .i64 x2, .int .i64 x3, .int .i64 x4, .int .i64 x5, .int .i64 x6, .int .i64 x7]] w (PrintPost w (printR name.data.toList fs [x0, x1, x2, x3, x4, x5, x6, x7])) := by
  obtain ⟨res, hres⟩ : ∃ res, printR name.data.toList fs [x0, x1, x2, x3, x4, x5, x6, x7] = res := ⟨_, rfl⟩
  rw [hres]
  obtain ⟨w1, hw1⟩ : ∃ w1, w1 = w.alloc (.cells #[.string name, .slice ao n cap, .int .i64 x0, .int .i64 x1, .int .i64 x2, .int .i64 x3, .int .i64 x4, .int .i64 x5, .int .i64 x6, .int .i64 x7] 29) := ⟨_, rfl⟩
  have hI1 : Inv w w1 := by rw [hw1]; exact Inv.made hm _
  have hB1 : w1.heap[w.heap.size]? = some (.cells #[.string name, .slice ao n cap, .int .i64 x0, .int .i64 x1, .int .i64 x2, .int .i64 x3, .int .i64 x4, .int .i64 x5, .int .i64 x6, .int .i64 x7] 29 (0, 0)) := by rw [hw1]; exact heap_alloc_new w _
  have hS1 := hS.below hI1.2
  have hck := check_any name (.slice ao n cap) fs x0 x1 x2 x3 x4 x5 x6 x7 w1 hnm hS1 hz hI1.1
  generalize hpe : planErr name.data.toList fs [x0, x1, x2, x3, x4, x5, x6, x7] = er at *
  have hck' : Calls Tryd.prog 48 #[.agg #[.string name, .slice ao n cap, .int .i64 x0, .int .i64 x1, .int .i64 x2, .int .i64 x3, .int .i64 x4, .int .i64 x5, .int .i64 x6, .int .i64 x7]] w1 (IntRet w1 er) := hck
  have HI1 := Lib.hid hI1; have HB1 := Lib.hid hB1; have HS1 := Lib.hid hS1; have HCK := Lib.hid hck'; have HPE := Lib.hid hpe; have HRES := Lib.hid hres; have HT := Lib.hid ht; have HN := Lib.hid hn
  clear hI1 hB1 hS1 hck hck' hpe hres ht hS hm hz hn
  go_enter Tryd.func47, Tryd.ntmps47
  go_upto_region 1 with fail
  rw [← hw1]
  obtain ⟨y0, y1, y2, y3, y4, y5, y6, y7, y8, y9, yf⟩ := ten HB1.out
  have HW1 := Lib.hid hw1
  clear hw1
  go_wp2_with fail
  refine HCK.out.mono ?_
  rintro e w2 ⟨rfl, hI2⟩
  have HI2 := Lib.hid (HI1.out.thru hI2)
  have HB2 := Lib.hid (hI2.blk HB1.out)
  have HS2 := Lib.hid (HS1.out.below hI2.2)
  clear hI2 y0 y1 y2 y3 y4 y5 y6 y7 y8 y9 yf HS1 HB1 HCK
  by_cases he : er = 0
  · subst he
    obtain ⟨pf1, pf2, pf3, pf4, pf5⟩ := plan_facts HPE.out
    have hcm := contains_comma fs _ w2 HS2.out (by rw [HN.out]; exact hnl)
    obtain ⟨y0, y1, y2, y3, y4, y5, y6, y7, y8, y9, yf⟩ := ten HB2.out
    cases hc : hasComma fs with
    | true =>
      rw [hc] at hcm
      have hr : res = ([], 3) := by rw [← HRES.out]; unfold printR; rw [HPE.out, hc]; rfl
      have HCM := Lib.hid hcm; have HR := Lib.hid hr
      clear hcm hc hr pf1 pf2 pf3 pf4 pf5
      go_wp2_with fail
      refine HCM.out.mono ?_
      rintro e w3 ⟨rfl, rfl⟩
      go_wp2
      go_ret2
      exact ⟨by rw [HR.out]; rfl, HI2.out⟩
    | false =>
      rw [hc] at hcm
      have hr : res = (printL name.data.toList fs [x0, x1, x2, x3, x4, x5, x6, x7], 0) := by rw [← HRES.out]; unfold printR; rw [HPE.out, hc]; rfl
      have hne : fs ≠ [] := by intro e; rw [e] at pf2; simp at pf2
      have HJ := Lib.hid fun wr (h : Strs wr (.slice ao n cap) fs) => join_any fs _ wr h hne pf3 (fun f hf => (filter_facts (pf4 f hf)).2)
      have hnms : name.size ≤ 16 := by have := (name_facts pf1).2; simpa using this
      have hjl : (joinC fs).length ≤ 548 := by
        have h1 := joinC_len 136 fs (fun f hf => (filter_facts (pf4 f hf)).2)
        have h2 : fs.length * (136 + 1) ≤ 4 * 137 := Nat.mul_le_mul pf3 (by omega)
        omega
      have HVB := Lib.hid (inAll_bound pf5)
      have HCM := Lib.hid hcm; have HR := Lib.hid hr
      clear hcm hc hr pf1 pf2 pf3 pf4 pf5 hne
      go_wp2_with fail
      refine HCM.out.mono ?_
      rintro e w3 ⟨rfl, rfl⟩
      go_upto_region 6 with fail
      have HJ1 := Lib.hid (HJ.out w2.drew (show Strs w2.drew (.slice ao n cap) fs from HS2.out))
      clear HJ
      go_cut [5] (fun s5 wx => (∃ o : ByteArray, s5 = .string o ∧ o.data.toList = name.data.toList ++ [32] ++ joinC fs ∧ o.size ≤ 800) ∧ Inv w2 wx)
      case first =>
        have HI2S := Lib.hid (Inv.refl HI2.out.1)
        have hjs : (⟨(joinC fs).toArray⟩ : ByteArray).size ≤ 548 := by show (List.toArray _).size ≤ _; simpa using hjl
        have HK := Lib.hid (fun w' (h : Below w2.drew.heap.size w2.drew w') => (⟨(h.cell (p := ⟨w.heap.size, 0, none⟩) (World.block_lt_of_cell? w2 _ y0)).trans y0, (h.cell (p := ⟨w.heap.size, 1, none⟩) (World.block_lt_of_cell? w2 _ y1)).trans y1⟩ : w'.cell? ⟨w.heap.size, 0, none⟩ = some (.string name) ∧ w'.cell? ⟨w.heap.size, 1, none⟩ = some (.slice ao n cap)))
        clear hnm
        have hs1 : ¬ 9223372036854775807 < name.size + 1 := by omega
        have hs2 : ¬ 9223372036854775807 < name.size + 1 + (joinC fs).length := by omega
        go_region_held3 (fun w' => w'.cell? ⟨w.heap.size, 0, none⟩ = some (.string name) ∧ w'.cell? ⟨w.heap.size, 1, none⟩ = some (.slice ao n cap)) (first | (with_reducible exact ⟨k0, k1⟩) | go_keep)
          (first
            | (go_at_call 53; ((with_reducible refine HJ1.out.mono ?_); rintro e w' ⟨rfl, h2⟩; obtain ⟨k0, k1⟩ := HK.out _ h2; have HB := Lib.hid h2; clear h2)))
        all_goals
          go_wp2_with fail
          go_meet
          refine ⟨⟨_, rfl, by simp, ?_⟩, (HI2S.out.step (below_drewN (Below.refl _ _) 1)).step HB.out⟩
          rw [ByteArray.size_append, ByteArray.size_append]
          have h1 : (⟨#[32]⟩ : ByteArray).size = 1 := rfl
          omega
      case rest =>
        obtain ⟨⟨o, rfl, ho, hos⟩, hI3⟩ := hcut
        have hV3 : ValsAt w.heap.size [x0, x1, x2, x3, x4, x5, x6, x7] wc := by
          have h := hI3.blk HB2.out
          intro k hk
          rw [cell_of_row wc w.heap.size (2 + k) _ _ (0, 0) h]
          rcases k with _ | _ | _ | _ | _ | _ | _ | _ | k
          all_goals first | rfl | omega
        have HV3 := Lib.hid hV3
        have HI3 := Lib.hid (HI2.out.thru hI3)
        have hO : OutAt (name.data.toList ++ [32] ++ joinC fs) [x0, x1, x2, x3, x4, x5, x6, x7] 0 (.string o) := ⟨o, rfl, by rw [ho, tailK_zero, List.append_nil], by omega⟩
        have HO := Lib.hid hO
        clear hV3 hI3 hO ho hos hnm y0 y1 y2 y3 y4 y5 y6 y7 y8 y9 yf HJ1 HS2 HB2 HI2
        go_wp2_with fail
        refine (bounds_any _ _).mono ?_
        rintro e w4 ⟨rfl, hb4, hB4⟩
        have HB4 := Lib.hid hb4
        have HV4 := Lib.hid (HV3.out.below hB4)
        have HI4 := Lib.hid (HI3.out.step hB4)
        have HIL := Lib.hid (Inv.refl HI4.out.1)
        have HT4 := Lib.hid (HT.out.inv HI4.out)
        clear hb4 hB4
        generalize wc.heap.size = G at *
        generalize [x0, x1, x2, x3, x4, x5, x6, x7] = vs at *
        go_wp2_with fail
        go_loopw [5, 7, 25] (fun s5 _ i wr => ∃ k : Nat, k ≤ 8 ∧ i = .int .i64 k ∧ OutAt (name.data.toList ++ [32] ++ joinC fs) vs k s5 ∧ Hid (Inv w4 wr)) (fun _ _ i _ => 8 - (intOf i).toNat)
        case atStart => exact ⟨0, Nat.zero_le _, rfl, HO.out, HIL⟩
        case round =>
          obtain ⟨k, hk, rfl, ⟨o', rfl, ho, hos⟩, HW⟩ := hrel
          by_cases hlt : k < 8
          · have hltz : (k : Int) < 8 := by omega
            obtain ⟨b0, b1, b2⟩ := (HB4.out.below HW.out.2) k hlt
            have hcv := (HV4.out.below HW.out.2) k hlt
            have hwd := wordAt_size k
            have hxb := HVB.out k hlt
            have hwl : (wordAt k).data.toList = words.getD k [] := rfl
            obtain ⟨x, hx⟩ : ∃ x, vs.getD k 0 = x := ⟨_, rfl⟩
            have HYES := Lib.hid (fun (h : 0 < x) => (by rw [tailK_told (by rw [hx]; exact h), hx, ← hwl] : tailK vs (k + 1) = tailK vs k ++ ([32] ++ (wordAt k).data.toList ++ [61] ++ Lib.itoa x)))
            have HNO := Lib.hid (fun (h : ¬ 0 < x) => (tailK_not (by rw [hx]; exact h) : tailK vs (k + 1) = tailK vs k))
            rw [hx] at hcv hxb
            have HHO := Lib.hid ho
            clear hx hwl ho
            generalize wordAt k = wd at *
            go_upto_region 10 with fail
            obtain ⟨W3, hW3⟩ : ∃ W3, W3 = wr.alloc (.cells #[.string wd, .pointer (some ⟨w.heap.size, 2 + k, none⟩), .int .i64 (mostAt k)] 93) := ⟨_, rfl⟩
            rw [← hW3]
            have hB3 : Below wr.heap.size wr W3 := by rw [hW3]; exact (Below.refl _ _).alloc (Nat.le_refl _) _
            have d0 : W3.cell? ⟨wr.heap.size, 0, none⟩ = some (.string wd) := by rw [hW3]; rw [World.cell?_alloc_at _ _ _ _ rfl]; rfl
            have d1 : W3.cell? ⟨wr.heap.size, 1, none⟩ = some (.pointer (some ⟨w.heap.size, 2 + k, none⟩)) := by rw [hW3]; rw [World.cell?_alloc_at _ _ _ _ rfl]; rfl
            have d2 := (hB3.cell (World.block_lt_of_cell? wr _ hcv)).trans hcv
            have HW3 := Lib.hid (HW.out.step hB3)
            clear hW3 b0 b1 b2 hcv hB3
            by_cases hp : 0 < x
            · have HTL := Lib.hid (HYES.out hp)
              have HIT := Lib.hid (itoa_any x (by omega) (by omega) W3.drew (HT4.out.inv (HW3.out.step (below_drewN (Below.refl _ _) 1))))
              have hil := itoa_len (v := x) (by omega) (by omega)
              have HK := Lib.hid (fun w' (h : Below W3.drew.heap.size W3.drew w') => (⟨(h.cell (p := ⟨wr.heap.size, 0, none⟩) (World.block_lt_of_cell? W3 _ d0)).trans d0, (h.cell (p := ⟨wr.heap.size, 1, none⟩) (World.block_lt_of_cell? W3 _ d1)).trans d1, (h.cell (p := ⟨w.heap.size, 2 + k, none⟩) (World.block_lt_of_cell? W3 _ d2)).trans d2⟩ : w'.cell? ⟨wr.heap.size, 0, none⟩ = some (.string wd) ∧ w'.cell? ⟨wr.heap.size, 1, none⟩ = some (.pointer (some ⟨w.heap.size, 2 + k, none⟩)) ∧ w'.cell? ⟨w.heap.size, 2 + k, none⟩ = some (.int .i64 x)))
              have q1 : ¬ 9223372036854775807 < 1 + wd.size := by omega
              have q2 : ¬ 9223372036854775807 < 1 + wd.size + 1 := by omega
              have q3 : ¬ 9223372036854775807 < 1 + wd.size + 1 + (Lib.itoa x).length := by omega
              have q4 : ¬ 9223372036854775807 < o'.size + (1 + wd.size + 1 + (Lib.itoa x).length) := by omega
              have hws : wd.size ≤ 7 ∧ o'.size ≤ 800 + 18 * k := ⟨hwd, hos⟩
              have HWS := Lib.hid hws
              clear hwd hos hws HO HT4 HVB HB4 HV4 HNO HYES
              go_wp2_with fail
              go_region_held3 (fun w' => w'.cell? ⟨wr.heap.size, 0, none⟩ = some (.string wd) ∧ w'.cell? ⟨wr.heap.size, 1, none⟩ = some (.pointer (some ⟨w.heap.size, 2 + k, none⟩)) ∧ w'.cell? ⟨w.heap.size, 2 + k, none⟩ = some (.int .i64 x)) (first | (with_reducible exact ⟨k0, k1, k2⟩) | go_keep)
                (first
                  | (go_at_call 86; ((with_reducible refine HIT.out.mono ?_); rintro e w' ⟨rfl, h2⟩; obtain ⟨k0, k1, k2⟩ := HK.out _ h2; have HB := Lib.hid h2; clear h2)))
              all_goals
                go_wp2_with fail
                refine ⟨⟨k + 1, by omega, by go_num, ⟨_, rfl, ?_, ?_⟩, Lib.hid ((HW3.out.step (below_drewN (Below.refl _ _) 1)).step HB.out)⟩, by simp [intOf]; omega⟩
                · rw [HTL.out]; simp [HHO.out]
                · simp only [ByteArray.size_append]
                  have h1 : (⟨#[32]⟩ : ByteArray).size = 1 := rfl
                  have h2 : (⟨#[61]⟩ : ByteArray).size = 1 := rfl
                  have h3 : (⟨(Lib.itoa x).toArray⟩ : ByteArray).size = (Lib.itoa x).length := by show (List.toArray _).size = _; simp
                  have h4 := HWS.out
                  omega
            · have HTN := Lib.hid (HNO.out hp)
              go_wp2_with fail
              exact ⟨⟨k + 1, by omega, by go_num, ⟨_, rfl, by rw [HTN.out]; exact HHO.out, by omega⟩, HW3⟩, by simp [intOf]; omega⟩
          · have hltz : ¬ (k : Int) < 8 := by omega
            obtain rfl : k = 8 := by omega
            go_wp2
            go_ret2
            refine ⟨?_, HI4.out.thru HW.out⟩
            rw [HR.out]
            have : o' = ⟨(printL name.data.toList fs vs).toArray⟩ := by
              apply ByteArray.ext; apply Array.ext'
              rw [ho]; simp [printL]
            rw [this]; rfl
  · have hr : res = ([], er) := by rw [← HRES.out]; unfold printR; rw [HPE.out, if_neg he]
    have dn : ((er : Int) != 0) = true := by simpa using he
    have HR := Lib.hid hr
    clear he hr
    go_wp2
    go_ret2
    exact ⟨by rw [HR.out]; rfl, HI2.out⟩

end Go.Proofs.YtglgbidcmkncgaaDoor.Subj
