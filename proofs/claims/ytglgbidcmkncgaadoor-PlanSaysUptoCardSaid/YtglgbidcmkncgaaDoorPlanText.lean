/- rillref.Joined and rillref.PlanText, walked. -/
import Derived.Test.YtglgbidcmkncgaaDoorPlanSay
import Derived.Test.YtglgbidcmkncgaaDoorPlanRead2
namespace Go.Proofs.YtglgbidcmkncgaaDoor.Subj
open Go.RowKit

theorem pieces_two (c : UInt8) (l : List UInt8) : decide (1 < (piecesC c l).length) = l.contains c := by
  by_cases h : c ∈ l
  · have h1 : l.contains c = true := List.contains_iff_mem.2 h
    rw [h1, decide_eq_true_eq]
    obtain ⟨a, b, rfl, ha⟩ := List.eq_append_cons_of_mem h
    rw [piecesC_sep ha]
    have := List.length_pos_iff.2 (piecesC_ne c b)
    rw [List.length_cons]; omega
  · have h1 : l.contains c = false := by rw [Bool.eq_false_iff]; intro e; exact h (List.contains_iff_mem.1 e)
    rw [h1, piecesC_no h]; rfl

theorem joinC_take (fs : List Tok) (k : Nat) (hk : k < fs.length) (hp : 0 < k) : joinC (fs.take (k + 1)) = joinC (fs.take k) ++ [44] ++ fs.getD k [] := by
  rw [List.take_add_one, List.getElem?_eq_getElem hk]
  have hne : fs.take k ≠ [] := by intro e; have := congrArg List.length e; rw [List.length_take, List.length_nil] at this; omega
  show joinC (fs.take k ++ [fs[k]]) = _
  rw [joinC_snoc _ hne]
  simp [List.getD, hk]

theorem joinC_take_one (fs : List Tok) (hk : 0 < fs.length) : joinC (fs.take 1) = fs.getD 0 [] := by
  cases fs with
  | nil => simp at hk
  | cons f r => simp [joinC_one]

def JoinAt (fs : List Tok) (k : Nat) (v : Value) : Prop := ∃ o : ByteArray, v = .string o ∧ o.data.toList = joinC (fs.take k) ∧ o.size ≤ 137 * k

set_option maxHeartbeats 1000000 in
set_option maxRecDepth 100000 in
theorem joined_any (fs : List Tok) (v : Value) (w : World) (hS : Strs w v fs) (hl : fs.length ≤ 4) (hz : ∀ k, (fs.getD k []).length ≤ 136) :
    Calls Tryd.prog 98 #[v, .string ⟨#[44]⟩] w (TextRet w ⟨(joinC fs).toArray⟩ w) := by
  obtain ⟨n, hn⟩ : ∃ n, fs.length = n := ⟨_, rfl⟩
  obtain ⟨ao, cap, rfl, hc, hat⟩ := hS
  rw [hn] at hc hl ⊢
  have HAT := Lib.hid (fun (h : 0 < n) => hat (by intro e; rw [e] at hn; simp at hn; omega))
  have HN := Lib.hid hn
  have HZ := Lib.hid hz
  clear hat hn hz
  go_enter Tryd.func98, Tryd.ntmps98
  go_wp2_with fail
  go_loopw [5, 6] (fun s i wr => ∃ k : Nat, k ≤ n ∧ i = .int .i64 k ∧ JoinAt fs k s ∧ Hid (Below w.heap.size w wr)) (fun _ i _ => n - (intOf i).toNat)
  case atStart => exact ⟨0, Nat.zero_le _, rfl, ⟨_, rfl, by simp [joinC, Lib.join, List.intercalate], Nat.le_refl _⟩, Lib.hid (Below.refl _ _)⟩
  case round =>
    obtain ⟨k, hk, rfl, ⟨o, rfl, ho, hos⟩, HB⟩ := hrel
    by_cases hlt : k < n
    · have hltz : (k : Int) < n := by omega
      obtain ⟨g, off, rfl, hst⟩ := HAT.out (by omega)
      have hb := HB.out
      have c0 := (hst.below hb) k (by rw [HN.out]; exact hlt)
      have hts : (strAt fs k).size ≤ 136 := by
        have := HZ.out k
        show (List.toArray _).size ≤ _; simpa using this
      have hstep : 0 < k → joinC (fs.take (k + 1)) = joinC (fs.take k) ++ [44] ++ (strAt fs k).data.toList := fun h => joinC_take fs k (by rw [HN.out]; exact hlt) h
      have hone : k = 0 → joinC (fs.take (k + 1)) = (strAt fs k).data.toList := fun h => by subst h; exact joinC_take_one fs (by rw [HN.out]; omega)
      have HO := Lib.hid ho; have HST := Lib.hid hstep; have HONE := Lib.hid hone
      clear ho hstep hone hst hb
      generalize strAt fs k = T at *
      by_cases hp : 0 < k
      · have hpz : (0 : Int) < k := by omega
        have s1 : ¬ 9223372036854775807 < o.size + 1 := by omega
        have s2 : ¬ 9223372036854775807 < o.size + 1 + T.size := by omega
        go_wp2_with fail
        refine ⟨⟨k + 1, by omega, by go_num, ⟨_, rfl, ?_, ?_⟩, HB⟩, by simp [intOf]; omega⟩
        · rw [HST.out hp]; simp [HO.out]
        · simp only [ByteArray.size_append]
          have h1 : (⟨#[44]⟩ : ByteArray).size = 1 := rfl
          omega
      · have hpz : ¬ (0 : Int) < k := by omega
        have s1 : ¬ 9223372036854775807 < o.size + T.size := by omega
        go_wp2_with fail
        refine ⟨⟨k + 1, by omega, by go_num, ⟨_, rfl, ?_, ?_⟩, HB⟩, by simp [intOf]; omega⟩
        · obtain rfl : k = 0 := by omega
          have h0 : o.data.toList = [] := HO.out
          rw [HONE.out rfl, ByteArray.data_append, Array.toList_append, h0, List.nil_append]
        · rw [ByteArray.size_append]; omega
    · have hltz : ¬ (k : Int) < n := by omega
      obtain rfl : k = n := by omega
      go_wp2
      go_ret
      refine ⟨?_, HB.out⟩
      have : o = ⟨(joinC fs).toArray⟩ := by
        apply ByteArray.ext; apply Array.ext'
        rw [ho, List.take_of_length_le (by rw [HN.out]; exact Nat.le_refl _)]
      rw [this]; rfl

def PTextPost (W : World) (x : Option (List UInt8)) (e : Ending) (w : World) : Prop := e = .returned (.tuple #[.string ⟨(x.getD []).toArray⟩, .bool x.isSome]) ∧ Inv W w

set_option maxHeartbeats 4000000 in
set_option maxRecDepth 100000 in
theorem planText_any (name : ByteArray) (ao : Option Addr) (n cap : Nat) (fs : List Tok) (x0 x1 x2 x3 x4 x5 x6 x7 : Int) (w : World) (hpe : planErr name.data.toList fs [x0, x1, x2, x3, x4, x5, x6, x7] = 0) (hn : fs.length = n) (hS : Strs w (.slice ao n cap) fs) (hm : ML w) (ht : TenLaid w) (hwl : WordsLaid w) :
    Calls Tryd.prog 49 #[.agg #[.string name, .slice ao n cap, .int .i64 x0, .int .i64 x1, .int .i64 x2, .int .i64 x3, .int .i64 x4, .int .i64 x5, .int .i64 x6, .int .i64 x7]] w (PTextPost w (if hasComma fs then none else some (printL name.data.toList fs [x0, x1, x2, x3, x4, x5, x6, x7]))) := by
  obtain ⟨res, hres⟩ : ∃ res, (if hasComma fs then none else some (printL name.data.toList fs [x0, x1, x2, x3, x4, x5, x6, x7])) = res := ⟨_, rfl⟩
  rw [hres]
  obtain ⟨w1, hw1⟩ : ∃ w1, w1 = w.alloc (.cells #[.string name, .slice ao n cap, .int .i64 x0, .int .i64 x1, .int .i64 x2, .int .i64 x3, .int .i64 x4, .int .i64 x5, .int .i64 x6, .int .i64 x7] 29) := ⟨_, rfl⟩
  have hI1 : Inv w w1 := by rw [hw1]; exact Inv.made hm _
  have hB1 := ten_alloc w 29 (.string name) (.slice ao n cap) (.int .i64 x0) (.int .i64 x1) (.int .i64 x2) (.int .i64 x3) (.int .i64 x4) (.int .i64 x5) (.int .i64 x6) (.int .i64 x7)
  rw [← hw1] at hB1
  have hS1 := hS.below hI1.2
  obtain ⟨pf1, pf2, pf3, pf4, pf5⟩ := plan_facts hpe
  have hne : fs ≠ [] := by intro e; rw [e] at pf2; simp at pf2
  have hfz : ∀ k, (fs.getD k []).length ≤ 136 := by
    intro k
    by_cases hk : k < fs.length
    · exact (filter_facts (pf4 (fs.getD k []) (by simp [List.getD, hk]))).2
    · simp [List.getD, show fs.length ≤ k by omega]
  have HJ := Lib.hid fun wr (h : Strs wr (.slice ao n cap) fs) => joined_any fs _ wr h pf3 hfz
  have hnms : name.size ≤ 16 := by have := (name_facts pf1).2; simpa using this
  have hjl : (joinC fs).length ≤ 548 := by
    have h1 := joinC_len 136 fs (fun f hf => (filter_facts (pf4 f hf)).2)
    have h2 : fs.length * (136 + 1) ≤ 4 * 137 := Nat.mul_le_mul pf3 (by omega)
    omega
  have HVB := Lib.hid (inAll_bound pf5)
  have HAT := Lib.hid (fun (h : 0 < n) => (by obtain ⟨ao', cap', e, _, hat⟩ := hS1; simp only [Value.slice.injEq] at e; obtain ⟨rfl, -, rfl⟩ := e; exact hat hne : ∃ g off, ao = some ⟨g, off, none⟩ ∧ StrsAt w1 g off fs))
  have hnp : 0 < n := by rw [← hn]; omega
  have hn4 : n ≤ 4 := by rw [← hn]; exact pf3
  have HI1 := Lib.hid hI1; have HB1 := Lib.hid hB1; have HS1 := Lib.hid hS1; have HRES := Lib.hid hres; have HT := Lib.hid ht; have HN := Lib.hid hn; have HWL := Lib.hid hwl; have HFZ := Lib.hid hfz
  have HIR := Lib.hid (Inv.refl hI1.1)
  clear hI1 hB1 hS1 hpe hres ht hS hm hn hwl pf1 pf2 pf3 pf4 pf5 hfz hne
  obtain ⟨g, off, rfl, hst⟩ := HAT.out hnp
  have HC := Lib.hid (fun i (hi : i < n) wr (h : Inv w1 wr) => (hst.below h.2 i (by rw [HN.out]; exact hi) : wr.cell? ⟨g, off + i, none⟩ = some (.string (strAt fs i))))
  clear hst HAT
  have HB0 := Lib.hid (fun wr (h : Inv w1 wr) => h.blk HB1.out)
  go_enter Tryd.func49, Tryd.ntmps49
  go_upto_region 1 with fail
  rw [← hw1]
  have HW1 := Lib.hid hw1
  clear hw1
  go_wp2_with fail
  go_loopw [4] (fun i wr => ∃ k : Nat, k ≤ n ∧ i = .int .i64 k ∧ Hid (Inv w1 wr) ∧ Hid (∀ j, j < k → (fs.getD j []).contains 44 = false)) (fun i _ => n - (intOf i).toNat)
  case atStart => exact ⟨0, Nat.zero_le _, rfl, HIR, Lib.hid fun j hj => by omega⟩
  case round =>
    obtain ⟨k, hk, rfl, HW, A⟩ := hrel
    obtain ⟨u0, u1, u2, u3, u4, u5, u6, u7, u8, u9, uf⟩ := ten (HB0.out wr HW.out)
    by_cases hlt : k < n
    · have hltz : (k : Int) < n := by omega
      have c0 := HC.out k hlt wr HW.out
      have hpc := pcs_any 44 (strAt fs k) wr (by have := HFZ.out k; show (List.toArray (fs.getD k [])).size ≤ _; rw [List.size_toArray]; omega)
      have hp2 := pieces_two 44 (fs.getD k [])
      have hp3 : (strAt fs k).data.toList = fs.getD k [] := rfl
      rw [hp3] at hpc
      obtain ⟨l, hl⟩ : ∃ l, piecesC 44 (fs.getD k []) = l := ⟨_, rfl⟩
      rw [hl] at hpc hp2
      have HP := Lib.hid hpc
      cases hq : (fs.getD k []).contains 44 with
      | true =>
        rw [hq, decide_eq_true_eq] at hp2
        have h1 : (1 : Int) < l.length := by omega
        have hr : res = none := by rw [← HRES.out, hasComma_at (by rw [HN.out]; exact hlt) hq]; rfl
        have HR := Lib.hid hr
        clear hq hp2 hp3 hl hpc hr
        generalize strAt fs k = T at *
        go_wp2_with fail
        refine HP.out.mono ?_
        rintro e w2 ⟨g2, cap2, rfl, _, _, _, _, hb2⟩
        have HB2 := Lib.hid hb2
        clear hb2
        go_wp2
        go_ret2
        exact ⟨by rw [HR.out]; rfl, HI1.out.thru (HW.out.step HB2.out)⟩
      | false =>
        rw [hq, decide_eq_false_iff_not] at hp2
        have h1 : ¬ (1 : Int) < l.length := by omega
        have HQ := Lib.hid hq
        clear hq hp2 hp3 hl hpc
        generalize strAt fs k = T at *
        go_wp2_with fail
        refine HP.out.mono ?_
        rintro e w2 ⟨g2, cap2, rfl, _, _, _, _, hb2⟩
        have HB2 := Lib.hid hb2
        clear hb2
        go_wp2_with fail
        refine ⟨⟨k + 1, by omega, by go_num, Lib.hid (HW.out.step HB2.out), Lib.hid fun j hj => ?_⟩, by simp [intOf]; omega⟩
        by_cases e : j = k
        · subst e; exact HQ.out
        · exact A.out j (by omega)
    · have hltz : ¬ (k : Int) < n := by omega
      obtain rfl : k = n := by omega
      have hr : res = some (printL name.data.toList fs [x0, x1, x2, x3, x4, x5, x6, x7]) := by rw [← HRES.out, hasComma_none fun j hj => A.out j (by rw [HN.out] at hj; omega)]; rfl
      have HR := Lib.hid hr
      have HI2 := Lib.hid (HI1.out.thru HW.out)
      have HS2 := Lib.hid (HS1.out.below HW.out.2)
      have HB2 := Lib.hid (HB0.out wr HW.out)
      clear hr HRES A HC HIR HFZ hlt hk HW hltz HB0 HB1 HS1 HW1
      clear HI1 HN
      generalize wr = w2 at *
      obtain ⟨y0, y1, y2, y3, y4, y5, y6, y7, y8, y9, yf⟩ := ten HB2.out
      go_upto_region 6 with fail
      have HJ1 := Lib.hid (HJ.out w2.drew (show Strs w2.drew (.slice (some ⟨g, off, none⟩) k cap) fs from HS2.out))
      clear HJ
      go_cut [5] (fun s5 wx => (∃ o : ByteArray, s5 = .string o ∧ o.data.toList = name.data.toList ++ [32] ++ joinC fs ∧ o.size ≤ 800) ∧ Inv w2 wx)
      case first =>
        have HI2S := Lib.hid (Inv.refl HI2.out.1)
        have HK := Lib.hid (fun w' (h : Below w2.drew.heap.size w2.drew w') => (⟨(h.cell (p := ⟨w.heap.size, 0, none⟩) (World.block_lt_of_cell? w2 _ y0)).trans y0, (h.cell (p := ⟨w.heap.size, 1, none⟩) (World.block_lt_of_cell? w2 _ y1)).trans y1⟩ : w'.cell? ⟨w.heap.size, 0, none⟩ = some (.string name) ∧ w'.cell? ⟨w.heap.size, 1, none⟩ = some (.slice (some ⟨g, off, none⟩) k cap)))
        have hs1 : ¬ 9223372036854775807 < name.size + 1 := by omega
        have hs2 : ¬ 9223372036854775807 < name.size + 1 + (joinC fs).length := by omega
        go_region_held3 (fun w' => w'.cell? ⟨w.heap.size, 0, none⟩ = some (.string name) ∧ w'.cell? ⟨w.heap.size, 1, none⟩ = some (.slice (some ⟨g, off, none⟩) k cap)) (first | (with_reducible exact ⟨k0, k1⟩) | go_keep)
          (first
            | (go_at_call 98; ((with_reducible refine HJ1.out.mono ?_); rintro e w' ⟨rfl, h2⟩; obtain ⟨k0, k1⟩ := HK.out _ h2; have HB := Lib.hid h2; clear h2)))
        all_goals
          go_wp2_with fail
          go_meet
          refine ⟨⟨_, rfl, by simp, ?_⟩, (HI2S.out.step (below_drewN (Below.refl _ _) 1)).step HB.out⟩
          rw [ByteArray.size_append, ByteArray.size_append]
          have h1 : (⟨#[32]⟩ : ByteArray).size = 1 := rfl
          have h2 : (⟨(joinC fs).toArray⟩ : ByteArray).size = (joinC fs).length := by show (List.toArray _).size = _; simp
          omega
      case rest =>
        obtain ⟨⟨o, rfl, ho, hos⟩, hI3⟩ := hcut
        have HB3 := Lib.hid (hI3.blk HB2.out)
        have HI3 := Lib.hid (HI2.out.thru hI3)
        have hO : OutAt (name.data.toList ++ [32] ++ joinC fs) [x0, x1, x2, x3, x4, x5, x6, x7] 0 (.string o) := ⟨o, rfl, by rw [ho, tailK_zero, List.append_nil], by omega⟩
        have HO := Lib.hid hO
        clear hI3 hO ho hos y0 y1 y2 y3 y4 y5 y6 y7 y8 y9 yf HJ1 HS2 HB2 HI2
        obtain ⟨y0, y1, y2, y3, y4, y5, y6, y7, y8, y9, yf⟩ := ten HB3.out
        go_wp2_with fail
        refine (values_any _ _ _ _ _ _ _ _ _ _ _).mono ?_
        rintro e w4 ⟨g1, g2, rfl, hn1, _, hb4⟩
        have HN1 := Lib.hid hn1
        have HI4 := Lib.hid (HI3.out.step hb4)
        have HIL := Lib.hid (Inv.refl HI4.out.1)
        have HT4 := Lib.hid (HT.out.inv HI4.out)
        have HWL4 := Lib.hid (HWL.out.inv HI4.out)
        clear hn1 hb4 y0 y1 y2 y3 y4 y5 y6 y7 y8 y9 yf HB3 HI3
        generalize [x0, x1, x2, x3, x4, x5, x6, x7] = vs at *
        go_wp2_with fail
        go_loopw [5, 8] (fun s5 i wr => ∃ k : Nat, k ≤ 8 ∧ i = .int .i64 k ∧ OutAt (name.data.toList ++ [32] ++ joinC fs) vs k s5 ∧ Hid (Inv w4 wr)) (fun _ i _ => 8 - (intOf i).toNat)
        case atStart => exact ⟨0, Nat.zero_le _, rfl, HO.out, HIL⟩
        case round =>
          obtain ⟨j, hj, rfl, ⟨o', rfl, ho, hos⟩, HW⟩ := hrel
          by_cases hlt : j < 8
          · have hltz : (j : Int) < 8 := by omega
            have c1 := (HN1.out.below HW.out.2) j hlt
            have c2 := (HWL4.out.inv HW.out) j hlt
            have hwd := wordAt_size j
            have hxb := HVB.out j hlt
            have hwl : (wordAt j).data.toList = words.getD j [] := rfl
            obtain ⟨x, hx⟩ : ∃ x, vs.getD j 0 = x := ⟨_, rfl⟩
            have HYES := Lib.hid (fun (h : 0 < x) => (by rw [tailK_told (by rw [hx]; exact h), hx, ← hwl] : tailK vs (j + 1) = tailK vs j ++ ([32] ++ (wordAt j).data.toList ++ [61] ++ Lib.itoa x)))
            have HNO := Lib.hid (fun (h : ¬ 0 < x) => (tailK_not (by rw [hx]; exact h) : tailK vs (j + 1) = tailK vs j))
            rw [hx] at c1 hxb
            have HHO := Lib.hid ho
            clear hx hwl ho
            generalize wordAt j = wd at *
            by_cases hp : 0 < x
            · have HTL := Lib.hid (HYES.out hp)
              have d : (x != 0) = true := by rw [bne_iff_ne]; omega
              have HIT := Lib.hid (itoa_any x (by omega) (by omega) wr.drew (HT4.out.inv (HW.out.step (below_drewN (Below.refl _ _) 1))))
              have hil := itoa_len (v := x) (by omega) (by omega)
              have HK := Lib.hid (fun w' (h : Below wr.drew.heap.size wr.drew w') => (⟨(h.cell (p := ⟨g1, j, none⟩) (World.block_lt_of_cell? wr _ c1)).trans c1, (h.cell (p := ⟨0, j, none⟩) (World.block_lt_of_cell? wr _ c2)).trans c2⟩ : w'.cell? ⟨g1, j, none⟩ = some (.int .i64 x) ∧ w'.cell? ⟨0, j, none⟩ = some (.string wd)))
              have q1 : ¬ 9223372036854775807 < 1 + wd.size := by omega
              have q2 : ¬ 9223372036854775807 < 1 + wd.size + 1 := by omega
              have q3 : ¬ 9223372036854775807 < 1 + wd.size + 1 + (Lib.itoa x).length := by omega
              have q4 : ¬ 9223372036854775807 < o'.size + (1 + wd.size + 1 + (Lib.itoa x).length) := by omega
              have hws : wd.size ≤ 7 ∧ o'.size ≤ 800 + 18 * j := ⟨hwd, hos⟩
              have HWS := Lib.hid hws
              clear hwd hos hws HO HT4 HVB HNO HYES HN1 HWL4
              go_wp2_with fail
              go_region_held3 (fun w' => w'.cell? ⟨g1, j, none⟩ = some (.int .i64 x) ∧ w'.cell? ⟨0, j, none⟩ = some (.string wd)) (first | (with_reducible exact ⟨k0, k1⟩) | go_keep)
                (first
                  | (go_at_call 86; ((with_reducible refine HIT.out.mono ?_); rintro e w' ⟨rfl, h2⟩; obtain ⟨k0, k1⟩ := HK.out _ h2; have HB := Lib.hid h2; clear h2)))
              all_goals
                go_wp2_with fail
                refine ⟨⟨j + 1, by omega, by go_num, ⟨_, rfl, ?_, ?_⟩, Lib.hid ((HW.out.step (below_drewN (Below.refl _ _) 1)).step HB.out)⟩, by simp [intOf]; omega⟩
                · rw [HTL.out]; simp [HHO.out]
                · simp only [ByteArray.size_append]
                  have h1 : (⟨#[32]⟩ : ByteArray).size = 1 := rfl
                  have h2 : (⟨#[61]⟩ : ByteArray).size = 1 := rfl
                  have h3 : (⟨(Lib.itoa x).toArray⟩ : ByteArray).size = (Lib.itoa x).length := by show (List.toArray _).size = _; simp
                  have h4 := HWS.out
                  omega
            · have HTN := Lib.hid (HNO.out hp)
              have d : (x != 0) = false := by
                have : x = 0 := by omega
                rw [this]; rfl
              go_wp2_with fail
              exact ⟨⟨j + 1, by omega, by go_num, ⟨_, rfl, by rw [HTN.out]; exact HHO.out, by omega⟩, HW⟩, by simp [intOf]; omega⟩
          · have hltz : ¬ (j : Int) < 8 := by omega
            obtain rfl : j = 8 := by omega
            go_wp2
            go_ret2
            refine ⟨?_, HI4.out.thru HW.out⟩
            rw [HR.out]
            have : o' = ⟨(printL name.data.toList fs vs).toArray⟩ := by
              apply ByteArray.ext; apply Array.ext'
              rw [ho]; simp [printL]
            rw [this]; rfl
end Go.Proofs.YtglgbidcmkncgaaDoor.Subj
