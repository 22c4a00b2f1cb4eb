/- The reference's Decoded where the sum is right; Decoded whole. -/
import Derived.Test.YtmeaenmialaghaaDoorRecDec3
namespace Go.Proofs.YtmeaenmialaghaaDoor.Rec
open Go.RowKit Subj Pack Crc

theorem Read.down {S0 S1 S2 S3 S4 S5 : ByteArray} {b1 b2 b3 b4 b5 : Bool} {q t : Int} {T1 T2 T3 : ByteArray} (h : Read S0 S1 S2 S3 S4 S5 b1 b2 b3 b4 b5 q t T1 T2 T3) :
    b1 = false ∨ b2 = false ∨ b3 = false ∨ b4 = false → b5 = false := by
  obtain ⟨_, _, _, _, _, _, c2, c3, c4, c5, _⟩ := h
  rintro (h | h | h | h) <;> subst h <;> simp at c2 c3 c4 c5 <;> subst_vars <;> simp_all

set_option maxHeartbeats 8000000 in
set_option maxRecDepth 100000 in
theorem decoded_good (s B : ByteArray) (k : Nat) (w : World) (hs : s.size ≤ 1048576) (hlen : k + 4 ≤ s.size) (hB : B.size ≤ 1024) (hB0 : 0 < B.size) (hq : (s.data.toList.drop k).take 4 = sum4 B.data.toList)
    (hR : ∀ w, Calls Tryd.prog 54 #[.string s, .int .i64 1024] w fun e w' => e = .returned (.tuple #[.string B, .int .i64 k, .int .i64 0]) ∧ w = w') :
    Calls Tryd.prog 31 #[.string s] w fun e w' => e = .returned (decV (bodyV B k s.data.toList)) ∧ Below w.heap.size w w' := by
  have HR := Lib.hid hR; clear hR
  have hB1 : ((B.size : Int) == 0) = false := by rw [beq_eq_false_iff_ne]; omega
  have hBl : B.data.toList = B[0] :: (B.extract 1 B.size).data.toList := by
    have h1 := List.drop_eq_getElem_cons (l := B.data.toList) (i := 0) (by simpa using hB0)
    have h2 : (B.extract 1 B.size).data.toList = B.data.toList.drop 1 := by
      rw [ByteArray.data_extract, Array.toList_extract]
      simp
      exact List.take_of_length_le (by simp)
    rw [h2]
    exact h1
  have hz0 : (B.extract 1 B.size).size ≤ 1024 := by rw [ByteArray.size_extract]; omega
  have hgood : bodyV B k s.data.toList = bodyR B[0] (B.extract 1 B.size).data.toList (k + 4) := by
    unfold bodyV
    rw [if_neg (by simpa using hq)]
    show (match B.data.toList with | [] => _ | x :: rest => _) = _
    rw [hBl]
  have hd : num4 s[k] s[k + 1] s[k + 2] s[k + 3] = (crcL B.data.toList).toNat := (num4_le4 _ _ _ _ _ (crcL B.data.toList).isLt).1 (by rw [← take4 s k hlen]; exact hq)
  have HS := Lib.hid fun w => rsum_any B w (by unfold maxLen; omega)
  rw [← hd] at HS
  clear hd hBl hq
  have HN := Lib.hid (num4_horner s[k] s[k + 1] s[k + 2] s[k + 3])
  have y0 := s[k].toNat_lt
  have y1 := s[k + 1].toNat_lt
  have y2 := s[k + 2].toNat_lt
  have y3 := s[k + 3].toNat_lt
  have hl := num4_lt s[k] s[k + 1] s[k + 2] s[k + 3]
  generalize num4 s[k] s[k + 1] s[k + 2] s[k + 3] = N at *
  obtain ⟨S1, S2, S3, S4, S5, b1, b2, b3, b4, b5, q, t, T1, T2, T3, hRd⟩ := read_all (B.extract 1 B.size)
  obtain ⟨hs1, hs2, hs3, hs4, ht1, ht2, ht3⟩ := hRd.sizes
  have HC := Lib.hid fun W => refRecord_any (B[0].toNat : Int) q t T1 T2 T3 W (by omega) (by omega) (by omega)
  unfold recA at HC
  have hnot : (b5 = false ∨ S5.toList ≠ [] ∨ recErr (rcOf (B[0].toNat : Int) q t T1 T2 T3) ≠ 0) → decV (bodyV B k s.data.toList) = ErrV 7 := fun hn => by
    rw [hgood]
    unfold bodyR
    rw [hRd.fields, if_neg]
    · rfl
    · rintro ⟨h1, h2, h3⟩
      rcases hn with hn | hn | hn
      · rw [hn] at h1; cases h1
      · exact hn ((empty_iff S5).1 h2)
      · exact hn h3
  have hyes : b5 = true → S5.toList = [] → recErr (rcOf (B[0].toNat : Int) q t T1 T2 T3) = 0 →
      decV (bodyV B k s.data.toList) = .tuple #[.agg #[.int .i64 (B[0].toNat : Int), .int .i64 q, .int .i64 t, .string T1, .string T2, .string T3], .int .i64 ((k : Int) + 4), .int .i64 0] := fun h1 h2 h3 => by
    rw [hgood]
    unfold bodyR
    rw [hRd.fields, if_pos ⟨h1, (empty_iff S5).2 h2, h3⟩]
    rfl
  have HNOT := Lib.hid hnot
  have HYES := Lib.hid hyes
  have HDN := Lib.hid hRd.down
  clear hnot hyes hgood
  generalize recErr (rcOf (B[0].toNat : Int) q t T1 T2 T3) = er at *
  have hB64 : wrap64 (B[0].toNat : Int) = (B[0].toNat : Int) := wrap64_small _ (by have := B[0].toNat_lt; omega)
  generalize hS0 : B.extract 1 B.size = S0 at *
  have M1 := Lib.hid (knum S0 S1 true b1 q (by unfold maxLen; omega) hRd.s1 hRd.c1 hRd.q)
  have M2 := Lib.hid (knum S1 S2 b1 b2 t (by unfold maxLen; omega) hRd.s2 hRd.c2 hRd.t)
  have M3 := Lib.hid (ktext S2 S3 b2 b3 T1 (by unfold maxLen; omega) hRd.s3 hRd.c3 hRd.t1)
  have M4 := Lib.hid (ktext S3 S4 b3 b4 T2 (by unfold maxLen; omega) hRd.s4 hRd.c4 hRd.t2)
  have M5 := Lib.hid (ktext S4 S5 b4 b5 T3 (by unfold maxLen; omega) hRd.s5 hRd.c5 hRd.t3)
  clear hRd
  obtain ⟨k1, n1, K1, x1, e1, z1⟩ := M1.out rfl
  have K1 := Lib.hid K1
  go_enter Tryd.func31, Tryd.ntmps31
  go_wp2_with (go_at_call 54; refine (HR.out _).mono ?_; rintro e w' ⟨rfl, rfl⟩)
  refine wp_loop_rounds 5 ?_
  iterate 4 (rw [rounds_succ]; go_wp2_with fail)
  rw [HN.out]
  clear HN y0 y1 y2 y3
  rw [rounds_succ]
  go_wp2_with fail
  refine (HS.out _).mono ?_
  rintro e w' ⟨rfl, rfl⟩
  clear HS HR
  go_wp2_with fail
  refine wp_loop_rounds 6 ?_
  rw [rounds_succ]
  go_wp2_with fail
  refine (K1.out _).mono ?_
  rintro e w' ⟨rfl, rfl⟩
  go_wp2_with fail
  clear K1 x1 z1
  cases b1
  · have he := HNOT.out (.inl (HDN.out (by simp)))
    have HE := Lib.hid he; clear he
    clear M2 HNOT HYES HDN HC
    rw [rounds_succ]
    go_wp2_with fail
    rw [HE.out]
    go_returns
    exact ⟨errV_eq rfl 7, by go_grown⟩
  obtain ⟨k2, n2, K2, x2, e2, z2⟩ := M2.out rfl
  have K2 := Lib.hid K2
  clear M2
  rw [rounds_succ]
  go_wp2_with fail
  refine (K2.out _).mono ?_
  rintro e w' ⟨rfl, rfl⟩
  go_wp2_with fail
  clear K2 x2 z2
  cases b2
  · have he := HNOT.out (.inl (HDN.out (by simp)))
    have HE := Lib.hid he; clear he
    clear M3 HNOT HYES HDN HC
    rw [rounds_succ]
    go_wp2_with fail
    rw [HE.out]
    go_returns
    exact ⟨errV_eq rfl 7, by go_grown⟩
  obtain ⟨k3, n3, K3, x3, e3, z3⟩ := M3.out rfl
  have K3 := Lib.hid K3
  clear M3
  rw [rounds_succ]
  go_wp2_with fail
  refine (K3.out _).mono ?_
  rintro e w' ⟨rfl, rfl⟩
  go_wp2_with fail
  clear K3 x3 z3
  cases b3
  · have he := HNOT.out (.inl (HDN.out (by simp)))
    have HE := Lib.hid he; clear he
    clear M4 HNOT HYES HDN HC
    rw [rounds_succ]
    go_wp2_with fail
    rw [HE.out]
    go_returns
    exact ⟨errV_eq rfl 7, by go_grown⟩
  obtain ⟨k4, n4, K4, x4, e4, z4⟩ := M4.out rfl
  have K4 := Lib.hid K4
  clear M4
  rw [rounds_succ]
  go_wp2_with fail
  refine (K4.out _).mono ?_
  rintro e w' ⟨rfl, rfl⟩
  go_wp2_with fail
  clear K4 x4 z4
  cases b4
  · have he := HNOT.out (.inl (HDN.out (by simp)))
    have HE := Lib.hid he; clear he
    clear M5 HNOT HYES HDN HC
    rw [rounds_succ]
    go_wp2_with fail
    rw [HE.out]
    go_returns
    exact ⟨errV_eq rfl 7, by go_grown⟩
  obtain ⟨k5, n5, K5, x5, e5, z5⟩ := M5.out rfl
  have K5 := Lib.hid K5
  clear M5
  rw [rounds_succ]
  go_wp2_with fail
  refine (K5.out _).mono ?_
  rintro e w' ⟨rfl, rfl⟩
  go_wp2_with fail
  clear K5 x5 z5
  rw [rounds_succ]
  go_wp2_with fail
  · refine (HC.out _).mono ?_
    rintro e w' ⟨rfl, hb'⟩
    have hcc := fun j => hb'.cell (p := ⟨w.heap.size, j, none⟩) (by go_size)
    have hcd := fun j => hb'.cell (p := ⟨w.heap.size + 1, j, none⟩) (by go_size)
    have hff := fun j => hb'.frozen (p := ⟨w.heap.size, j, none⟩) (by go_size)
    have hbb : Below w.heap.size w w' := by
      refine Below.trans ?_ (hb'.mono ?_)
      · go_grown
      · go_size
    have HBB := Lib.hid hbb
    clear hb' hbb
    simp [go_sem] at hcc hcd
    obtain ⟨c0, c1, c2, c3, c4, c5⟩ := cells6 hcc
    obtain ⟨d0, d1, d2, d3, d4, d5⟩ := cells6 hcd
    clear hcc hcd
    go_wp2
    · have he := HNOT.out (.inr (.inr (by simpa using (by assumption : ((er : Int) != 0) = true))))
      rw [he]
      refine bodyPost_ret (v := ErrV 7) (by simp [results, Tryd.results31, go_sem, c0, c1, c2, c3, c4, c5]; rfl) rfl ⟨rfl, ?_⟩
      have hbb := HBB.out
      go_grown
    · have he := HYES.out (by assumption) (by assumption) (by simpa using (by assumption : ((er : Int) != 0) = false))
      rw [he]
      refine bodyPost_ret (by simp [results, Tryd.results31, go_sem, c0, c1, c2, c3, c4, c5]) rfl ⟨rfl, ?_⟩
      have hbb := HBB.out
      go_grown
  · have he := HNOT.out (.inr (.inl (by assumption)))
    rw [he]
    go_returns
    exact ⟨errV_eq rfl 7, by go_grown⟩
  · have he := HNOT.out (.inl (by simpa using (by assumption : ¬ b5 = true)))
    rw [he]
    go_returns
    exact ⟨errV_eq rfl 7, by go_grown⟩

theorem decoded_any (s : ByteArray) (w : World) (hs : s.size ≤ 1048576) :
    Calls Tryd.prog 31 #[.string s] w fun e w' => e = .returned (decV (decL s.data.toList)) ∧ Below w.heap.size w w' := by
  have hl : s.data.toList.length = s.size := by simp
  have hR := fun w => rreadText_any s 1024 w (by unfold maxLen; omega)
  rcases rdT_cases s.data.toList 1024 with ⟨t, k, e, h1, h2, h3, h4, h5⟩ | e | e
  · rw [e] at hR
    rw [hl] at h3
    have hR' : ∀ w, Calls Tryd.prog 54 #[.string s, .int .i64 1024] w fun e w' => e = .returned (.tuple #[.string ⟨t.toArray⟩, .int .i64 k, .int .i64 0]) ∧ w = w' := hR
    have hb2 : (⟨t.toArray⟩ : ByteArray).size ≤ 1024 := by rw [size_list]; omega
    by_cases hlen : k + 4 ≤ s.size
    · rw [decL_body e (by omega)]
      by_cases hq : (s.data.toList.drop k).take 4 = sum4 t
      · by_cases ht : t = []
        · have hz : (((⟨t.toArray⟩ : ByteArray).size : Int) == 0) = true := by rw [size_list, ht]; rfl
          refine (decoded_empty s ⟨t.toArray⟩ hz hb2 k w hs hlen hq hR').mono fun e w' ⟨a, b⟩ => ⟨?_, b⟩
          rw [a, ← decV_zero]
          subst ht
          unfold bodyV
          split <;> rfl
        · have hb3 : 0 < (⟨t.toArray⟩ : ByteArray).size := by rw [size_list]; exact List.length_pos_iff.2 ht
          exact decoded_good s ⟨t.toArray⟩ k w hs hlen hb2 hb3 hq hR'
      · refine (decoded_wrong s ⟨t.toArray⟩ k w hs hlen hb2 hq hR').mono fun e w' ⟨a, b⟩ => ⟨?_, b⟩
        rw [a, ← decV_zero]
        unfold bodyV
        rw [if_pos hq]
    · have hd : decL s.data.toList = (Rc.zero, 0, 6) := by
        unfold decL
        rw [e]
        simp only [ne_eq, not_true_eq_false, if_false]
        rw [if_pos (by omega)]
      rw [hd]
      exact decoded_short s ⟨t.toArray⟩ k w hs h3 (by omega) hR'
  · rw [e] at hR
    have hd : decL s.data.toList = (Rc.zero, 0, 6) := by unfold decL; rw [e]; rfl
    rw [hd]
    exact decoded_err s 6 (by decide) w hR
  · rw [e] at hR
    have hd : decL s.data.toList = (Rc.zero, 0, 7) := by unfold decL; rw [e]; rfl
    rw [hd]
    exact decoded_err s 7 (by decide) w hR
end Go.Proofs.YtmeaenmialaghaaDoor.Rec
