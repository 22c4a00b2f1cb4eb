/- Parts of the proof, joined: The reference's Decoded, walked.; The reference's Decoded where the sum is right; Decoded whole.; rillref.Opened, walked.; Two facts that the log's and the vault's laws share.; The drawer's blocks, made as few as they are. -/
import Derived.Test.YtbgchhgdlceceaaGreatDoorLogPlaysUptoM22
namespace Go.Proofs.YtbgchhgdlceceaaGreatDoor.Rec
open Go.RowKit Subj Pack Crc

set_option maxRecDepth 100000 in
theorem decoded_err (s : ByteArray) (n : Nat) (hn : n ≠ 0) (w : World) (hR : ∀ w, Calls Tryz.prog 173 #[.string s, .int .i64 1024] w fun e w' => e = .returned (.tuple #[.string ByteArray.empty, .int .i64 0, .int .i64 n]) ∧ w = w') :
    Calls Tryz.prog 111 #[.string s] w fun e w' => e = .returned (ErrV n) ∧ Below w.heap.size w w' := by
  have HR := Lib.hid hR; clear hR
  have h1 : ((n : Int) != 0) = true := by simp; omega
  go_enter Tryz.func111, Tryz.ntmps111
  go_wp2_with (go_at_call 173; refine (HR.out _).mono ?_; rintro e w' ⟨rfl, rfl⟩)
  go_returns
  exact ⟨errV_eq rfl n, by go_grown⟩

set_option maxRecDepth 100000 in
theorem decoded_short (s B : ByteArray) (k : Nat) (w : World) (hs : s.size ≤ 1048576) (hk : k ≤ s.size) (hlt : s.size < k + 4) (hR : ∀ w, Calls Tryz.prog 173 #[.string s, .int .i64 1024] w fun e w' => e = .returned (.tuple #[.string B, .int .i64 k, .int .i64 0]) ∧ w = w') :
    Calls Tryz.prog 111 #[.string s] w fun e w' => e = .returned (ErrV 6) ∧ Below w.heap.size w w' := by
  have HR := Lib.hid hR; clear hR
  go_enter Tryz.func111, Tryz.ntmps111
  go_wp2_with (go_at_call 173; refine (HR.out _).mono ?_; rintro e w' ⟨rfl, rfl⟩)
  go_returns
  exact ⟨errV_eq rfl 6, by go_grown⟩

theorem num4_horner (a b c d : UInt8) : (((d.toNat : Int) * 256 + c.toNat) * 256 + b.toNat) * 256 + a.toNat = (num4 a b c d : Nat) := by
  unfold num4; omega

theorem num4_lt (a b c d : UInt8) : num4 a b c d < 4294967296 := by
  have := a.toNat_lt; have := b.toNat_lt; have := c.toNat_lt; have := d.toNat_lt
  unfold num4; omega

set_option maxHeartbeats 2000000 in
set_option maxRecDepth 100000 in
theorem decoded_empty (s B : ByteArray) (hB : ((B.size : Int) == 0) = true) (hB2 : B.size ≤ 1024) (k : Nat) (w : World) (hs : s.size ≤ 1048576) (hlen : k + 4 ≤ s.size) (hq : (s.data.toList.drop k).take 4 = sum4 B.data.toList) (hR : ∀ w, Calls Tryz.prog 173 #[.string s, .int .i64 1024] w fun e w' => e = .returned (.tuple #[.string B, .int .i64 k, .int .i64 0]) ∧ w = w') :
    Calls Tryz.prog 111 #[.string s] w fun e w' => e = .returned (ErrV 7) ∧ Below w.heap.size w w' := by
  have HR := Lib.hid hR; clear hR
  have b0 := s[k].toNat_lt
  have b1 := s[k + 1].toNat_lt
  have b2 := s[k + 2].toNat_lt
  have b3 := s[k + 3].toNat_lt
  have hl := num4_lt s[k] s[k + 1] s[k + 2] s[k + 3]
  have HN := Lib.hid (num4_horner s[k] s[k + 1] s[k + 2] s[k + 3])
  have hd : num4 s[k] s[k + 1] s[k + 2] s[k + 3] = (crcL B.data.toList).toNat := (num4_le4 _ _ _ _ _ (crcL B.data.toList).isLt).1 (by rw [← take4 s k hlen]; exact hq)
  clear hq
  generalize num4 s[k] s[k + 1] s[k + 2] s[k + 3] = N at *
  have HS := Lib.hid fun w => rsum_any B w (by unfold maxLen; omega)
  rw [← hd] at HS
  clear hd
  go_enter Tryz.func111, Tryz.ntmps111
  go_wp2_with (go_at_call 173; refine (HR.out _).mono ?_; rintro e w' ⟨rfl, rfl⟩)
  refine wp_loop_rounds 5 ?_
  iterate 4 (rw [rounds_succ]; go_wp2_with fail)
  rw [HN.out]
  clear HN
  rw [rounds_succ]
  go_wp2_with fail
  refine (HS.out _).mono ?_
  rintro e w' ⟨rfl, rfl⟩
  go_wp2_with fail
  go_returns
  exact ⟨errV_eq rfl 7, by go_grown⟩

set_option maxHeartbeats 2000000 in
set_option maxRecDepth 100000 in
theorem decoded_wrong (s B : ByteArray) (k : Nat) (w : World) (hs : s.size ≤ 1048576) (hlen : k + 4 ≤ s.size) (hB : B.size ≤ 1024) (hq : (s.data.toList.drop k).take 4 ≠ sum4 B.data.toList)
    (hR : ∀ w, Calls Tryz.prog 173 #[.string s, .int .i64 1024] w fun e w' => e = .returned (.tuple #[.string B, .int .i64 k, .int .i64 0]) ∧ w = w') :
    Calls Tryz.prog 111 #[.string s] w fun e w' => e = .returned (ErrV 7) ∧ Below w.heap.size w w' := by
  have HR := Lib.hid hR; clear hR
  have b0 := s[k].toNat_lt
  have b1 := s[k + 1].toNat_lt
  have b2 := s[k + 2].toNat_lt
  have b3 := s[k + 3].toNat_lt
  have hl := num4_lt s[k] s[k + 1] s[k + 2] s[k + 3]
  have HN := Lib.hid (num4_horner s[k] s[k + 1] s[k + 2] s[k + 3])
  have HS := Lib.hid fun w => rsum_any B w (by unfold maxLen; omega)
  have hd : ((num4 s[k] s[k + 1] s[k + 2] s[k + 3] : Int) != ((crcL B.data.toList).toNat : Int)) = true := by
    have : ¬ num4 s[k] s[k + 1] s[k + 2] s[k + 3] = (crcL B.data.toList).toNat := fun h => hq (by rw [take4 s k hlen, (num4_le4 _ _ _ _ _ (crcL B.data.toList).isLt).2 h]; rfl)
    simp; omega
  clear hq
  generalize num4 s[k] s[k + 1] s[k + 2] s[k + 3] = N at *
  generalize (crcL B.data.toList).toNat = c at *
  go_enter Tryz.func111, Tryz.ntmps111
  go_wp2_with (go_at_call 173; refine (HR.out _).mono ?_; rintro e w' ⟨rfl, rfl⟩)
  refine wp_loop_rounds 5 ?_
  iterate 4 (rw [rounds_succ]; go_wp2_with fail)
  rw [HN.out]
  clear HN
  rw [rounds_succ]
  go_wp2_with fail
  refine (HS.out _).mono ?_
  rintro e w' ⟨rfl, rfl⟩
  go_wp2_with fail
  go_returns
  exact ⟨errV_eq rfl 7, by go_grown⟩

theorem knum (S S' : ByteArray) (b b' : Bool) (q : Int) (hS : S.size ≤ maxLen) (h1 : afterN S = S') (hc : (b && (rdN S.data.toList).2.2 == 0) = b') (hq : ((rdN S.data.toList).1 : Int) = q) (hb : b = true) :
    ∃ k e : Nat, (∀ w, Calls Tryz.prog 175 #[.string S] w fun r w' => r = .returned (.tuple #[.int .i64 q, .int .i64 k, .int .i64 e]) ∧ w = w') ∧ S.extract k S.size = S' ∧ ((e : Int) == 0) = b' ∧ k ≤ S.size := by
  refine ⟨(rdN S.data.toList).2.1, (rdN S.data.toList).2.2, fun w => ?_, h1, ?_, ?_⟩
  · rw [← hq]; exact rreadNumber_any S w hS
  · rw [beq0, ← hc, hb, Bool.true_and]
  · have := rdN_le S.data.toList
    have hl : S.data.toList.length = S.size := by simp
    omega

theorem ktext (S S' : ByteArray) (b b' : Bool) (T : ByteArray) (hS : S.size ≤ maxLen) (h1 : afterT S = S') (hc : (b && (rdT S.data.toList 1024).2.2 == 0) = b') (hq : (⟨(rdT S.data.toList 1024).1.toArray⟩ : ByteArray) = T) (hb : b = true) :
    ∃ k e : Nat, (∀ w, Calls Tryz.prog 173 #[.string S, .int .i64 1024] w fun r w' => r = .returned (.tuple #[.string T, .int .i64 k, .int .i64 e]) ∧ w = w') ∧ S.extract k S.size = S' ∧ ((e : Int) == 0) = b' ∧ k ≤ S.size := by
  refine ⟨(rdT S.data.toList 1024).2.1, (rdT S.data.toList 1024).2.2, fun w => ?_, h1, ?_, ?_⟩
  · rw [← hq]; exact rreadText_any S 1024 w hS
  · rw [beq0, ← hc, hb, Bool.true_and]
  · have := rdT_le S.data.toList 1024
    have hl : S.data.toList.length = S.size := by simp
    omega
end Go.Proofs.YtbgchhgdlceceaaGreatDoor.Rec

namespace Go.Proofs.YtbgchhgdlceceaaGreatDoor.Rec
open Go.RowKit Subj Pack Crc

theorem Read.down {S0 S1 S2 S3 S4 S5 : ByteArray} {b1 b2 b3 b4 b5 : Bool} {q t : Int} {T1 T2 T3 : ByteArray} (h : Read S0 S1 S2 S3 S4 S5 b1 b2 b3 b4 b5 q t T1 T2 T3) :
    b1 = false ∨ b2 = false ∨ b3 = false ∨ b4 = false → b5 = false := by
  obtain ⟨_, _, _, _, _, _, c2, c3, c4, c5, _⟩ := h
  rintro (h | h | h | h) <;> subst h <;> simp at c2 c3 c4 c5 <;> subst_vars <;> simp_all

set_option maxHeartbeats 8000000 in
set_option maxRecDepth 100000 in
theorem decoded_good (s B : ByteArray) (k : Nat) (w : World) (hs : s.size ≤ 1048576) (hlen : k + 4 ≤ s.size) (hB : B.size ≤ 1024) (hB0 : 0 < B.size) (hq : (s.data.toList.drop k).take 4 = sum4 B.data.toList)
    (hR : ∀ w, Calls Tryz.prog 173 #[.string s, .int .i64 1024] w fun e w' => e = .returned (.tuple #[.string B, .int .i64 k, .int .i64 0]) ∧ w = w') :
    Calls Tryz.prog 111 #[.string s] w fun e w' => e = .returned (decV (bodyV B k s.data.toList)) ∧ Below w.heap.size w w' := by
  have HR := Lib.hid hR; clear hR
  have hB1 : ((B.size : Int) == 0) = false := by rw [beq_eq_false_iff_ne]; omega
  have hBl : B.data.toList = B[0] :: (B.extract 1 B.size).data.toList := by
    have h1 := List.drop_eq_getElem_cons (l := B.data.toList) (i := 0) (by simpa using hB0)
    have h2 : (B.extract 1 B.size).data.toList = B.data.toList.drop 1 := by
      rw [ByteArray.data_extract, Array.toList_extract]
      simp
      exact List.take_of_length_le (by simp)
    rw [h2]
    exact h1
  have hz0 : (B.extract 1 B.size).size ≤ 1024 := by rw [ByteArray.size_extract]; omega
  have hgood : bodyV B k s.data.toList = bodyR B[0] (B.extract 1 B.size).data.toList (k + 4) := by
    unfold bodyV
    rw [if_neg (by simpa using hq)]
    show (match B.data.toList with | [] => _ | x :: rest => _) = _
    rw [hBl]
  have hd : num4 s[k] s[k + 1] s[k + 2] s[k + 3] = (crcL B.data.toList).toNat := (num4_le4 _ _ _ _ _ (crcL B.data.toList).isLt).1 (by rw [← take4 s k hlen]; exact hq)
  have HS := Lib.hid fun w => rsum_any B w (by unfold maxLen; omega)
  rw [← hd] at HS
  clear hd hBl hq
  have HN := Lib.hid (num4_horner s[k] s[k + 1] s[k + 2] s[k + 3])
  have y0 := s[k].toNat_lt
  have y1 := s[k + 1].toNat_lt
  have y2 := s[k + 2].toNat_lt
  have y3 := s[k + 3].toNat_lt
  have hl := num4_lt s[k] s[k + 1] s[k + 2] s[k + 3]
  generalize num4 s[k] s[k + 1] s[k + 2] s[k + 3] = N at *
  obtain ⟨S1, S2, S3, S4, S5, b1, b2, b3, b4, b5, q, t, T1, T2, T3, hRd⟩ := read_all (B.extract 1 B.size)
  obtain ⟨hs1, hs2, hs3, hs4, ht1, ht2, ht3⟩ := hRd.sizes
  have HC := Lib.hid fun W => refRecord_any (B[0].toNat : Int) q t T1 T2 T3 W (by omega) (by omega) (by omega)
  unfold recA at HC
  have hnot : (b5 = false ∨ S5.toList ≠ [] ∨ recErr (rcOf (B[0].toNat : Int) q t T1 T2 T3) ≠ 0) → decV (bodyV B k s.data.toList) = ErrV 7 := fun hn => by
    rw [hgood]
    unfold bodyR
    rw [hRd.fields, if_neg]
    · rfl
    · rintro ⟨h1, h2, h3⟩
      rcases hn with hn | hn | hn
      · rw [hn] at h1; cases h1
      · exact hn ((empty_iff S5).1 h2)
      · exact hn h3
  have hyes : b5 = true → S5.toList = [] → recErr (rcOf (B[0].toNat : Int) q t T1 T2 T3) = 0 →
      decV (bodyV B k s.data.toList) = .tuple #[.agg #[.int .i64 (B[0].toNat : Int), .int .i64 q, .int .i64 t, .string T1, .string T2, .string T3], .int .i64 ((k : Int) + 4), .int .i64 0] := fun h1 h2 h3 => by
    rw [hgood]
    unfold bodyR
    rw [hRd.fields, if_pos ⟨h1, (empty_iff S5).2 h2, h3⟩]
    rfl
  have HNOT := Lib.hid hnot
  have HYES := Lib.hid hyes
  have HDN := Lib.hid hRd.down
  clear hnot hyes hgood
  generalize recErr (rcOf (B[0].toNat : Int) q t T1 T2 T3) = er at *
  have hB64 : wrap64 (B[0].toNat : Int) = (B[0].toNat : Int) := wrap64_small _ (by have := B[0].toNat_lt; omega)
  generalize hS0 : B.extract 1 B.size = S0 at *
  have M1 := Lib.hid (knum S0 S1 true b1 q (by unfold maxLen; omega) hRd.s1 hRd.c1 hRd.q)
  have M2 := Lib.hid (knum S1 S2 b1 b2 t (by unfold maxLen; omega) hRd.s2 hRd.c2 hRd.t)
  have M3 := Lib.hid (ktext S2 S3 b2 b3 T1 (by unfold maxLen; omega) hRd.s3 hRd.c3 hRd.t1)
  have M4 := Lib.hid (ktext S3 S4 b3 b4 T2 (by unfold maxLen; omega) hRd.s4 hRd.c4 hRd.t2)
  have M5 := Lib.hid (ktext S4 S5 b4 b5 T3 (by unfold maxLen; omega) hRd.s5 hRd.c5 hRd.t3)
  clear hRd
  obtain ⟨k1, n1, K1, x1, e1, z1⟩ := M1.out rfl
  have K1 := Lib.hid K1
  go_enter Tryz.func111, Tryz.ntmps111
  go_wp2_with (go_at_call 173; refine (HR.out _).mono ?_; rintro e w' ⟨rfl, rfl⟩)
  refine wp_loop_rounds 5 ?_
  iterate 4 (rw [rounds_succ]; go_wp2_with fail)
  rw [HN.out]
  clear HN y0 y1 y2 y3
  rw [rounds_succ]
  go_wp2_with fail
  refine (HS.out _).mono ?_
  rintro e w' ⟨rfl, rfl⟩
  clear HS HR
  go_wp2_with fail
  refine wp_loop_rounds 6 ?_
  rw [rounds_succ]
  go_wp2_with fail
  refine (K1.out _).mono ?_
  rintro e w' ⟨rfl, rfl⟩
  go_wp2_with fail
  clear K1 x1 z1
  cases b1
  · have he := HNOT.out (.inl (HDN.out (by simp)))
    have HE := Lib.hid he; clear he
    clear M2 HNOT HYES HDN HC
    rw [rounds_succ]
    go_wp2_with fail
    rw [HE.out]
    go_returns
    exact ⟨errV_eq rfl 7, by go_grown⟩
  obtain ⟨k2, n2, K2, x2, e2, z2⟩ := M2.out rfl
  have K2 := Lib.hid K2
  clear M2
  rw [rounds_succ]
  go_wp2_with fail
  refine (K2.out _).mono ?_
  rintro e w' ⟨rfl, rfl⟩
  go_wp2_with fail
  clear K2 x2 z2
  cases b2
  · have he := HNOT.out (.inl (HDN.out (by simp)))
    have HE := Lib.hid he; clear he
    clear M3 HNOT HYES HDN HC
    rw [rounds_succ]
    go_wp2_with fail
    rw [HE.out]
    go_returns
    exact ⟨errV_eq rfl 7, by go_grown⟩
  obtain ⟨k3, n3, K3, x3, e3, z3⟩ := M3.out rfl
  have K3 := Lib.hid K3
  clear M3
  rw [rounds_succ]
  go_wp2_with fail
  refine (K3.out _).mono ?_
  rintro e w' ⟨rfl, rfl⟩
  go_wp2_with fail
  clear K3 x3 z3
  cases b3
  · have he := HNOT.out (.inl (HDN.out (by simp)))
    have HE := Lib.hid he; clear he
    clear M4 HNOT HYES HDN HC
    rw [rounds_succ]
    go_wp2_with fail
    rw [HE.out]
    go_returns
    exact ⟨errV_eq rfl 7, by go_grown⟩
  obtain ⟨k4, n4, K4, x4, e4, z4⟩ := M4.out rfl
  have K4 := Lib.hid K4
  clear M4
  rw [rounds_succ]
  go_wp2_with fail
  refine (K4.out _).mono ?_
  rintro e w' ⟨rfl, rfl⟩
  go_wp2_with fail
  clear K4 x4 z4
  cases b4
  · have he := HNOT.out (.inl (HDN.out (by simp)))
    have HE := Lib.hid he; clear he
    clear M5 HNOT HYES HDN HC
    rw [rounds_succ]
    go_wp2_with fail
    rw [HE.out]
    go_returns
    exact ⟨errV_eq rfl 7, by go_grown⟩
  obtain ⟨k5, n5, K5, x5, e5, z5⟩ := M5.out rfl
  have K5 := Lib.hid K5
  clear M5
  rw [rounds_succ]
  go_wp2_with fail
  refine (K5.out _).mono ?_
  rintro e w' ⟨rfl, rfl⟩
  go_wp2_with fail
  clear K5 x5 z5
  rw [rounds_succ]
  go_wp2_with fail
  · refine (HC.out _).mono ?_
    rintro e w' ⟨rfl, hb'⟩
    have hcc := fun j => hb'.cell (p := ⟨w.heap.size, j, none⟩) (by go_size)
    have hcd := fun j => hb'.cell (p := ⟨w.heap.size + 1, j, none⟩) (by go_size)
    have hff := fun j => hb'.frozen (p := ⟨w.heap.size, j, none⟩) (by go_size)
    have hbb : Below w.heap.size w w' := by
      refine Below.trans ?_ (hb'.mono ?_)
      · go_grown
      · go_size
    have HBB := Lib.hid hbb
    clear hb' hbb
    simp [go_sem] at hcc hcd
    obtain ⟨c0, c1, c2, c3, c4, c5⟩ := cells6 hcc
    obtain ⟨d0, d1, d2, d3, d4, d5⟩ := cells6 hcd
    clear hcc hcd
    go_wp2
    · have he := HNOT.out (.inr (.inr (by simpa using (by assumption : ((er : Int) != 0) = true))))
      rw [he]
      refine bodyPost_ret (v := ErrV 7) (by simp [results, Tryz.results111, go_sem, c0, c1, c2, c3, c4, c5]; rfl) rfl ⟨rfl, ?_⟩
      have hbb := HBB.out
      go_grown
    · have he := HYES.out (by assumption) (by assumption) (by simpa using (by assumption : ((er : Int) != 0) = false))
      rw [he]
      refine bodyPost_ret (by simp [results, Tryz.results111, go_sem, c0, c1, c2, c3, c4, c5]) rfl ⟨rfl, ?_⟩
      have hbb := HBB.out
      go_grown
  · have he := HNOT.out (.inr (.inl (by assumption)))
    rw [he]
    go_returns
    exact ⟨errV_eq rfl 7, by go_grown⟩
  · have he := HNOT.out (.inl (by simpa using (by assumption : ¬ b5 = true)))
    rw [he]
    go_returns
    exact ⟨errV_eq rfl 7, by go_grown⟩

theorem decoded_any (s : ByteArray) (w : World) (hs : s.size ≤ 1048576) :
    Calls Tryz.prog 111 #[.string s] w fun e w' => e = .returned (decV (decL s.data.toList)) ∧ Below w.heap.size w w' := by
  have hl : s.data.toList.length = s.size := by simp
  have hR := fun w => rreadText_any s 1024 w (by unfold maxLen; omega)
  rcases rdT_cases s.data.toList 1024 with ⟨t, k, e, h1, h2, h3, h4, h5⟩ | e | e
  · rw [e] at hR
    rw [hl] at h3
    have hR' : ∀ w, Calls Tryz.prog 173 #[.string s, .int .i64 1024] w fun e w' => e = .returned (.tuple #[.string ⟨t.toArray⟩, .int .i64 k, .int .i64 0]) ∧ w = w' := hR
    have hb2 : (⟨t.toArray⟩ : ByteArray).size ≤ 1024 := by rw [size_list]; omega
    by_cases hlen : k + 4 ≤ s.size
    · rw [decL_body e (by omega)]
      by_cases hq : (s.data.toList.drop k).take 4 = sum4 t
      · by_cases ht : t = []
        · have hz : (((⟨t.toArray⟩ : ByteArray).size : Int) == 0) = true := by rw [size_list, ht]; rfl
          refine (decoded_empty s ⟨t.toArray⟩ hz hb2 k w hs hlen hq hR').mono fun e w' ⟨a, b⟩ => ⟨?_, b⟩
          rw [a, ← decV_zero]
          subst ht
          unfold bodyV
          split <;> rfl
        · have hb3 : 0 < (⟨t.toArray⟩ : ByteArray).size := by rw [size_list]; exact List.length_pos_iff.2 ht
          exact decoded_good s ⟨t.toArray⟩ k w hs hlen hb2 hb3 hq hR'
      · refine (decoded_wrong s ⟨t.toArray⟩ k w hs hlen hb2 hq hR').mono fun e w' ⟨a, b⟩ => ⟨?_, b⟩
        rw [a, ← decV_zero]
        unfold bodyV
        rw [if_pos hq]
    · have hd : decL s.data.toList = (Rc.zero, 0, 6) := by
        unfold decL
        rw [e]
        simp only [ne_eq, not_true_eq_false, if_false]
        rw [if_pos (by omega)]
      rw [hd]
      exact decoded_short s ⟨t.toArray⟩ k w hs h3 (by omega) hR'
  · rw [e] at hR
    have hd : decL s.data.toList = (Rc.zero, 0, 6) := by unfold decL; rw [e]; rfl
    rw [hd]
    exact decoded_err s 6 (by decide) w hR
  · rw [e] at hR
    have hd : decL s.data.toList = (Rc.zero, 0, 7) := by unfold decL; rw [e]; rfl
    rw [hd]
    exact decoded_err s 7 (by decide) w hR
end Go.Proofs.YtbgchhgdlceceaaGreatDoor.Rec

namespace Go.Proofs.YtbgchhgdlceceaaGreatDoor.Log
open Go.RowKit Heap Dsk Drw
open Subj (ML)
open Rec (Rc recErr recA rcOf codedL decL decV decoded_any)
open Sto (recsV recsV_append recC RecsAt Fits parts sixC recV info_rec news_rec)

section
variable {W w : World} {G : Nat → Prop} {E : Nat} {room : Int} {A : List FileP}

/-- What Opened tells and leaves. -/
def OpenedPost (W : World) (G : Nat → Prop) (E : Nat) (room : Int) (w : World) (A : List FileP) (e : Ending) (w' : World) : Prop :=
  ∃ v G', e = .returned v ∧ DrawAt W G' E room (openD A).2 w' ∧ (∀ k, G' k → G k ∨ w.heap.size ≤ k) ∧ Row w' 33 6 v (openD A).1.length (recsV (openD A).1) ∧ (∀ k, own v k → w.heap.size ≤ k ∧ ¬ G' k) ∧ Heap.Touch G w w'

def OO (w1 : World) (R : List Rc) (o : Value) (wr : World) : Prop := Row wr 33 6 o R.length (recsV R) ∧ (∀ j, own o j → w1.heap.size ≤ j) ∧ Below w1.heap.size w1 wr

/-- The blocks behind the cut one go. -/
def OK3 (W : World) (G : Nat → Prop) (E : Nat) (room : Int) (A : List FileP) (w5 : World) (j : Nat) (wr : World) : Prop :=
  ∃ G', DrawAt W G' E room (stB A j) wr ∧ (∀ x, G' x → G x ∨ w5.heap.size ≤ x) ∧ Heap.Touch G w5 wr

theorem OO.next {w1 wr w' : World} {R : List Rc} {o : Value} (h : OO w1 R o wr) (hb : Below wr.heap.size wr w') : OO w1 R o w' := ⟨h.1.kept fun k _ hk => hb.block k hk, h.2.1, h.2.2.trans (hb.mono h.2.2.size)⟩

theorem outB_all {i : Nat} (hi : i = jB A) (hl : i < A.length) : outB A A.length = outB A (i + 1) := by
  unfold outB
  rw [show min A.length (jB A + 1) = jB A + 1 by omega, show min (i + 1) (jB A + 1) = jB A + 1 by omega]

set_option maxHeartbeats 8000000 in
set_option maxRecDepth 100000 in
theorem opened_drw (h : DrawAt W G E room A w) (hlt : ∀ k, G k → k < w.heap.size) :
    Calls Tryz.prog 44 #[.pointer (some ⟨E, 0, none⟩)] w (OpenedPost W G E room w A) := by
  have HLS := Lib.hid (list_drw h)
  have HD := Lib.hid h; have HLT := Lib.hid hlt; have HRT := Lib.hid h.right
  have hfew := h.right.few
  obtain ⟨L, hL⟩ : ∃ L, A.length = L := ⟨_, rfl⟩
  rw [hL] at hfew
  have HL := Lib.hid hL
  obtain ⟨i0, hi, hz0, hz1, hz2⟩ := info_parts info_rec
  clear h hlt hL
  go_enter Tryz.func44, Tryz.ntmps44
  go_wp2_with fail
  refine HLS.out.mono ?_
  rintro e w1 ⟨nv, rfl, hb1, hr1, ho1⟩
  rw [List.length_map, HL.out] at hr1
  obtain ⟨a1, n1, rfl⟩ := hr1.slice
  have HB1 := Lib.hid hb1; have HR1 := Lib.hid hr1; have HO1 := Lib.hid ho1
  have HD1 := Lib.hid (HD.out.next hb1)
  have h0 := Lib.hid (show OO w1 (outB A 0) (.slice none 0 0) w1 from by
    have e : outB A 0 = [] := by unfold outB; simp
    rw [e]
    exact ⟨Row.nil _ _ _, fun j hj => by simp [own, Value.ownBlock] at hj, Below.refl _ _⟩)
  clear hb1 hr1 ho1 HLS
  go_wp2_with fail
  go_loopw [3, 5] (fun o i wr => ∃ k : Nat, k ≤ L ∧ k ≤ jB A ∧ i = .int .i64 k ∧ Hid (OO w1 (outB A k) o wr)) (fun _ i _ => L - (intOf i).toNat)
  case atStart => exact ⟨0, Nat.zero_le _, Nat.zero_le _, rfl, h0⟩
  case round =>
    obtain ⟨k, hk, hkj, rfl, HR⟩ := hrel
    clear h0
    by_cases hlt : k < L
    · have hltz : (k : Int) < L := by omega
      obtain ⟨p, hp⟩ : ∃ p, A[k]? = some p := ⟨_, List.getElem?_eq_getElem (by rw [HL.out]; exact hlt)⟩
      obtain ⟨g, off, rfl⟩ : ∃ g off, a1 = some ⟨g, off, none⟩ := by
        rcases HR1.out.2 with ⟨_, e0⟩ | ⟨g, off, cap, cur, e, _⟩
        · omega
        · simp only [Value.slice.injEq] at e; exact ⟨g, off, e.1⟩
      have hbw : Below w1.heap.size w1 wr := HR.out.2.2
      have hrow := HR1.out.kept (w' := wr) fun j _ hj => hbw.block j hj
      have hcell := hrow.cell k (by omega)
      have hnk : (numsV (A.map (·.n)))[k]? = some (.int .i64 p.n) := by
        obtain ⟨hkl, e⟩ := List.getElem?_eq_some_iff.1 hp
        subst e
        simp [numsV, hkl]
      rw [hnk] at hcell
      have hc0 := hcell.1
      have hgf := getF_mem HRT.out.sorted (List.mem_of_getElem? hp)
      have hplen := HRT.out.len (List.mem_of_getElem? hp)
      have hrd := read_drw (HD1.out.next hbw) p.n
      have hrdd : readD A p.n = (p.text, 0) := by unfold readD; rw [hgf]
      rw [hrdd] at hrd
      simp only at hrd
      obtain ⟨T, hT⟩ : ∃ T : ByteArray, (⟨p.text.toArray⟩ : ByteArray) = T := ⟨_, rfl⟩
      have hTl : T.data.toList = p.text := by rw [← hT]
      have hTs : T.size = p.text.length := by rw [← hT]; show p.text.toArray.size = _; simp
      rw [hT] at hrd
      have hTz : T.size ≤ 65536 := by omega
      have HRD := Lib.hid hrd; have HP := Lib.hid hp; have HTL := Lib.hid hTl; have HTS := Lib.hid hTs; have HGF := Lib.hid hgf
      have hob := outB_len HRT.out k
      have HNC := Lib.hid (show ∀ w', Below w1.heap.size w1 w' → w'.cell? ⟨g, off + k, none⟩ = some (.int .i64 p.n) from fun w' hb => by
        have hrow := HR1.out.kept (w' := w') fun j _ hj => hb.block j hj
        have hcell := hrow.cell k (by omega)
        rw [hnk] at hcell
        exact hcell.1)
      clear hp hbw hrow hcell hnk hgf hplen hrd hrdd hT hTl hTs
      go_wp2_with fail
      refine HRD.out.mono ?_
      rintro e w2 ⟨rfl, hb2⟩
      obtain ⟨ol, hol⟩ : ∃ ol, (outB A k).length = ol := ⟨_, rfl⟩
      rw [hol] at hob
      have HOL := Lib.hid hol
      have h0 := Lib.hid (show OO w1 (outB A k ++ []) u3 w2 from by rw [List.append_nil]; exact HR.out.next hb2)
      clear hb2 HRD HR hc0 hol
      go_wp2_with fail
      go_loopw [3, 8] (fun o a wr => ∃ (C : List Rc) (m : Nat), a = .int .i64 m ∧ m ≤ T.size ∧ Hid (ScanAt p.text C m) ∧ Hid (OO w1 (outB A k ++ C) o wr)) (fun _ a _ => T.size - (intOf a).toNat)
      case atStart => exact ⟨[], 0, rfl, Nat.zero_le _, Lib.hid (ScanAt.zero _), h0⟩
      case round =>
        obtain ⟨C, m, rfl, hm, HS, HR⟩ := hrel
        clear h0
        obtain ⟨cl, hcl⟩ : ∃ cl, C.length = cl := ⟨_, rfl⟩
        have hc4 : cl * 4 ≤ m := by rw [← hcl]; exact HS.out.2.2
        have HCL := Lib.hid hcl
        clear hcl
        by_cases hmt : m < T.size
        · have hmtz : (m : Int) < T.size := by omega
          obtain ⟨X, hX⟩ : ∃ X : ByteArray, T.extract m T.size = X := ⟨_, rfl⟩
          have hXl : X.data.toList = p.text.drop m := by
            rw [← HTL.out, ← hX, ByteArray.data_extract, Array.toList_extract]
            simp
            exact List.take_of_length_le (by simp)
          have hXs : X.size ≤ T.size := by
            have h1 : X.data.toList.length = X.size := Array.length_toList
            rw [← h1, hXl, List.length_drop, ← HTS.out]; omega
          have hdc := decoded_any X wr (by omega)
          obtain ⟨x, hx⟩ : ∃ x, decL X.data.toList = x := ⟨_, rfl⟩
          rw [hx] at hdc
          have hxd : decL (p.text.drop m) = x := by rw [← hXl]; exact hx
          obtain ⟨r, nb, er⟩ := x
          obtain ⟨sb, hd, d, hpp⟩ := parts r
          unfold decV at hdc
          simp only at hdc
          rw [hpp.s1, hpp.h1, hpp.d1] at hdc
          have HDC := Lib.hid hdc; have HXD := Lib.hid hxd; have HXE := Lib.hid hX; have HPP := Lib.hid hpp
          clear hdc hx hxd hXl hXs hpp
          go_wp2_with fail
          refine HDC.out.mono ?_
          rintro e w3 ⟨rfl, hb3⟩
          obtain ⟨w4, hw4⟩ : ∃ w4, w4 = w3.alloc (.cells #[.int .i64 r.kind, .int .i64 r.seq, .int .i64 r.time, .string sb, .string hd, .string d] 33) := ⟨_, rfl⟩
          have hb4 : Below w3.heap.size w3 w4 := by rw [hw4]; exact (Below.refl _ _).alloc (Nat.le_refl _) _
          have he4 : w4.heap[w3.heap.size]? = some (.cells #[.int .i64 r.kind, .int .i64 r.seq, .int .i64 r.time, .string sb, .string hd, .string d] 33 (0, 0)) := by rw [hw4]; exact heap_alloc_new w3 _
          obtain ⟨bx, hbx⟩ : ∃ bx, w3.heap.size = bx := ⟨_, rfl⟩
          rw [hbx] at he4
          have HBX := Lib.hid hbx
          have hro := HR.out.next (hb3.trans (hb4.mono hb3.size))
          obtain ⟨q0, q1, q2, q3, q4, q5⟩ := sixC he4
          have HRO := Lib.hid hro
          clear hb3 hb4 he4 hbx HDC HR
          go_upto_region 10 with fail
          rw [← hw4, HBX.out]
          clear hw4
          by_cases her : er = 0
          · subst her
            have hez : (decL (p.text.drop m)).2.2 = 0 := by rw [HXD.out]
            have hnx := HS.out.next (by rw [← HTS.out]; exact hmt) hez
            rw [HXD.out] at hnx
            simp only at hnx
            have hle := hnx.2.1
            rw [← HTS.out] at hle
            have hz4 := (decL_size hez).1
            rw [HXD.out] at hz4
            simp only at hz4
            have HNX := Lib.hid hnx
            have hr := hro.1
            rw [List.length_append, HOL.out, HCL.out] at hr
            obtain ⟨va, vc, rfl⟩ := hr.slice
            have HRW := Lib.hid hr
            clear hnx hez hro hr
            go_wp2_with (at_builtin; refine Heap.wpList_append_row _ rfl (.tmp 66) (.tmp 68) 25 rfl 33 i0 _ 6 72 Tryz.underlying25 hi hz0 hz1 hz2 rfl (by decide) _ (ol + cl) _ rfl (HRW.out.kept (fun k _ hk => Below.heap_alloc w4 _ _ hk)) ⟨w4.heap.size, 0, none⟩ 1 1 [.int .i64 r.kind, .int .i64 r.seq, .int .i64 r.time, .string sb, .string hd, .string d] rfl rfl (news_rec w4 _ _ _ _ _ _ _) (by simp [Value.oneCell']) (by unfold maxLen; omega) (by omega) ?_)
            intro v5 w5 r5 t5 o5
            have hal : Below w4.heap.size w4 (w4.alloc (.cells #[.int .i64 r.kind, .int .i64 r.seq, .int .i64 r.time, .string sb, .string hd, .string d] 33)) := (Below.refl _ _).alloc (Nat.le_refl _) _
            have HF := Lib.hid (show OO w1 (outB A k ++ (C ++ [r])) v5 w5 from by
              have hbz := HRO.out.2.2.size
              refine ⟨?_, fun j hj => ?_, (HRO.out.2.2.trans (hal.mono hbz)).trans (t5.below (Nat.le_trans hbz hal.size) fun k hk => HRO.out.2.1 k hk)⟩
              · rw [← List.append_assoc, List.length_append, List.length_singleton, List.length_append, HOL.out, HCL.out, recsV_append, show recsV [r] = [.int .i64 r.kind, .int .i64 r.seq, .int .i64 r.time, .string sb, .string hd, .string d] from by rw [← HPP.out.s1, ← HPP.out.h1, ← HPP.out.d1]; rfl]
                exact r5
              · rcases o5 j hj with h | h
                · exact HRO.out.2.1 j h
                · have := hal.size; omega)
            clear r5 t5 o5 hal q0 q1 q2 q3 q4 q5
            go_wp2_with fail
            exact ⟨⟨C ++ [r], m + nb, by go_num, hle, HNX, HF⟩, by simp [intOf]; omega⟩
          · have he0 : ((er : Int) != 0) = true := by simpa using her
            have hend := HS.out.end_ (.inr (by rw [HXD.out]; exact her))
            have hbad : badF p = true := by
              unfold badF
              rw [hend]
              exact decide_eq_true (by rw [← HTS.out]; exact hmt)
            have hkb : k = jB A := by
              by_cases e : k < jB A
              · rw [jB_good HP.out e] at hbad; cases hbad
              · omega
            have hkA : k < A.length := by rw [HL.out]; exact hlt
            have hcf : cutF p = ⟨p.n, p.text.take m, m⟩ := by unfold cutF; rw [hend]
            obtain ⟨hg2, hst⟩ := stB_cut (A := A) (p := p) HRT.out.sorted (by rw [← hkb]; exact HP.out)
            rw [hcf, ← hkb] at hst
            have hcd : cutD A p.n m = (stB A (k + 1), 0) := by
              unfold cutD
              rw [HGF.out]
              simp only
              rw [if_neg (by have := HTS.out; omega), Int.toNat_natCast, hst]
            have hct := cut_drw (HD1.out.next hro.2.2) p.n m
            rw [hcd] at hct
            have hall : outB A A.length = outB A k ++ C := by
              rw [outB_all hkb hkA, outB_step HP.out (by omega)]
              unfold recsF
              rw [hend]
            have hc0 := HNC.out w4 hro.2.2
            have HCT := Lib.hid hct; have HALL := Lib.hid hall; have HKB := Lib.hid hkb
            have HNV4 := Lib.hid (HR1.out.kept (w' := w4) fun j _ hj => hro.2.2.block j hj)
            clear hend hbad hkb hkA hcf hg2 hst hcd hct hall hro her
            go_wp2_with fail
            refine HCT.out.mono ?_
            rintro e w5 ⟨rfl, hd5, ht5⟩
            have hz1 := HB1.out.size
            have hz4 := HRO.out.2.2.size
            have HNV5 := Lib.hid (HNV4.out.kept (w' := w5) fun j hj hlt => ht5.block j hlt fun e => by have := HO1.out j hj; have := HLT.out j e; omega)
            have HRO5 := Lib.hid (HRO.out.1.kept (w' := w5) fun j hj hlt => ht5.block j hlt fun e => by have := HRO.out.2.1 j hj; have := HLT.out j e; omega)
            have HT5 := Lib.hid (show Heap.Touch G w w5 from ((Heap.Touch.ofBelow HB1.out).after (Heap.Touch.ofBelow HRO.out.2.2)).after ht5)
            have h0 := Lib.hid (show OK3 W G E room A w5 (k + 1) w5 from ⟨G, hd5, fun x hx => .inl hx, Heap.Touch.refl _ _⟩)
            clear hd5 ht5 HCT HNV4 hc0 q0 q1 q2 q3 q4 q5
            go_wp2_with fail
            go_loopw [12] (fun s12 wr => ∃ j : Nat, k + 1 ≤ j ∧ j ≤ L ∧ s12 = .int .i64 j ∧ Hid (OK3 W G E room A w5 j wr)) (fun s12 _ => L - (intOf s12).toNat)
            case atStart => exact ⟨k + 1, Nat.le_refl _, by omega, by go_num, h0⟩
            case round =>
              obtain ⟨j, hj1, hj2, rfl, HR⟩ := hrel
              clear h0
              obtain ⟨G', hd6, hG6, ht6⟩ := HR.out
              by_cases hjl : j < L
              · have hjlz : (j : Int) < L := by omega
                obtain ⟨p2, hp2⟩ : ∃ p2, A[j]? = some p2 := ⟨_, List.getElem?_eq_getElem (by rw [HL.out]; exact hjl)⟩
                have hnk : (numsV (A.map (·.n)))[j]? = some (.int .i64 p2.n) := by
                  obtain ⟨hkl, e⟩ := List.getElem?_eq_some_iff.1 hp2
                  subst e
                  simp [numsV, hkl]
                have hrow := HNV5.out.kept (w' := wr) fun i hi hlt => ht6.block i hlt fun e => by have := HO1.out i hi; have := HLT.out i e; omega
                have hcell := hrow.cell j (by omega)
                rw [hnk] at hcell
                have hc0 := hcell.1
                obtain ⟨hg, hdl⟩ := stB_del HRT.out.sorted hp2 (show jB A < j by have := HKB.out; omega)
                have hrm := remove_drw hd6 p2.n
                have hrd : removeD (stB A j) p2.n = (stB A (j + 1), 0) := by unfold removeD; rw [hg]; simp only; rw [hdl]
                rw [hrd] at hrm
                have HRM := Lib.hid hrm
                have HG6 := Lib.hid (And.intro hG6 ht6)
                clear hp2 hnk hrow hcell hg hdl hrm hrd hd6 hG6 ht6 HR
                go_wp2_with fail
                refine HRM.out.mono ?_
                rintro e w7 ⟨rfl, hd7, ht7⟩
                have HNX := Lib.hid (show OK3 W G E room A w5 (j + 1) w7 from by
                  obtain ⟨hG6, ht6⟩ := HG6.out
                  refine ⟨_, hd7, fun x hx => ?_, ht6.trans ht7 fun x hx hf => ?_⟩
                  · rcases hx with hx | hx
                    · exact hG6 x hx
                    · exact .inr (Nat.le_trans ht6.size hx)
                  · rcases hG6 x hf with e | e
                    · exact e
                    · omega)
                clear hd7 ht7 HRM HG6 hc0
                go_wp2_with fail
                exact ⟨⟨j + 1, by omega, by omega, by go_num, HNX⟩, by simp [intOf]; omega⟩
              · have hjlz : ¬ (j : Int) < L := by omega
                obtain rfl : j = L := by omega
                have HF := Lib.hid (show OpenedPost W G E room w A (.returned u3) wr from by
                  refine ⟨_, G', rfl, ?_, fun x hx => ?_, ?_, fun x hx => ?_, HT5.out.trans ht6 fun _ _ hf => hf⟩
                  · rw [openD_all, HL.out]; exact hd6
                  · rcases hG6 x hx with e | e
                    · exact .inl e
                    · exact .inr (Nat.le_trans HT5.out.size e)
                  · rw [openD_all, HALL.out]
                    exact HRO5.out.kept fun x hx hlt => ht6.block x hlt fun e => by have := HRO.out.2.1 x hx; have := HLT.out x e; omega
                  · have h1 := HRO.out.2.1 x hx
                    have h2 := HRO5.out.lt x hx
                    refine ⟨by omega, fun e => ?_⟩
                    rcases hG6 x e with e | e
                    · have := HLT.out x e; omega
                    · omega)
                clear hd6 hG6 ht6 HR
                go_wp2_with fail
                go_ret
                exact HF.out
        · have hmtz : ¬ (m : Int) < T.size := by omega
          have hend := HS.out.end_ (.inl (by rw [← HTS.out]; omega))
          have hgood : badF p = false := by
            unfold badF
            rw [hend]
            exact decide_eq_false (by rw [← HTS.out]; omega)
          have hkb : k ≠ jB A := fun e => by
            rw [jB_bad (A := A) (p := p) (by rw [← e]; exact HP.out)] at hgood; cases hgood
          have HNX := Lib.hid (show OO w1 (outB A (k + 1)) u3 wr from by
            rw [outB_step HP.out hkj]
            unfold recsF
            rw [hend]
            exact HR.out)
          have hkj1 : k + 1 ≤ jB A := by omega
          clear hend hgood hkb HR
          go_wp2_with fail
          exact ⟨⟨k + 1, by omega, hkj1, by go_num, HNX⟩, by simp [intOf]; omega⟩
    · have hltz : ¬ (k : Int) < L := by omega
      obtain rfl : k = L := by omega
      have HF := Lib.hid (show OpenedPost W G E room w A (.returned u3) wr from by
        obtain ⟨h1, h2, h3⟩ := HR.out
        have hz1 := HB1.out.size
        have hst : stB A k = A := by unfold stB; rw [if_neg (by omega)]
        refine ⟨_, G, rfl, ?_, fun x hx => .inl hx, ?_, fun x hx => ?_, (Heap.Touch.ofBelow HB1.out).after (Heap.Touch.ofBelow h3)⟩
        · rw [openD_all, HL.out, hst]; exact HD1.out.next h3
        · rw [openD_all, HL.out]; exact h1
        · have h1 := h2 x hx
          exact ⟨by omega, fun e => by have := HLT.out x e; omega⟩)
      clear HR
      go_wp2_with fail
      go_ret
      exact HF.out
end
end Go.Proofs.YtbgchhgdlceceaaGreatDoor.Log

namespace Go.Proofs.YtbgchhgdlceceaaGreatDoor.Vlt
open Go.RowKit Heap
open Rec (Rc recErr)
open Sto (Fits)

theorem fits_ok {r : Rc} (h : recErr r = 0) : Fits r := by
  have := Rec.recErr_sizes h
  exact ⟨by omega, by omega, by omega⟩

end Go.Proofs.YtbgchhgdlceceaaGreatDoor.Vlt

namespace Go.Proofs.YtbgchhgdlceceaaGreatDoor.Vlt
open Go.RowKit Heap Dsk Drw
theorem DrawAt.shrink {W w : World} {G : Nat → Prop} {E : Nat} {room : Int} {A : List FileP} (h : DrawAt W G E room A w) : DrawAt W (fun k => G k ∧ k < w.heap.size) E room A w := by
  obtain ⟨v, h1, h2, h3⟩ := h.mem
  exact ⟨h.right, h.below, fun k hk => h.newG k hk.1, ⟨h.gE, heap_lt h1⟩, v, h1, h2, fun k hk => ⟨h3 k hk, h2.lt k hk⟩⟩
end Go.Proofs.YtbgchhgdlceceaaGreatDoor.Vlt
