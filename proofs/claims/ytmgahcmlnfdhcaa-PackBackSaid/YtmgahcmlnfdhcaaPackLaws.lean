/- The laws of package pack, walked: each returns true. -/
import Derived.Test.YtmgahcmlnfdhcaaPackRefs
namespace Go.Proofs.Ytmgahcmlnfdhcaa.Pack
open Go.RowKit

set_option maxRecDepth 100000 in
theorem packOne_walk (a0 : ByteArray) (w0 : a0.size ≤ 140737488351232) (w : World) :
    Calls Try.prog 6 #[.string a0] w fun e w' => e = .returned (.bool true) ∧ Below w.heap.size w w' := by
  have h1 := readNumber_any ⟨#[128, 0]⟩ w (by decide)
  rw [show rdN (ByteArray.mk #[128, 0]).data.toList = (0, 0, 7) by decide +kernel] at h1
  unfold rdV at h1
  have hc := readNumber_any a0 w (by unfold maxLen; omega)
  have H1 := Lib.hid h1; clear h1
  rcases rdN_cases a0.data.toList with ⟨n, k, h, hn, hk0, hk, hk9, hnum⟩ | h | h
  · rw [h] at hc
    unfold rdV at hc
    have HC := Lib.hid hc; clear hc
    have hk' : k ≤ a0.size := by simpa using hk
    have HN := Lib.hid hnum; clear hnum h hk
    have hn' : (n : Int) ≤ 9223372036854775807 := by omega
    have Hn := Lib.hid hn; clear hn
    go_enter Try.func6, Try.ntmps6
    go_wp2_with fail
    refine H1.out.mono ?_
    rintro e w' ⟨rfl, rfl⟩
    go_wp2_with fail
    refine HC.out.mono ?_
    rintro e w' ⟨rfl, rfl⟩
    go_wp2_with fail
    have heq : (⟨(numL n).toArray⟩ : ByteArray) = a0.extract 0 k := by
      have := extract_list a0 0 k
      rw [Nat.zero_add] at this
      rw [this, HN.out]
      simp
    have HQ := Lib.hid heq; clear heq
    go_region_with (go_at_call 16; refine (number_any _ _ hn').mono ?_; rintro e w1 ⟨rfl, hb⟩; rw [Int.toNat_natCast, HQ.out])
    all_goals
      go_wp2
      go_ret
      exact ⟨rfl, (Below.refl w.heap.size w).drew.trans hb⟩
  all_goals
    rw [h] at hc
    unfold rdV at hc
    have HC := Lib.hid hc; clear hc h
    go_enter Try.func6, Try.ntmps6
    go_wp2_with fail
    refine H1.out.mono ?_
    rintro e w' ⟨rfl, rfl⟩
    go_wp2_with fail
    refine HC.out.mono ?_
    rintro e w' ⟨rfl, rfl⟩
    go_wp2
    go_ret
    exact ⟨rfl, Below.refl _ _⟩


theorem size_str (l : List UInt8) : (⟨l.toArray⟩ : ByteArray).size = l.length := by
  show l.toArray.size = _; simp

theorem list_str (l : List UInt8) : (⟨l.toArray⟩ : ByteArray).data.toList = l := by simp

theorem list_append (a b : ByteArray) : (a ++ b).data.toList = a.data.toList ++ b.data.toList := by simp

theorem length_list (s : ByteArray) : s.data.toList.length = s.size := by simp

theorem size_append (a b : ByteArray) : (a ++ b).size = a.size + b.size := ByteArray.size_append

theorem number_str (n : Int) (hn : n ≤ 9223372036854775807) : ∃ S : ByteArray, S.size ≤ 9 ∧
    (∀ w, Calls Try.prog 16 #[.int .i64 n] w fun e w' => e = .returned (.string S) ∧ Below w.heap.size w w') ∧
    (∀ w (M : ByteArray), M.size ≤ 140737488351232 → Calls Try.prog 15 #[.string (S ++ M)] w fun e w' => e = .returned (.tuple #[.int .i64 (max n 0), .int .i64 S.size, .int .i64 0]) ∧ w = w') := by
  refine ⟨⟨(numL n.toNat).toArray⟩, by rw [size_str]; exact numL_len _, fun w => number_any n w hn, fun w M hM => ?_⟩
  have h := readNumber_any (⟨(numL n.toNat).toArray⟩ ++ M) w (by rw [size_append, size_str]; have := numL_len n.toNat; unfold maxLen; omega)
  rw [list_append, list_str, rdN_num _ _ (by omega)] at h
  unfold rdV at h
  rw [size_str, show max n 0 = (n.toNat : Int) by omega]
  exact h

theorem text_str (t : ByteArray) (ht : t.size ≤ 140737488351232) : ∃ S : ByteArray, 0 < S.size ∧ S.size ≤ 140737488351241 ∧
    (∀ w, Calls Try.prog 17 #[.string t] w fun e w' => e = .returned (.string S) ∧ Below w.heap.size w w') ∧
    (∀ w (M : ByteArray), M.size ≤ 140737488351232 → Calls Try.prog 18 #[.string (S ++ M), .int .i64 t.size] w fun e w' => e = .returned (.tuple #[.string t, .int .i64 S.size, .int .i64 0]) ∧ w = w') ∧
    (∀ w (j : Nat), j < S.size → Calls Try.prog 18 #[.string (S.extract 0 j), .int .i64 t.size] w fun e w' => e = .returned (.tuple #[.string ⟨#[]⟩, .int .i64 0, .int .i64 6]) ∧ w = w') := by
  have hlen : (textL t.data.toList).length = (numL t.size).length + t.size := by unfold textL; simp
  have h9 := numL_len t.size
  have h0 : 0 < (numL t.size).length := by unfold numL; exact numF_pos 8 _
  refine ⟨⟨(textL t.data.toList).toArray⟩, by rw [size_str]; omega, by rw [size_str]; omega, fun w => text_any t w (by omega), fun w M hM => ?_, fun w j hj => ?_⟩
  · have h := readText_any (⟨(textL t.data.toList).toArray⟩ ++ M) t.size w (by rw [size_append, size_str]; unfold maxLen; omega)
    rw [list_append, list_str, rdT_text _ _ _ (by rw [length_list]; omega) (by rw [length_list]; omega)] at h
    unfold rtV at h
    rw [size_str]
    have e : (⟨t.data.toList.toArray⟩ : ByteArray) = t := (list_of t).symm
    rw [e] at h
    exact h
  · rw [size_str] at hj
    have e := extract_list ⟨(textL t.data.toList).toArray⟩ 0 j
    rw [Nat.zero_add, list_str] at e
    rw [e]
    have h := readText_any ⟨((List.drop 0 (textL t.data.toList)).take j).toArray⟩ t.size w (by rw [size_str]; simp; unfold maxLen; omega)
    rw [list_str, List.drop_zero, rdT_front _ _ _ (by rw [length_list]; omega) (by rw [length_list]; omega) hj] at h
    exact h

set_option maxRecDepth 100000 in
theorem packBack_walk (a0 : Int) (a1 a2 : ByteArray) (a3 : Int) (w0 : (Lit.int .i64 a0).wf = true) (w1 : a1.size ≤ 140737488351232) (w2 : a2.size ≤ 140737488351232) (w3 : (Lit.int .i64 a3).wf = true) (w : World) :
    Calls Try.prog 7 #[.int .i64 a0, .string a1, .string a2, .int .i64 a3] w fun e w' => e = .returned (.bool true) ∧ Below w.heap.size w w' := by
  have b0 : a0 ≤ 9223372036854775807 := by
    have := w0; simp [Lit.wf, IntKind.min, IntKind.max, IntKind.signed, IntKind.bits] at this; omega
  clear w0 w3
  have h300 : (⟨(numL 300).toArray⟩ : ByteArray) = ⟨#[172, 2]⟩ := by decide +kernel
  have HH := Lib.hid h300; clear h300
  obtain ⟨S, hS9, hc1, hc2⟩ := number_str a0 b0
  obtain ⟨T, hT0, hT9, hd1, hd2, hd3⟩ := text_str a1 w1
  have C1 := Lib.hid hc1; have C2 := Lib.hid hc2; have D1 := Lib.hid hd1; have D2 := Lib.hid hd2; have D3 := Lib.hid hd3
  clear hc1 hc2 hd1 hd2 hd3
  have hj0 : 0 ≤ a3 % (T.size : Int) := Int.emod_nonneg _ (by omega)
  have hj1 : a3 % (T.size : Int) < (T.size : Int) := Int.emod_lt_of_pos _ (by omega)
  obtain ⟨j, hj⟩ : ∃ j : Nat, a3 % (T.size : Int) = j := ⟨(a3 % (T.size : Int)).toNat, by omega⟩
  have HJ := Lib.hid hj
  rw [hj] at hj0 hj1
  clear hj
  have hj1' : j < T.size := by omega
  by_cases h0 : 0 ≤ a0
  all_goals
    go_enter Try.func7, Try.ntmps7
    go_wp2_with fail
    refine (number_any _ _ (by omega)).mono ?_
    rintro e wa ⟨rfl, hba⟩
    rw [show Int.toNat 300 = 300 from rfl, HH.out]
    go_wp2_with fail
    refine (C1.out _).mono ?_
    rintro e wb ⟨rfl, hbb⟩
    go_wp2_with fail
    refine (C2.out _ _ w2).mono ?_
    rintro e w' ⟨rfl, rfl⟩
    go_wp2_with fail
    refine (D1.out _).mono ?_
    rintro e wc ⟨rfl, hbc⟩
    go_wp2_with fail
    refine (D2.out _ _ w2).mono ?_
    rintro e w' ⟨rfl, rfl⟩
    go_wp2_with fail
    refine (rest_any _ _ _ (by omega) (by omega)).mono ?_
    rintro e w' ⟨rfl, rfl⟩
    rw [HJ.out]
    go_wp2_with fail
    refine (D3.out _ _ hj1').mono ?_
    rintro e w' ⟨rfl, rfl⟩
    go_wp2
    go_ret
    exact ⟨rfl, (hba.trans (hbb.mono hba.size)).trans (hbc.mono (Nat.le_trans hba.size hbb.size))⟩

set_option maxRecDepth 100000 in
theorem packSays_walk (a0 : Int) (a1 : ByteArray) (a2 : Int) (w0 : (Lit.int .i64 a0).wf = true) (w1 : a1.size ≤ 140737488351232) (w2 : (Lit.int .i64 a2).wf = true) (w : World) :
    Calls Try.prog 8 #[.int .i64 a0, .string a1, .int .i64 a2] w fun e w' => e = .returned (.bool true) ∧ Below w.heap.size w w' := by
  have b0 : a0 ≤ 9223372036854775807 := by
    have := w0; simp [Lit.wf, IntKind.min, IntKind.max, IntKind.signed, IntKind.bits] at this; omega
  clear w0 w2
  have hm : a1.size ≤ maxLen := by unfold maxLen; omega
  have A1 := Lib.hid (fun w => readNumber_any a1 w hm)
  have A2 := Lib.hid (fun w => rreadNumber_any a1 w hm)
  have A3 := Lib.hid (fun w => readText_any a1 a2 w hm)
  have A4 := Lib.hid (fun w => rreadText_any a1 a2 w hm)
  have A5 := Lib.hid (fun w => number_any a0 w b0)
  have A6 := Lib.hid (fun w => rnumber_any (a0.toNat + 1) a0 w (by omega) b0)
  have A7 := Lib.hid (fun w => text_any a1 w (by omega))
  have A8 := Lib.hid (fun w => rtext_any a1 w (by omega))
  have A9 := Lib.hid (fun w => sum_any a1 w hm)
  have A10 := Lib.hid (fun w => rsum_any a1 w hm)
  clear hm
  generalize rdN a1.data.toList = x at *
  generalize rdT a1.data.toList a2 = y at *
  generalize (⟨(numL a0.toNat).toArray⟩ : ByteArray) = u at *
  generalize (⟨(textL a1.data.toList).toArray⟩ : ByteArray) = v at *
  generalize (Crc.crcL a1.data.toList).toNat = z at *
  obtain ⟨x1, x2, x3⟩ := x
  obtain ⟨y1, y2, y3⟩ := y
  unfold rdV at A1 A2
  unfold rtV at A3 A4
  go_enter Try.func8, Try.ntmps8
  go_wp2_with fail
  refine (A1.out _).mono ?_
  rintro e w' ⟨rfl, rfl⟩
  go_wp2_with fail
  refine (A2.out _).mono ?_
  rintro e w' ⟨rfl, rfl⟩
  go_wp2_with fail
  refine (A3.out _).mono ?_
  rintro e w' ⟨rfl, rfl⟩
  go_wp2_with fail
  refine (A4.out _).mono ?_
  rintro e w' ⟨rfl, rfl⟩
  go_wp2_with fail
  refine (A5.out _).mono ?_
  rintro e wa ⟨rfl, hba⟩
  go_wp2_with fail
  refine (A6.out _).mono ?_
  rintro e wb ⟨rfl, hbb⟩
  go_wp2_with fail
  refine (A7.out _).mono ?_
  rintro e wc ⟨rfl, hbc⟩
  go_wp2_with fail
  refine (A8.out _).mono ?_
  rintro e wd ⟨rfl, hbd⟩
  go_wp2_with fail
  refine (A9.out _).mono ?_
  rintro e w' ⟨rfl, rfl⟩
  go_wp2_with fail
  refine (A10.out _).mono ?_
  rintro e w' ⟨rfl, rfl⟩
  go_wp2
  go_ret
  have h1 := hba.trans (hbb.mono hba.size)
  have h2 := h1.trans (hbc.mono h1.size)
  exact ⟨rfl, h2.trans (hbd.mono h2.size)⟩
end Go.Proofs.Ytmgahcmlnfdhcaa.Pack
