/- The reference's Decoded, walked. -/
import Derived.Test.YtmeaenmialaghaaDoorRecDec2
namespace Go.Proofs.YtmeaenmialaghaaDoor.Rec
open Go.RowKit Subj Pack Crc

set_option maxRecDepth 100000 in
theorem decoded_err (s : ByteArray) (n : Nat) (hn : n ≠ 0) (w : World) (hR : ∀ w, Calls Tryd.prog 54 #[.string s, .int .i64 1024] w fun e w' => e = .returned (.tuple #[.string ByteArray.empty, .int .i64 0, .int .i64 n]) ∧ w = w') :
    Calls Tryd.prog 31 #[.string s] w fun e w' => e = .returned (ErrV n) ∧ Below w.heap.size w w' := by
  have HR := Lib.hid hR; clear hR
  have h1 : ((n : Int) != 0) = true := by simp; omega
  go_enter Tryd.func31, Tryd.ntmps31
  go_wp2_with (go_at_call 54; refine (HR.out _).mono ?_; rintro e w' ⟨rfl, rfl⟩)
  go_returns
  exact ⟨errV_eq rfl n, by go_grown⟩

set_option maxRecDepth 100000 in
theorem decoded_short (s B : ByteArray) (k : Nat) (w : World) (hs : s.size ≤ 1048576) (hk : k ≤ s.size) (hlt : s.size < k + 4) (hR : ∀ w, Calls Tryd.prog 54 #[.string s, .int .i64 1024] w fun e w' => e = .returned (.tuple #[.string B, .int .i64 k, .int .i64 0]) ∧ w = w') :
    Calls Tryd.prog 31 #[.string s] w fun e w' => e = .returned (ErrV 6) ∧ Below w.heap.size w w' := by
  have HR := Lib.hid hR; clear hR
  go_enter Tryd.func31, Tryd.ntmps31
  go_wp2_with (go_at_call 54; refine (HR.out _).mono ?_; rintro e w' ⟨rfl, rfl⟩)
  go_returns
  exact ⟨errV_eq rfl 6, by go_grown⟩

theorem num4_horner (a b c d : UInt8) : (((d.toNat : Int) * 256 + c.toNat) * 256 + b.toNat) * 256 + a.toNat = (num4 a b c d : Nat) := by
  unfold num4; omega

theorem num4_lt (a b c d : UInt8) : num4 a b c d < 4294967296 := by
  have := a.toNat_lt; have := b.toNat_lt; have := c.toNat_lt; have := d.toNat_lt
  unfold num4; omega

set_option maxHeartbeats 2000000 in
set_option maxRecDepth 100000 in
theorem decoded_empty (s B : ByteArray) (hB : ((B.size : Int) == 0) = true) (hB2 : B.size ≤ 1024) (k : Nat) (w : World) (hs : s.size ≤ 1048576) (hlen : k + 4 ≤ s.size) (hq : (s.data.toList.drop k).take 4 = sum4 B.data.toList) (hR : ∀ w, Calls Tryd.prog 54 #[.string s, .int .i64 1024] w fun e w' => e = .returned (.tuple #[.string B, .int .i64 k, .int .i64 0]) ∧ w = w') :
    Calls Tryd.prog 31 #[.string s] w fun e w' => e = .returned (ErrV 7) ∧ Below w.heap.size w w' := by
  have HR := Lib.hid hR; clear hR
  have b0 := s[k].toNat_lt
  have b1 := s[k + 1].toNat_lt
  have b2 := s[k + 2].toNat_lt
  have b3 := s[k + 3].toNat_lt
  have hl := num4_lt s[k] s[k + 1] s[k + 2] s[k + 3]
  have HN := Lib.hid (num4_horner s[k] s[k + 1] s[k + 2] s[k + 3])
  have hd : num4 s[k] s[k + 1] s[k + 2] s[k + 3] = (crcL B.data.toList).toNat := (num4_le4 _ _ _ _ _ (crcL B.data.toList).isLt).1 (by rw [← take4 s k hlen]; exact hq)
  clear hq
  generalize num4 s[k] s[k + 1] s[k + 2] s[k + 3] = N at *
  have HS := Lib.hid fun w => rsum_any B w (by unfold maxLen; omega)
  rw [← hd] at HS
  clear hd
  go_enter Tryd.func31, Tryd.ntmps31
  go_wp2_with (go_at_call 54; refine (HR.out _).mono ?_; rintro e w' ⟨rfl, rfl⟩)
  refine wp_loop_rounds 5 ?_
  iterate 4 (rw [rounds_succ]; go_wp2_with fail)
  rw [HN.out]
  clear HN
  rw [rounds_succ]
  go_wp2_with fail
  refine (HS.out _).mono ?_
  rintro e w' ⟨rfl, rfl⟩
  go_wp2_with fail
  go_returns
  exact ⟨errV_eq rfl 7, by go_grown⟩

set_option maxHeartbeats 2000000 in
set_option maxRecDepth 100000 in
theorem decoded_wrong (s B : ByteArray) (k : Nat) (w : World) (hs : s.size ≤ 1048576) (hlen : k + 4 ≤ s.size) (hB : B.size ≤ 1024) (hq : (s.data.toList.drop k).take 4 ≠ sum4 B.data.toList)
    (hR : ∀ w, Calls Tryd.prog 54 #[.string s, .int .i64 1024] w fun e w' => e = .returned (.tuple #[.string B, .int .i64 k, .int .i64 0]) ∧ w = w') :
    Calls Tryd.prog 31 #[.string s] w fun e w' => e = .returned (ErrV 7) ∧ Below w.heap.size w w' := by
  have HR := Lib.hid hR; clear hR
  have b0 := s[k].toNat_lt
  have b1 := s[k + 1].toNat_lt
  have b2 := s[k + 2].toNat_lt
  have b3 := s[k + 3].toNat_lt
  have hl := num4_lt s[k] s[k + 1] s[k + 2] s[k + 3]
  have HN := Lib.hid (num4_horner s[k] s[k + 1] s[k + 2] s[k + 3])
  have HS := Lib.hid fun w => rsum_any B w (by unfold maxLen; omega)
  have hd : ((num4 s[k] s[k + 1] s[k + 2] s[k + 3] : Int) != ((crcL B.data.toList).toNat : Int)) = true := by
    have : ¬ num4 s[k] s[k + 1] s[k + 2] s[k + 3] = (crcL B.data.toList).toNat := fun h => hq (by rw [take4 s k hlen, (num4_le4 _ _ _ _ _ (crcL B.data.toList).isLt).2 h]; rfl)
    simp; omega
  clear hq
  generalize num4 s[k] s[k + 1] s[k + 2] s[k + 3] = N at *
  generalize (crcL B.data.toList).toNat = c at *
  go_enter Tryd.func31, Tryd.ntmps31
  go_wp2_with (go_at_call 54; refine (HR.out _).mono ?_; rintro e w' ⟨rfl, rfl⟩)
  refine wp_loop_rounds 5 ?_
  iterate 4 (rw [rounds_succ]; go_wp2_with fail)
  rw [HN.out]
  clear HN
  rw [rounds_succ]
  go_wp2_with fail
  refine (HS.out _).mono ?_
  rintro e w' ⟨rfl, rfl⟩
  go_wp2_with fail
  go_returns
  exact ⟨errV_eq rfl 7, by go_grown⟩

theorem knum (S S' : ByteArray) (b b' : Bool) (q : Int) (hS : S.size ≤ maxLen) (h1 : afterN S = S') (hc : (b && (rdN S.data.toList).2.2 == 0) = b') (hq : ((rdN S.data.toList).1 : Int) = q) (hb : b = true) :
    ∃ k e : Nat, (∀ w, Calls Tryd.prog 55 #[.string S] w fun r w' => r = .returned (.tuple #[.int .i64 q, .int .i64 k, .int .i64 e]) ∧ w = w') ∧ S.extract k S.size = S' ∧ ((e : Int) == 0) = b' ∧ k ≤ S.size := by
  refine ⟨(rdN S.data.toList).2.1, (rdN S.data.toList).2.2, fun w => ?_, h1, ?_, ?_⟩
  · rw [← hq]; exact rreadNumber_any S w hS
  · rw [beq0, ← hc, hb, Bool.true_and]
  · have := rdN_le S.data.toList
    have hl : S.data.toList.length = S.size := by simp
    omega

theorem ktext (S S' : ByteArray) (b b' : Bool) (T : ByteArray) (hS : S.size ≤ maxLen) (h1 : afterT S = S') (hc : (b && (rdT S.data.toList 1024).2.2 == 0) = b') (hq : (⟨(rdT S.data.toList 1024).1.toArray⟩ : ByteArray) = T) (hb : b = true) :
    ∃ k e : Nat, (∀ w, Calls Tryd.prog 54 #[.string S, .int .i64 1024] w fun r w' => r = .returned (.tuple #[.string T, .int .i64 k, .int .i64 e]) ∧ w = w') ∧ S.extract k S.size = S' ∧ ((e : Int) == 0) = b' ∧ k ≤ S.size := by
  refine ⟨(rdT S.data.toList 1024).2.1, (rdT S.data.toList 1024).2.2, fun w => ?_, h1, ?_, ?_⟩
  · rw [← hq]; exact rreadText_any S 1024 w hS
  · rw [beq0, ← hc, hb, Bool.true_and]
  · have := rdT_le S.data.toList 1024
    have hl : S.data.toList.length = S.size := by simp
    omega
end Go.Proofs.YtmeaenmialaghaaDoor.Rec
