/- Parts of the proof, joined: What the functions of package pack answer, and those of the document's answer beside them. -/
import Derived.Test.YtbgchhgdlceceaaGreatDoorPlansOwnUptoM26
namespace Go.Proofs.YtbgchhgdlceceaaGreatDoor.Pack
open Go.RowKit


/-! ### Rest -/

/-! ### Sum -/
open Crc

theorem wrap_u32 (a : R) : IntKind.u32.wrap (a.toNat : Int) = (a.toNat : Int) := by
  have h := a.isLt
  simp [IntKind.wrap, IntKind.signed, IntKind.bits]
  omega

theorem ofInt_toNat (a : R) : BitVec.ofInt 32 (a.toNat : Int) = a := by
  simp

theorem bits_xor32 (a b : R) : bits .xor .u32 (a.toNat : Int) (b.toNat : Int) = ((a ^^^ b).toNat : Int) := by
  show IntKind.u32.wrap (((BitVec.ofInt 32 (a.toNat : Int) ^^^ BitVec.ofInt 32 (b.toNat : Int)).toNat : Nat) : Int) = _
  rw [ofInt_toNat, ofInt_toNat]
  exact wrap_u32 _

theorem bits_and32 (a b : R) : bits .and .u32 (a.toNat : Int) (b.toNat : Int) = ((a &&& b).toNat : Int) := by
  show IntKind.u32.wrap (((BitVec.ofInt 32 (a.toNat : Int) &&& BitVec.ofInt 32 (b.toNat : Int)).toNat : Nat) : Int) = _
  rw [ofInt_toNat, ofInt_toNat]
  exact wrap_u32 _

theorem and_one (a : R) : (a &&& 1#32).toNat = a.toNat % 2 := by
  rw [BitVec.toNat_and]
  exact Nat.and_one_is_mod _

theorem lsb_mod (a : R) : a.getLsbD 0 = decide (a.toNat % 2 = 1) := by
  rw [BitVec.getLsbD, Nat.testBit_zero]

theorem bits_and1 (a : R) : (bits .and .u32 (a.toNat : Int) 1 == 1) = a.getLsbD 0 := by
  have h := bits_and32 a 1#32
  rw [and_one] at h
  have h1 : ((1#32 : R).toNat : Int) = 1 := rfl
  rw [h1] at h
  rw [h, lsb_mod, Bool.eq_iff_iff]
  simp
  omega

theorem max_u32 : IntKind.u32.max = ((0xffffffff#32 : R).toNat : Int) := rfl

theorem not_xor (a : R) : 0xffffffff#32 ^^^ a = ~~~ a := by
  rw [BitVec.not_def]; rfl

theorem u8_mod (b : UInt8) : ((b.toNat : Int) % 4294967296) = (((BitVec.ofNat 32 b.toNat) : R).toNat : Int) := by
  have := b.toNat_lt
  rw [BitVec.toNat_ofNat]
  omega

theorem take_snoc (s : ByteArray) (k : Nat) (h : k < s.size) : s.data.toList.take (k + 1) = s.data.toList.take k ++ [s[k]] := by
  rw [List.take_succ_eq_append_getElem (by simpa using h)]; rfl

theorem stps_snoc (j : Nat) (r : R) : stps (j + 1) r = stp (stps j r) := by
  have := stps_add j 1 r
  simpa [stps] using this


theorem half32 (a : R) : (a.toNat : Int) / (2 : Int) = ((a >>> 1).toNat : Int) := by
  rw [BitVec.toNat_ushiftRight, Nat.shiftRight_eq_div_pow]
  omega

theorem sum_any (s : ByteArray) (w : World) (hs : s.size ≤ maxLen) :
    Calls Tryz.prog 181 #[.string s] w fun e w' => e = .returned (.int .u32 ((crcL s.data.toList).toNat)) ∧ w = w' := by
  unfold maxLen at hs
  go_enter Tryz.func181, Tryz.ntmps181
  go_wp2
  go_loop [3, 7] (fun r i => ∃ k : Nat, k ≤ s.size ∧ i = .int .i64 k ∧ r = .int .u32 ((s.data.toList.take k).foldl byteStep 0xffffffff#32).toNat) (fun _ i => s.size - (intOf i).toNat)
  case atStart => exact ⟨0, Nat.zero_le _, rfl, rfl⟩
  case round =>
    obtain ⟨k, hk, rfl, rfl⟩ := hrel
    generalize hX : (s.data.toList.take k).foldl byteStep 0xffffffff#32 = X
    have HX := Lib.hid hX
    clear hX
    by_cases hlt : k < s.size
    · go_wp2
      go_loop [3, 16] (fun r i => ∃ j : Nat, j ≤ 8 ∧ i = .int .i64 j ∧ r = .int .u32 ((stps j (X ^^^ BitVec.ofNat 32 s[k].toNat)).toNat)) (fun _ i => 8 - (intOf i).toNat)
      case atStart => exact ⟨0, by omega, rfl, val_int (by rw [u8_mod, bits_xor32]; rfl)⟩
      case round =>
        obtain ⟨j, hj, rfl, rfl⟩ := hrel
        generalize hY : stps j (X ^^^ BitVec.ofNat 32 s[k].toNat) = Y
        have HY := Lib.hid hY
        clear hY
        by_cases hj8 : j < 8
        · by_cases hb : (bits BinOp.and IntKind.u32 (Y.toNat) 1 == 1) = true
          · go_wp2
            go_round
            case rel => exact ⟨j + 1, by omega, by go_num, val_int (by
              rw [bits_and1] at hb
              rw [stps_snoc, HY.out, half32, show (3988292384 : Int) = ((poly : R).toNat : Int) from rfl, bits_xor32, stp, if_pos hb])⟩
            case measure => simp [intOf]; omega
          · have hb' : (bits BinOp.and IntKind.u32 (Y.toNat) 1 == 1) = false := by simpa using hb
            clear hb
            go_wp2
            go_round
            case rel => exact ⟨j + 1, by omega, by go_num, val_int (by
              rw [bits_and1] at hb'
              rw [stps_snoc, HY.out, half32, stp, if_neg (by rw [hb']; decide)])⟩
            case measure => simp [intOf]; omega
        · obtain rfl : j = 8 := by omega
          go_wp2
          go_round
          case rel => exact ⟨k + 1, by omega, by go_num, val_int (by rw [take_snoc s k hlt, List.foldl_append, HX.out, ← HY.out]; rfl)⟩
          case measure => simp [intOf]; omega
    · go_wp2
      go_ret
      obtain rfl : k = s.size := by omega
      exact ⟨ret_int (by
        rw [max_u32, bits_xor32, not_xor, crcL, ← HX.out, List.take_of_length_le (by simp)]), rfl⟩

/-! ### Number -/

theorem wrap_i64_small (n : Nat) (h : n < 2 ^ 63) : IntKind.i64.wrap (n : Int) = (n : Int) := by
  simp [IntKind.wrap, IntKind.signed, IntKind.bits]
  omega

theorem bits_i64_or (a b : Nat) (ha : a < 2 ^ 63) (hb : b < 2 ^ 63) : bits .or .i64 (a : Int) (b : Int) = ((a ||| b : Nat) : Int) := by
  show IntKind.i64.wrap (((BitVec.ofInt 64 (a : Int) ||| BitVec.ofInt 64 (b : Int)).toNat : Nat) : Int) = _
  rw [BitVec.ofInt_natCast, BitVec.ofInt_natCast, BitVec.toNat_or, BitVec.toNat_ofNat, BitVec.toNat_ofNat, Nat.mod_eq_of_lt (by omega), Nat.mod_eq_of_lt (by omega)]
  exact wrap_i64_small _ (Nat.or_lt_two_pow ha hb)

theorem and_127 (m : Nat) : m &&& 127 = m % 128 := Nat.and_two_pow_sub_one_eq_mod m 7

/-! ### Text -/

/-! ### ReadNumber -/

theorem or_low (a b k : Nat) (ha : a < 2 ^ k) : a ||| (b * 2 ^ k) = a + b * 2 ^ k := by
  have := Nat.two_pow_add_eq_or_of_lt (i := k) ha b
  rw [Nat.or_comm, Nat.mul_comm]
  omega

theorem pow_7 (k : Nat) : 128 ^ k = 2 ^ (7 * k) := by
  rw [Nat.pow_mul]

theorem bits_u8_127 (b : UInt8) : bits .and .u8 (b.toNat : Int) 127 = ((b.toNat % 128 : Nat) : Int) := by
  have h := b.toNat_lt
  show IntKind.u8.wrap (((BitVec.ofInt 8 (b.toNat : Int) &&& BitVec.ofInt 8 127).toNat : Nat) : Int) = _
  rw [BitVec.ofInt_natCast, BitVec.toNat_and, BitVec.toNat_ofNat, Nat.mod_eq_of_lt (by omega)]
  have e : (BitVec.ofInt 8 127).toNat = 127 := rfl
  rw [e, and_127]
  simp [IntKind.wrap, IntKind.signed, IntKind.bits]
  omega

theorem wrap64_small (n : Nat) (h : n < 2 ^ 63) : wrap64 (n : Int) = (n : Int) := by
  unfold wrap64; omega

/-- One round of reading: 'n |= int(b&127) << (7*i)'. -/
theorem read_step (acc k : Nat) (b : UInt8) (ha : acc < 128 ^ k) (hk : k ≤ 8) :
    bits .or .i64 (acc : Int) (wrap64 (wrap64 (bits .and .u8 (b.toNat : Int) 127) * 2 ^ (7 * k))) = ((acc + b.toNat % 128 * 128 ^ k : Nat) : Int) := by
  have hp : 128 ^ k ≤ 128 ^ 8 := Nat.pow_le_pow_right (by decide) hk
  have h0 : b.toNat % 128 * 128 ^ k ≤ 127 * 128 ^ k := Nat.mul_le_mul_right _ (by omega)
  rw [bits_u8_127, wrap64_small _ (by omega)]
  have e : (((b.toNat % 128 : Nat) : Int) * 2 ^ (7 * k)) = ((b.toNat % 128 * 128 ^ k : Nat) : Int) := by
    rw [pow_7]; simp
  rw [e, wrap64_small _ (by omega), bits_i64_or _ _ (by omega) (by omega), pow_7, or_low _ _ _ (by rw [← pow_7]; exact ha)]

theorem rdL_step (s : ByteArray) (k acc : Nat) (h : k < s.size) :
    rdL k acc (s.data.toList.drop k) =
      if (128 ≤ s[k].toNat ∧ k = 8) ∨ (s[k].toNat = 0 ∧ 0 < k) then (0, 0, 7)
      else if s[k].toNat < 128 then (acc + s[k].toNat * 128 ^ k, k + 1, 0)
      else rdL (k + 1) (acc + (s[k].toNat - 128) * 128 ^ k) (s.data.toList.drop (k + 1)) := by
  have e : s.data.toList.drop k = s[k] :: s.data.toList.drop (k + 1) := by
    rw [List.drop_eq_getElem_cons (by simpa using h)]
    rfl
  rw [e, rdL]

/-- What a call that reads answers. -/
def rdV (x : Nat × Nat × Nat) : Value := .tuple #[.int .i64 x.1, .int .i64 x.2.1, .int .i64 x.2.2]

set_option maxRecDepth 100000 in
theorem readNumber_any (s : ByteArray) (w : World) (hs : s.size ≤ maxLen) :
    Calls Tryz.prog 248 #[.string s] w fun e w' => e = .returned (rdV (rdN s.data.toList)) ∧ w = w' := by
  unfold maxLen at hs
  go_enter Tryz.func248, Tryz.ntmps248
  go_wp2
  go_loop [5, 10] (fun n i => ∃ (k acc : Nat), k ≤ s.size ∧ k ≤ 8 ∧ acc < 128 ^ k ∧ Hid (rdN s.data.toList = rdL k acc (s.data.toList.drop k)) ∧ n = .int .i64 acc ∧ i = .int .i64 k) (fun _ i => s.size - (intOf i).toNat)
  case atStart => exact ⟨0, 0, Nat.zero_le _, by omega, by decide, rfl, rfl, rfl⟩
  case round =>
    obtain ⟨k, acc, hk, hk8, ha, H, rfl, rfl⟩ := hrel
    have HA := Lib.hid ha; clear ha
    by_cases hlt : k < s.size
    · have hb := s[k].toNat_lt
      have H1 := Lib.hid (rdL_step s k acc hlt)
      by_cases c1 : 128 ≤ s[k].toNat
      · by_cases c2 : k = 8
        · have e2 : rdN s.data.toList = (0, 0, 7) := by rw [H.out, H1.out, if_pos (.inl ⟨c1, c2⟩)]
          have E2 := Lib.hid e2; clear e2 H H1
          subst c2
          go_wp2
          go_ret3
          exact ⟨by rw [E2.out]; rfl, rfl⟩
        · go_wp2
          go_round
          case rel =>
            have ha := HA.out
            refine ⟨k + 1, acc + (s[k].toNat - 128) * 128 ^ k, by omega, by omega, ?_, ?_, val_int ?_, by go_num⟩
            · rw [Nat.pow_succ]
              have : (s[k].toNat - 128) * 128 ^ k ≤ 127 * 128 ^ k := Nat.mul_le_mul_right _ (by omega)
              omega
            · show _ = _
              rw [H.out, H1.out, if_neg (by omega), if_neg (by omega)]
            · rw [read_step acc k s[k] ha hk8, show s[k].toNat % 128 = s[k].toNat - 128 by omega]
          case measure => simp [intOf]; omega
      · by_cases c3 : s[k].toNat = 0
        · have c4 : ((s[k].toNat : Int) == 0) = true := by simp [c3]
          have C3 := Lib.hid c3; clear c3
          by_cases c5 : 0 < k
          · have e2 : rdN s.data.toList = (0, 0, 7) := by rw [H.out, H1.out, if_pos (.inr ⟨C3.out, c5⟩)]
            have E2 := Lib.hid e2; clear e2 H H1
            go_wp2
            go_ret3
            exact ⟨by rw [E2.out]; rfl, rfl⟩
          · obtain rfl : k = 0 := by omega
            have e2 : rdN s.data.toList = (acc + s[0].toNat * 128 ^ 0, 0 + 1, 0) := by
              rw [H.out, H1.out, if_neg (by omega), if_pos (by omega)]
            have e := read_step acc 0 s[0] HA.out hk8
            rw [show s[0].toNat % 128 = s[0].toNat by omega] at e
            have E2 := Lib.hid e2; clear e2 H H1
            simp only [Nat.mul_zero, Int.pow_zero, Int.mul_one] at e
            have EE := Lib.hid e; clear e
            go_wp2
            go_ret3
            have e := EE.out
            refine ⟨?_, rfl⟩
            rw [E2.out]
            show Ending.returned (.tuple #[_, _, _]) = Ending.returned (.tuple #[_, _, _])
            dsimp only
            rw [← e]
            rfl
        · have hz : ((s[k].toNat : Int) == 0) = false := by simp; omega
          go_wp2
          go_ret3
          have ha := HA.out
          have e := read_step acc k s[k] ha hk8
          rw [show s[k].toNat % 128 = s[k].toNat by omega] at e
          have e2 : rdN s.data.toList = (acc + s[k].toNat * 128 ^ k, k + 1, 0) := by
            rw [H.out, H1.out, if_neg (by omega), if_pos (by omega)]
          refine ⟨?_, rfl⟩
          rw [e2]
          show Ending.returned (.tuple #[_, _, _]) = Ending.returned (.tuple #[_, _, _])
          dsimp only
          rw [← e]
          rfl
    · go_wp2
      go_ret3
      obtain rfl : k = s.size := by omega
      have e2 : rdN s.data.toList = (0, 0, 6) := by
        rw [H.out, List.drop_of_length_le (by simp)]
        rfl
      exact ⟨by rw [e2]; rfl, rfl⟩

/-! ### ReadText -/

theorem extract_list (s : ByteArray) (k n : Nat) : s.extract k (k + n) = ⟨((s.data.toList.drop k).take n).toArray⟩ := by
  apply ByteArray.ext
  have h := Lib.extract_data s k (k + n)
  apply Array.toList_inj.1
  rw [h]
  simp

/-- What a call that reads a text answers. -/
def rtV (x : List UInt8 × Nat × Nat) : Value := .tuple #[.string ⟨x.1.toArray⟩, .int .i64 x.2.1, .int .i64 x.2.2]

set_option maxRecDepth 100000 in
theorem readText_any (s : ByteArray) (most : Int) (w : World) (hs : s.size ≤ maxLen) :
    Calls Tryz.prog 215 #[.string s, .int .i64 most] w fun e w' => e = .returned (rtV (rdT s.data.toList most)) ∧ w = w' := by
  have hs' := hs
  unfold maxLen at hs
  have hc := readNumber_any s w hs'
  rcases rdN_cases s.data.toList with ⟨n, k, h, h1, h2, h3, h4, _⟩ | h | h
  · have h3 : k ≤ s.size := by simpa using h3
    have h1' : (n : Int) ≤ 9223372036854775807 := by omega
    rw [h] at hc
    unfold rdV at hc
    by_cases c1 : most < (n : Int)
    · have e2 : rdT s.data.toList most = ([], 0, 7) := by unfold rdT; rw [h]; simp [c1]
      have E2 := Lib.hid e2; clear e2 h h1
      have HC := Lib.hid hc; clear hc
      go_enter Tryz.func215, Tryz.ntmps215
      go_wp2_with fail
      refine HC.out.mono ?_
      rintro e w' ⟨rfl, rfl⟩
      go_wp2
      go_ret3
      exact ⟨by rw [E2.out]; rfl, rfl⟩
    · by_cases c2 : s.size - k < n
      · have e2 : rdT s.data.toList most = ([], 0, 6) := by unfold rdT; rw [h]; simp [c1]; omega
        have E2 := Lib.hid e2; clear e2 h h1
        have HC := Lib.hid hc; clear hc
        go_enter Tryz.func215, Tryz.ntmps215
        go_wp2_with fail
        refine HC.out.mono ?_
        rintro e w' ⟨rfl, rfl⟩
        go_wp2
        go_ret3
        exact ⟨by rw [E2.out]; rfl, rfl⟩
      · have e2 : rdT s.data.toList most = ((s.data.toList.drop k).take n, k + n, 0) := by unfold rdT; rw [h]; simp [c1]; omega
        have E2 := Lib.hid e2; clear e2 h h1
        have HC := Lib.hid hc; clear hc
        go_enter Tryz.func215, Tryz.ntmps215
        go_wp2_with fail
        refine HC.out.mono ?_
        rintro e w' ⟨rfl, rfl⟩
        go_wp2
        go_ret3
        refine ⟨?_, rfl⟩
        rw [E2.out]
        show Ending.returned (.tuple #[.string (s.extract k (k + n)), .int .i64 ((k : Int) + (n : Int)), .int .i64 0]) = _
        rw [extract_list]
        rfl
  · have e2 : rdT s.data.toList most = ([], 0, 6) := by unfold rdT; rw [h]; simp
    rw [h] at hc
    unfold rdV at hc
    have E2 := Lib.hid e2; clear e2 h
    have HC := Lib.hid hc; clear hc
    go_enter Tryz.func215, Tryz.ntmps215
    go_wp2_with fail
    refine HC.out.mono ?_
    rintro e w' ⟨rfl, rfl⟩
    go_wp2
    go_ret3
    exact ⟨by rw [E2.out]; rfl, rfl⟩
  · have e2 : rdT s.data.toList most = ([], 0, 7) := by unfold rdT; rw [h]; simp
    rw [h] at hc
    unfold rdV at hc
    have E2 := Lib.hid e2; clear e2 h
    have HC := Lib.hid hc; clear hc
    go_enter Tryz.func215, Tryz.ntmps215
    go_wp2_with fail
    refine HC.out.mono ?_
    rintro e w' ⟨rfl, rfl⟩
    go_wp2
    go_ret3
    exact ⟨by rw [E2.out]; rfl, rfl⟩
end Go.Proofs.YtbgchhgdlceceaaGreatDoor.Pack
