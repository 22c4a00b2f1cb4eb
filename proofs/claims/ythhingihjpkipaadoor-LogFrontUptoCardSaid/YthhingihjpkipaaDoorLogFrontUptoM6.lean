/- Parts of the proof, joined: What the functions of package pack answer, and those of the document's answer beside them.; What the document's answers for package pack give: the same functions of lists of bytes.; Package subject, walked: both, Overlap, Covers.; 'is' and 'known', walked; and the laws of filters that hold of the Lean functions.; 'is' and 'known', walked; and the laws of filters that hold of the Lean functions. -/
import Derived.Test.YthhingihjpkipaaDoorLogFrontUptoM5
import Derived.Deep.RegionHeld3
import Derived.Deep.QuietTactic
import Derived.BigQuiet
namespace Go.Proofs.YthhingihjpkipaaDoor.Pack
open Go.RowKit


/-! ### Rest -/
/-! ### Sum -/
open Crc

theorem wrap_u32 (a : R) : IntKind.u32.wrap (a.toNat : Int) = (a.toNat : Int) := by
  have h := a.isLt
  simp [IntKind.wrap, IntKind.signed, IntKind.bits]
  omega

theorem ofInt_toNat (a : R) : BitVec.ofInt 32 (a.toNat : Int) = a := by
  simp

theorem bits_xor32 (a b : R) : bits .xor .u32 (a.toNat : Int) (b.toNat : Int) = ((a ^^^ b).toNat : Int) := by
  show IntKind.u32.wrap (((BitVec.ofInt 32 (a.toNat : Int) ^^^ BitVec.ofInt 32 (b.toNat : Int)).toNat : Nat) : Int) = _
  rw [ofInt_toNat, ofInt_toNat]
  exact wrap_u32 _

theorem bits_and32 (a b : R) : bits .and .u32 (a.toNat : Int) (b.toNat : Int) = ((a &&& b).toNat : Int) := by
  show IntKind.u32.wrap (((BitVec.ofInt 32 (a.toNat : Int) &&& BitVec.ofInt 32 (b.toNat : Int)).toNat : Nat) : Int) = _
  rw [ofInt_toNat, ofInt_toNat]
  exact wrap_u32 _

theorem and_one (a : R) : (a &&& 1#32).toNat = a.toNat % 2 := by
  rw [BitVec.toNat_and]
  exact Nat.and_one_is_mod _

theorem lsb_mod (a : R) : a.getLsbD 0 = decide (a.toNat % 2 = 1) := by
  rw [BitVec.getLsbD, Nat.testBit_zero]

theorem bits_and1 (a : R) : (bits .and .u32 (a.toNat : Int) 1 == 1) = a.getLsbD 0 := by
  have h := bits_and32 a 1#32
  rw [and_one] at h
  have h1 : ((1#32 : R).toNat : Int) = 1 := rfl
  rw [h1] at h
  rw [h, lsb_mod, Bool.eq_iff_iff]
  simp
  omega

theorem max_u32 : IntKind.u32.max = ((0xffffffff#32 : R).toNat : Int) := rfl

theorem not_xor (a : R) : 0xffffffff#32 ^^^ a = ~~~ a := by
  rw [BitVec.not_def]; rfl

theorem u8_mod (b : UInt8) : ((b.toNat : Int) % 4294967296) = (((BitVec.ofNat 32 b.toNat) : R).toNat : Int) := by
  have := b.toNat_lt
  rw [BitVec.toNat_ofNat]
  omega

theorem take_snoc (s : ByteArray) (k : Nat) (h : k < s.size) : s.data.toList.take (k + 1) = s.data.toList.take k ++ [s[k]] := by
  rw [List.take_succ_eq_append_getElem (by simpa using h)]; rfl

theorem stps_snoc (j : Nat) (r : R) : stps (j + 1) r = stp (stps j r) := by
  have := stps_add j 1 r
  simpa [stps] using this


theorem half32 (a : R) : (a.toNat : Int) / (2 : Int) = ((a >>> 1).toNat : Int) := by
  rw [BitVec.toNat_ushiftRight, Nat.shiftRight_eq_div_pow]
  omega

theorem sum_any (s : ByteArray) (w : World) (hs : s.size ≤ maxLen) :
    Calls Tryd.prog 106 #[.string s] w fun e w' => e = .returned (.int .u32 ((crcL s.data.toList).toNat)) ∧ w = w' := by
  unfold maxLen at hs
  go_enter Tryd.func106, Tryd.ntmps106
  go_wp2
  go_loop [3, 7] (fun r i => ∃ k : Nat, k ≤ s.size ∧ i = .int .i64 k ∧ r = .int .u32 ((s.data.toList.take k).foldl byteStep 0xffffffff#32).toNat) (fun _ i => s.size - (intOf i).toNat)
  case atStart => exact ⟨0, Nat.zero_le _, rfl, rfl⟩
  case round =>
    obtain ⟨k, hk, rfl, rfl⟩ := hrel
    generalize hX : (s.data.toList.take k).foldl byteStep 0xffffffff#32 = X
    have HX := Lib.hid hX
    clear hX
    by_cases hlt : k < s.size
    · go_wp2
      go_loop [3, 16] (fun r i => ∃ j : Nat, j ≤ 8 ∧ i = .int .i64 j ∧ r = .int .u32 ((stps j (X ^^^ BitVec.ofNat 32 s[k].toNat)).toNat)) (fun _ i => 8 - (intOf i).toNat)
      case atStart => exact ⟨0, by omega, rfl, val_int (by rw [u8_mod, bits_xor32]; rfl)⟩
      case round =>
        obtain ⟨j, hj, rfl, rfl⟩ := hrel
        generalize hY : stps j (X ^^^ BitVec.ofNat 32 s[k].toNat) = Y
        have HY := Lib.hid hY
        clear hY
        by_cases hj8 : j < 8
        · by_cases hb : (bits BinOp.and IntKind.u32 (Y.toNat) 1 == 1) = true
          · go_wp2
            go_round
            case rel => exact ⟨j + 1, by omega, by go_num, val_int (by
              rw [bits_and1] at hb
              rw [stps_snoc, HY.out, half32, show (3988292384 : Int) = ((poly : R).toNat : Int) from rfl, bits_xor32, stp, if_pos hb])⟩
            case measure => simp [intOf]; omega
          · have hb' : (bits BinOp.and IntKind.u32 (Y.toNat) 1 == 1) = false := by simpa using hb
            clear hb
            go_wp2
            go_round
            case rel => exact ⟨j + 1, by omega, by go_num, val_int (by
              rw [bits_and1] at hb'
              rw [stps_snoc, HY.out, half32, stp, if_neg (by rw [hb']; decide)])⟩
            case measure => simp [intOf]; omega
        · obtain rfl : j = 8 := by omega
          go_wp2
          go_round
          case rel => exact ⟨k + 1, by omega, by go_num, val_int (by rw [take_snoc s k hlt, List.foldl_append, HX.out, ← HY.out]; rfl)⟩
          case measure => simp [intOf]; omega
    · go_wp2
      go_ret
      obtain rfl : k = s.size := by omega
      exact ⟨ret_int (by
        rw [max_u32, bits_xor32, not_xor, crcL, ← HX.out, List.take_of_length_le (by simp)]), rfl⟩

/-! ### Number -/

theorem info_u8 : (Tryd.prog.info? 5).map (fun i => (i.zero, i.size, i.bytes)) = some (some (.int .u8 0), 1, 1) := by kernel_rfl

theorem wrap_i64_small (n : Nat) (h : n < 2 ^ 63) : IntKind.i64.wrap (n : Int) = (n : Int) := by
  simp [IntKind.wrap, IntKind.signed, IntKind.bits]
  omega

theorem bits_i64_and (a b : Nat) (ha : a < 2 ^ 63) : bits .and .i64 (a : Int) (b : Int) = ((a &&& b : Nat) : Int) := by
  show IntKind.i64.wrap (((BitVec.ofInt 64 (a : Int) &&& BitVec.ofInt 64 (b : Int)).toNat : Nat) : Int) = _
  rw [BitVec.ofInt_natCast, BitVec.ofInt_natCast, BitVec.toNat_and, BitVec.toNat_ofNat, BitVec.toNat_ofNat, Nat.mod_eq_of_lt (by omega)]
  have h2 : a &&& b % 2 ^ 64 = a &&& b := by
    apply Nat.eq_of_testBit_eq
    intro i
    rw [Nat.testBit_and, Nat.testBit_and, Nat.testBit_mod_two_pow]
    by_cases hi : i < 64
    · simp [hi]
    · have : a.testBit i = false := Nat.testBit_lt_two_pow (Nat.lt_of_lt_of_le ha (Nat.pow_le_pow_right (by decide) (by omega)))
      simp [this]
  rw [h2]
  exact wrap_i64_small _ (Nat.lt_of_le_of_lt Nat.and_le_left ha)

theorem bits_i64_or (a b : Nat) (ha : a < 2 ^ 63) (hb : b < 2 ^ 63) : bits .or .i64 (a : Int) (b : Int) = ((a ||| b : Nat) : Int) := by
  show IntKind.i64.wrap (((BitVec.ofInt 64 (a : Int) ||| BitVec.ofInt 64 (b : Int)).toNat : Nat) : Int) = _
  rw [BitVec.ofInt_natCast, BitVec.ofInt_natCast, BitVec.toNat_or, BitVec.toNat_ofNat, BitVec.toNat_ofNat, Nat.mod_eq_of_lt (by omega), Nat.mod_eq_of_lt (by omega)]
  exact wrap_i64_small _ (Nat.or_lt_two_pow ha hb)

theorem and_127 (m : Nat) : m &&& 127 = m % 128 := Nat.and_two_pow_sub_one_eq_mod m 7

theorem or_128 (m : Nat) (h : m < 128) : m ||| 128 = 128 + m := by
  have := Nat.two_pow_add_eq_or_of_lt (i := 7) h 1
  have h1 : 2 ^ 7 * 1 + m = 128 ||| m := this
  rw [Nat.or_comm]
  omega

/-- The byte that is written: 'n&127|128'. -/
theorem byte_of (m : Nat) (h : m < 2 ^ 63) : (bits BinOp.or IntKind.i64 (bits BinOp.and IntKind.i64 (m : Int) 127) 128 % 256) = (((UInt8.ofNat (128 + m % 128)).toNat : Nat) : Int) := by
  have h1 := bits_i64_and m 127 h
  rw [and_127] at h1
  have h2 := bits_i64_or (m % 128) 128 (by omega) (by omega)
  rw [or_128 _ (by omega)] at h2
  rw [show ((127 : Nat) : Int) = 127 from rfl] at h1
  rw [show ((128 : Nat) : Int) = 128 from rfl] at h2
  rw [h1, h2, ofNat_toNat_lt _ (by omega)]
  omega

set_option maxRecDepth 100000 in
theorem number_any (n : Int) (w : World) (hn : n ≤ 9223372036854775807) :
    Calls Tryd.prog 104 #[.int .i64 n] w fun e w' => e = .returned (.string ⟨(numL n.toNat).toArray⟩) ∧ Below w.heap.size w w' := by
  obtain ⟨i0, hi, hz0, hz1, hz2⟩ := info_parts info_u8
  go_enter Tryd.func104, Tryd.ntmps104
  by_cases hn0 : n < 0
  all_goals
    go_wp2
    go_loopw [0, 3] (fun n' v wr => ∃ (f m : Nat) (xs : List UInt8), f + xs.length = 9 ∧ 0 < f ∧ m < 128 ^ f ∧ Hid (numL n.toNat = xs ++ numF f m) ∧ n' = .int .i64 m ∧ wr.ownsRow w.heap.size 5 1 v xs.length (bytesV xs) ∧ Below w.heap.size w wr) (fun n _ _ => (intOf n).toNat)
    case atStart =>
      refine ⟨9, n.toNat, [], rfl, by omega, by omega, rfl, val_int (by omega), World.ownsRow_nil _ _ _ _, Below.refl _ _⟩
    case round =>
      obtain ⟨f, m, xs, hf, hf0, hmf, H, rfl, hown, hb⟩ := hrel
      have hm : m < 2 ^ 63 := by
        have h1 : 128 ^ f ≤ 128 ^ 9 := Nat.pow_le_pow_right (by decide) (by omega)
        omega
      have hm63 : (m : Int) ≤ 9223372036854775807 := by omega
      have HM := Lib.hid hm; clear hm
      have hl : xs.length ≤ 9 := by omega
      have HF := Lib.hid hf; clear hf
      have HMF := Lib.hid hmf; clear hmf
      have hbs := hb.size
      by_cases h : 128 ≤ m
      · go_wp2_with (at_builtin; refine wpList_append_own _ rfl (.tmp 8) (.tmp 13) 175 rfl (w.heap.size) 5 i0 (.int .u8 0) 1 1 Tryd.underlying175 hi hz0 hz1 hz2 rfl (by decide) _ _ _ rfl (hown.alloc _) ⟨wr.heap.size, 0, none⟩ 1 1 [.int .u8 (bits BinOp.or IntKind.i64 (bits BinOp.and IntKind.i64 (↑m) 127) 128 % 256)] rfl rfl (cell_one_new _ _ _) (by simp [Value.oneCell']) (by unfold maxLen; omega) (by omega) (by simp; omega) ?_)
        intro v' w1 hown1 hgrow hne
        go_wp2
        refine ⟨⟨f - 1, m / 128, xs ++ [UInt8.ofNat (128 + m % 128)], ?_, ?_, ?_, ?_, by go_num, ?_, ?_⟩, by simp [intOf]; omega⟩
        · have := HF.out; have := HMF.out; have : f ≠ 0 := by omega
          simp; omega
        · have := HMF.out
          by_cases f1 : f = 1
          · subst f1; simp at this; omega
          · omega
        · have := HMF.out
          obtain ⟨f, rfl⟩ : ∃ g, f = g + 1 := ⟨f - 1, by omega⟩
          rw [Nat.pow_succ] at this
          simp only [Nat.add_sub_cancel]
          omega
        · obtain ⟨f, rfl⟩ : ∃ g, f = g + 1 := ⟨f - 1, by omega⟩
          show _ = _
          rw [H.out, numF, if_neg (by omega)]
          simp
        · rw [byte_of m HM.out] at hown1
          simpa [bytesV] using hown1
        · exact (hb.alloc hbs _).grown hgrow (by simp; omega) (fun k hk => (hown.lt k hk).1)
      · go_wp2_with (at_builtin; refine wpList_append_own _ rfl (.tmp 17) (.tmp 20) 175 rfl (w.heap.size) 5 i0 (.int .u8 0) 1 1 Tryd.underlying175 hi hz0 hz1 hz2 rfl (by decide) _ _ _ rfl (hown.alloc _) ⟨wr.heap.size, 0, none⟩ 1 1 [.int .u8 ↑m] rfl rfl (cell_one_new _ _ _) (by simp [Value.oneCell']) (by unfold maxLen; omega) (by omega) (by simp; omega) ?_)
        intro v' w1 hown1 hgrow hne
        have hown2 : w1.ownsRow w.heap.size 5 1 v' (xs.length + 1) (bytesV (xs ++ [UInt8.ofNat m])) := by
          rw [bytesV_append]
          show w1.ownsRow w.heap.size 5 1 v' (xs.length + 1) (bytesV xs ++ [.int .u8 ((UInt8.ofNat m).toNat : Nat)])
          rw [ofNat_toNat_lt _ (by omega)]
          exact hown1
        have hconv := run_string_own (P := Tryd.prog) 175 9 Tryd.underlying175 Tryd.underlying5 Tryd.underlying9 hown2
        clear hown1
        go_wp2
        go_ret
        refine ⟨ret_str ?_, (hb.alloc hbs _).grown hgrow (by simp; omega) (fun k hk => (hown.lt k hk).1)⟩
        obtain ⟨f, rfl⟩ : ∃ g, f = g + 1 := ⟨f - 1, by omega⟩
        rw [H.out, numF, if_pos (by omega)]

/-! ### Text -/

theorem list_of (s : ByteArray) : s = ⟨s.data.toList.toArray⟩ := by
  apply ByteArray.ext; simp

theorem str_append (a : List UInt8) (s : ByteArray) : (⟨a.toArray⟩ ++ s : ByteArray) = ⟨(a ++ s.data.toList).toArray⟩ := by
  apply ByteArray.ext; simp

theorem text_any (s : ByteArray) (w : World) (hs : s.size ≤ 9223372036854775000) :
    Calls Tryd.prog 105 #[.string s] w fun e w' => e = .returned (.string ⟨(textL s.data.toList).toArray⟩) ∧ Below w.heap.size w w' := by
  have hl := numL_len s.size
  have hl' : (⟨(numL s.size).toArray⟩ : ByteArray).size ≤ 9 := by
    show (numL s.size).toArray.size ≤ 9
    simpa using hl
  go_enter Tryd.func105, Tryd.ntmps105
  go_wp2_with fail
  refine (number_any _ _ (by omega)).mono ?_
  rintro e w' ⟨rfl, hb⟩
  rw [Int.toNat_natCast]
  generalize hS : (⟨(numL s.size).toArray⟩ : ByteArray) = S at *
  have HS := Lib.hid hS; clear hS
  go_wp2
  go_ret
  refine ⟨ret_str ?_, hb⟩
  rw [← HS.out, str_append]
  rfl

/-! ### ReadNumber -/

theorem or_low (a b k : Nat) (ha : a < 2 ^ k) : a ||| (b * 2 ^ k) = a + b * 2 ^ k := by
  have := Nat.two_pow_add_eq_or_of_lt (i := k) ha b
  rw [Nat.or_comm, Nat.mul_comm]
  omega

theorem pow_7 (k : Nat) : 128 ^ k = 2 ^ (7 * k) := by
  rw [Nat.pow_mul]

theorem bits_u8_127 (b : UInt8) : bits .and .u8 (b.toNat : Int) 127 = ((b.toNat % 128 : Nat) : Int) := by
  have h := b.toNat_lt
  show IntKind.u8.wrap (((BitVec.ofInt 8 (b.toNat : Int) &&& BitVec.ofInt 8 127).toNat : Nat) : Int) = _
  rw [BitVec.ofInt_natCast, BitVec.toNat_and, BitVec.toNat_ofNat, Nat.mod_eq_of_lt (by omega)]
  have e : (BitVec.ofInt 8 127).toNat = 127 := rfl
  rw [e, and_127]
  simp [IntKind.wrap, IntKind.signed, IntKind.bits]
  omega

theorem wrap64_small (n : Nat) (h : n < 2 ^ 63) : wrap64 (n : Int) = (n : Int) := by
  unfold wrap64; omega

/-- One round of reading: 'n |= int(b&127) << (7*i)'. -/
theorem read_step (acc k : Nat) (b : UInt8) (ha : acc < 128 ^ k) (hk : k ≤ 8) :
    bits .or .i64 (acc : Int) (wrap64 (wrap64 (bits .and .u8 (b.toNat : Int) 127) * 2 ^ (7 * k))) = ((acc + b.toNat % 128 * 128 ^ k : Nat) : Int) := by
  have hp : 128 ^ k ≤ 128 ^ 8 := Nat.pow_le_pow_right (by decide) hk
  have h0 : b.toNat % 128 * 128 ^ k ≤ 127 * 128 ^ k := Nat.mul_le_mul_right _ (by omega)
  rw [bits_u8_127, wrap64_small _ (by omega)]
  have e : (((b.toNat % 128 : Nat) : Int) * 2 ^ (7 * k)) = ((b.toNat % 128 * 128 ^ k : Nat) : Int) := by
    rw [pow_7]; simp
  rw [e, wrap64_small _ (by omega), bits_i64_or _ _ (by omega) (by omega), pow_7, or_low _ _ _ (by rw [← pow_7]; exact ha)]

theorem rdL_step (s : ByteArray) (k acc : Nat) (h : k < s.size) :
    rdL k acc (s.data.toList.drop k) =
      if (128 ≤ s[k].toNat ∧ k = 8) ∨ (s[k].toNat = 0 ∧ 0 < k) then (0, 0, 7)
      else if s[k].toNat < 128 then (acc + s[k].toNat * 128 ^ k, k + 1, 0)
      else rdL (k + 1) (acc + (s[k].toNat - 128) * 128 ^ k) (s.data.toList.drop (k + 1)) := by
  have e : s.data.toList.drop k = s[k] :: s.data.toList.drop (k + 1) := by
    rw [List.drop_eq_getElem_cons (by simpa using h)]
    rfl
  rw [e, rdL]

/-- What a call that reads answers. -/
def rdV (x : Nat × Nat × Nat) : Value := .tuple #[.int .i64 x.1, .int .i64 x.2.1, .int .i64 x.2.2]

theorem ret_rdV {x y : Nat × Nat × Nat} (h : x = y) : Ending.returned (rdV x) = .returned (rdV y) := by rw [h]

set_option maxRecDepth 100000 in
theorem readNumber_any (s : ByteArray) (w : World) (hs : s.size ≤ maxLen) :
    Calls Tryd.prog 148 #[.string s] w fun e w' => e = .returned (rdV (rdN s.data.toList)) ∧ w = w' := by
  unfold maxLen at hs
  go_enter Tryd.func148, Tryd.ntmps148
  go_wp2
  go_loop [5, 10] (fun n i => ∃ (k acc : Nat), k ≤ s.size ∧ k ≤ 8 ∧ acc < 128 ^ k ∧ Hid (rdN s.data.toList = rdL k acc (s.data.toList.drop k)) ∧ n = .int .i64 acc ∧ i = .int .i64 k) (fun _ i => s.size - (intOf i).toNat)
  case atStart => exact ⟨0, 0, Nat.zero_le _, by omega, by decide, rfl, rfl, rfl⟩
  case round =>
    obtain ⟨k, acc, hk, hk8, ha, H, rfl, rfl⟩ := hrel
    have HA := Lib.hid ha; clear ha
    by_cases hlt : k < s.size
    · have hb := s[k].toNat_lt
      have H1 := Lib.hid (rdL_step s k acc hlt)
      by_cases c1 : 128 ≤ s[k].toNat
      · by_cases c2 : k = 8
        · have e2 : rdN s.data.toList = (0, 0, 7) := by rw [H.out, H1.out, if_pos (.inl ⟨c1, c2⟩)]
          have E2 := Lib.hid e2; clear e2 H H1
          subst c2
          go_wp2
          go_ret3
          exact ⟨by rw [E2.out]; rfl, rfl⟩
        · go_wp2
          go_round
          case rel =>
            have ha := HA.out
            refine ⟨k + 1, acc + (s[k].toNat - 128) * 128 ^ k, by omega, by omega, ?_, ?_, val_int ?_, by go_num⟩
            · rw [Nat.pow_succ]
              have : (s[k].toNat - 128) * 128 ^ k ≤ 127 * 128 ^ k := Nat.mul_le_mul_right _ (by omega)
              omega
            · show _ = _
              rw [H.out, H1.out, if_neg (by omega), if_neg (by omega)]
            · rw [read_step acc k s[k] ha hk8, show s[k].toNat % 128 = s[k].toNat - 128 by omega]
          case measure => simp [intOf]; omega
      · by_cases c3 : s[k].toNat = 0
        · have c4 : ((s[k].toNat : Int) == 0) = true := by simp [c3]
          have C3 := Lib.hid c3; clear c3
          by_cases c5 : 0 < k
          · have e2 : rdN s.data.toList = (0, 0, 7) := by rw [H.out, H1.out, if_pos (.inr ⟨C3.out, c5⟩)]
            have E2 := Lib.hid e2; clear e2 H H1
            go_wp2
            go_ret3
            exact ⟨by rw [E2.out]; rfl, rfl⟩
          · obtain rfl : k = 0 := by omega
            have e2 : rdN s.data.toList = (acc + s[0].toNat * 128 ^ 0, 0 + 1, 0) := by
              rw [H.out, H1.out, if_neg (by omega), if_pos (by omega)]
            have e := read_step acc 0 s[0] HA.out hk8
            rw [show s[0].toNat % 128 = s[0].toNat by omega] at e
            have E2 := Lib.hid e2; clear e2 H H1
            simp only [Nat.mul_zero, Int.pow_zero, Int.mul_one] at e
            have EE := Lib.hid e; clear e
            go_wp2
            go_ret3
            have e := EE.out
            refine ⟨?_, rfl⟩
            rw [E2.out]
            show Ending.returned (.tuple #[_, _, _]) = Ending.returned (.tuple #[_, _, _])
            dsimp only
            rw [← e]
            rfl
        · have hz : ((s[k].toNat : Int) == 0) = false := by simp; omega
          go_wp2
          go_ret3
          have ha := HA.out
          have e := read_step acc k s[k] ha hk8
          rw [show s[k].toNat % 128 = s[k].toNat by omega] at e
          have e2 : rdN s.data.toList = (acc + s[k].toNat * 128 ^ k, k + 1, 0) := by
            rw [H.out, H1.out, if_neg (by omega), if_pos (by omega)]
          refine ⟨?_, rfl⟩
          rw [e2]
          show Ending.returned (.tuple #[_, _, _]) = Ending.returned (.tuple #[_, _, _])
          dsimp only
          rw [← e]
          rfl
    · go_wp2
      go_ret3
      obtain rfl : k = s.size := by omega
      have e2 : rdN s.data.toList = (0, 0, 6) := by
        rw [H.out, List.drop_of_length_le (by simp)]
        rfl
      exact ⟨by rw [e2]; rfl, rfl⟩

/-! ### ReadText -/

theorem extract_list (s : ByteArray) (k n : Nat) : s.extract k (k + n) = ⟨((s.data.toList.drop k).take n).toArray⟩ := by
  apply ByteArray.ext
  have h := Lib.extract_data s k (k + n)
  apply Array.toList_inj.1
  rw [h]
  simp

/-- What a call that reads a text answers. -/
def rtV (x : List UInt8 × Nat × Nat) : Value := .tuple #[.string ⟨x.1.toArray⟩, .int .i64 x.2.1, .int .i64 x.2.2]

theorem empty_str : (ByteArray.empty : ByteArray) = ⟨([] : List UInt8).toArray⟩ := rfl

set_option maxRecDepth 100000 in
theorem readText_any (s : ByteArray) (most : Int) (w : World) (hs : s.size ≤ maxLen) :
    Calls Tryd.prog 120 #[.string s, .int .i64 most] w fun e w' => e = .returned (rtV (rdT s.data.toList most)) ∧ w = w' := by
  have hs' := hs
  unfold maxLen at hs
  have hc := readNumber_any s w hs'
  rcases rdN_cases s.data.toList with ⟨n, k, h, h1, h2, h3, h4, _⟩ | h | h
  · have h3 : k ≤ s.size := by simpa using h3
    have h1' : (n : Int) ≤ 9223372036854775807 := by omega
    rw [h] at hc
    unfold rdV at hc
    by_cases c1 : most < (n : Int)
    · have e2 : rdT s.data.toList most = ([], 0, 7) := by unfold rdT; rw [h]; simp [c1]
      have E2 := Lib.hid e2; clear e2 h h1
      have HC := Lib.hid hc; clear hc
      go_enter Tryd.func120, Tryd.ntmps120
      go_wp2_with fail
      refine HC.out.mono ?_
      rintro e w' ⟨rfl, rfl⟩
      go_wp2
      go_ret3
      exact ⟨by rw [E2.out]; rfl, rfl⟩
    · by_cases c2 : s.size - k < n
      · have e2 : rdT s.data.toList most = ([], 0, 6) := by unfold rdT; rw [h]; simp [c1]; omega
        have E2 := Lib.hid e2; clear e2 h h1
        have HC := Lib.hid hc; clear hc
        go_enter Tryd.func120, Tryd.ntmps120
        go_wp2_with fail
        refine HC.out.mono ?_
        rintro e w' ⟨rfl, rfl⟩
        go_wp2
        go_ret3
        exact ⟨by rw [E2.out]; rfl, rfl⟩
      · have e2 : rdT s.data.toList most = ((s.data.toList.drop k).take n, k + n, 0) := by unfold rdT; rw [h]; simp [c1]; omega
        have E2 := Lib.hid e2; clear e2 h h1
        have HC := Lib.hid hc; clear hc
        go_enter Tryd.func120, Tryd.ntmps120
        go_wp2_with fail
        refine HC.out.mono ?_
        rintro e w' ⟨rfl, rfl⟩
        go_wp2
        go_ret3
        refine ⟨?_, rfl⟩
        rw [E2.out]
        show Ending.returned (.tuple #[.string (s.extract k (k + n)), .int .i64 ((k : Int) + (n : Int)), .int .i64 0]) = _
        rw [extract_list]
        rfl
  · have e2 : rdT s.data.toList most = ([], 0, 6) := by unfold rdT; rw [h]; simp
    rw [h] at hc
    unfold rdV at hc
    have E2 := Lib.hid e2; clear e2 h
    have HC := Lib.hid hc; clear hc
    go_enter Tryd.func120, Tryd.ntmps120
    go_wp2_with fail
    refine HC.out.mono ?_
    rintro e w' ⟨rfl, rfl⟩
    go_wp2
    go_ret3
    exact ⟨by rw [E2.out]; rfl, rfl⟩
  · have e2 : rdT s.data.toList most = ([], 0, 7) := by unfold rdT; rw [h]; simp
    rw [h] at hc
    unfold rdV at hc
    have E2 := Lib.hid e2; clear e2 h
    have HC := Lib.hid hc; clear hc
    go_enter Tryd.func120, Tryd.ntmps120
    go_wp2_with fail
    refine HC.out.mono ?_
    rintro e w' ⟨rfl, rfl⟩
    go_wp2
    go_ret3
    exact ⟨by rw [E2.out]; rfl, rfl⟩
end Go.Proofs.YthhingihjpkipaaDoor.Pack

namespace Go.Proofs.YthhingihjpkipaaDoor.Pack
open Go.RowKit

theorem numF_more (f n : Nat) (hn : n < 128 ^ f) (hf : 0 < f) : numF (f + 1) n = numF f n := by
  induction f generalizing n with
  | zero => omega
  | succ f ih =>
    conv => lhs; unfold numF
    conv => rhs; unfold numF
    split
    · rfl
    · rename_i h
      congr 1
      apply ih
      · rw [Nat.div_lt_iff_lt_mul (by decide)]; simpa [Nat.pow_succ] using hn
      · rcases f with _ | f
        · simp at hn; omega
        · omega

theorem numL_step (n : Nat) (h : 128 ≤ n) (hn : n < 2 ^ 63) : numL n = UInt8.ofNat (128 + n % 128) :: numL (n / 128) := by
  have e := numF_more 8 (n / 128) (by omega) (by omega)
  conv => lhs; unfold numL; unfold numF
  rw [if_neg (by omega)]
  unfold numL
  rw [e]

theorem size_numL (n : Nat) : (⟨(numL n).toArray⟩ : ByteArray).size ≤ 9 := by
  show (numL n).toArray.size ≤ 9
  simpa using numL_len n

/-! ### ReadNumber -/

/-- The number that bytes are, from the last on. -/
def sumL (l : List UInt8) : Nat := l.foldr (fun b n => n * 128 + b.toNat % 128) 0

theorem sumL_snoc (l : List UInt8) (b : UInt8) : sumL (l ++ [b]) = sumL l + b.toNat % 128 * 128 ^ l.length := by
  induction l with
  | nil => simp [sumL]
  | cons a l ih =>
    have e : sumL (a :: l ++ [b]) = sumL (l ++ [b]) * 128 + a.toNat % 128 := rfl
    have e2 : sumL (a :: l) = sumL l * 128 + a.toNat % 128 := rfl
    rw [e, ih, e2, List.length_cons, Nat.pow_succ, Nat.add_mul, ← Nat.mul_assoc]
    omega

theorem sumL_lt (l : List UInt8) : sumL l < 128 ^ l.length := by
  induction l with
  | nil => simp [sumL]
  | cons a l ih =>
    have e2 : sumL (a :: l) = sumL l * 128 + a.toNat % 128 := rfl
    rw [e2, List.length_cons, Nat.pow_succ]
    omega

/-- While bytes from 128 on come, they are taken. -/
theorem rdL_run (s : List UInt8) (k : Nat) (hk : k ≤ s.length) (h : ∀ j, j < k → ∀ b, s[j]? = some b → 128 ≤ b.toNat) (hk8 : k ≤ 8) :
    rdN s = rdL k (sumL (s.take k)) (s.drop k) := by
  induction k with
  | zero => simp [rdN, sumL]
  | succ k ih =>
    rw [ih (by omega) (fun j hj => h j (by omega)) (by omega)]
    have hd : s.drop k = s[k]'(by omega) :: s.drop (k + 1) := List.drop_eq_getElem_cons (by omega)
    have hb := h k (by omega) (s[k]'(by omega)) (by simp)
    rw [hd, rdL, if_neg (by omega), if_neg (by omega)]
    congr 1
    rw [List.take_succ_eq_append_getElem (by omega), sumL_snoc, List.length_take, Nat.min_eq_left (by omega)]
    have := (s[k]'(by omega)).toNat_lt
    rw [show (s[k]'(by omega)).toNat % 128 = (s[k]'(by omega)).toNat - 128 by omega]

theorem rdN_form (s : List UInt8) (hk : 9 ≤ s.length) (h : ∀ j, j < 9 → ∀ b, s[j]? = some b → 128 ≤ b.toNat) : rdN s = (0, 0, 7) := by
  rw [rdL_run s 8 (by omega) (fun j hj => h j (by omega)) (by omega)]
  have hd : s.drop 8 = s[8]'(by omega) :: s.drop 9 := List.drop_eq_getElem_cons (by omega)
  have hb := h 8 (by omega) (s[8]'(by omega)) (by simp)
  rw [hd, rdL, if_pos (.inl ⟨hb, rfl⟩)]

theorem rdN_more (s : List UInt8) (hk : s.length ≤ 8) (h : ∀ j, j < s.length → ∀ b, s[j]? = some b → 128 ≤ b.toNat) : rdN s = (0, 0, 6) := by
  rw [rdL_run s s.length (by omega) h hk, List.drop_length]
  rfl

theorem rdN_end (s : List UInt8) (k : Nat) (hk : k < s.length) (hk8 : k ≤ 8) (h : ∀ j, j < k → ∀ b, s[j]? = some b → 128 ≤ b.toNat) (hb : (s[k]'hk).toNat < 128) :
    rdN s = if 0 < k ∧ (s[k]'hk).toNat = 0 then (0, 0, 7) else (sumL (s.take (k + 1)), k + 1, 0) := by
  rw [rdL_run s k (by omega) h hk8]
  have hd : s.drop k = s[k]'hk :: s.drop (k + 1) := List.drop_eq_getElem_cons hk
  rw [hd, rdL]
  by_cases c : 0 < k ∧ (s[k]'hk).toNat = 0
  · rw [if_pos (.inr ⟨c.2, c.1⟩), if_pos c]
  · rw [if_neg (by omega), if_pos hb, if_neg c, List.take_succ_eq_append_getElem hk, sumL_snoc, List.length_take, Nat.min_eq_left (by omega), Nat.mod_eq_of_lt hb]

theorem sumL_step (s : ByteArray) (j k : Nat) (hk : k < s.size) (hj : j ≤ k) (hk8 : k ≤ 8) :
    wrap64 (wrap64 ((sumL (List.drop (j + 1) (List.take (k + 1) s.data.toList)) : Int) * 128) + (wrap64 ((s[j]'(by omega)).toNat : Int)).tmod 128) =
      ((sumL (List.drop j (List.take (k + 1) s.data.toList)) : Nat) : Int) := by
  have hl : (List.take (k + 1) s.data.toList).length = k + 1 := by simp; omega
  have e : List.drop j (List.take (k + 1) s.data.toList) = (s[j]'(by omega)) :: List.drop (j + 1) (List.take (k + 1) s.data.toList) := by
    rw [List.drop_eq_getElem_cons (by omega)]
    congr 1
    rw [List.getElem_take]
    rfl
  have b1 := sumL_lt (List.drop (j + 1) (List.take (k + 1) s.data.toList))
  rw [List.length_drop, hl] at b1
  have b2 : 128 ^ (k + 1 - (j + 1)) ≤ 128 ^ 8 := Nat.pow_le_pow_right (by decide) (by omega)
  have b3 := (s[j]'(by omega)).toNat_lt
  rw [e]
  show _ = ((sumL (List.drop (j + 1) (List.take (k + 1) s.data.toList)) * 128 + (s[j]'(by omega)).toNat % 128 : Nat) : Int)
  generalize sumL (List.drop (j + 1) (List.take (k + 1) s.data.toList)) = x at *
  generalize (s[j]'(by omega)).toNat = y at *
  have w1 : wrap64 ((x : Int) * 128) = (x : Int) * 128 := by unfold wrap64; omega
  have w2 : wrap64 (y : Int) = (y : Int) := by unfold wrap64; omega
  rw [w1, w2, Int.tmod_eq_emod_of_nonneg (by omega)]
  unfold wrap64
  omega

/-! ### ReadText, Sum -/
open Crc

theorem low_get (n : Nat) : ∀ (x j : Nat), j < n → (low n x)[j]? = some (x / 2 ^ j % 2 == 1) := by
  induction n with
  | zero => intro x j h; omega
  | succ n ih =>
    intro x j h
    cases j with
    | zero => simp [low]
    | succ j =>
      simp only [low, List.getElem?_cons_succ]
      rw [ih (x / 2) j (by omega), Nat.pow_succ, Nat.mul_comm, ← Nat.div_div_eq_div_mul]

theorem low_len (n : Nat) : ∀ x, (low n x).length = n := by
  induction n with
  | zero => intro x; rfl
  | succ n ih => intro x; simp [low, ih]

theorem low_snoc (b : UInt8) (j : Nat) (h : j < 8) : (low8 b).take (j + 1) = (low8 b).take j ++ [b.toNat / 2 ^ j % 2 == 1] := by
  have h1 : j < (low8 b).length := by unfold low8; rw [low_len]; exact h
  rw [List.take_succ_eq_append_getElem h1]
  have h2 := low_get 8 b.toNat j h
  rw [List.getElem?_eq_getElem (by rw [low_len]; exact h)] at h2
  have h3 : (low8 b)[j] = (b.toNat / 2 ^ j % 2 == 1) := Option.some.inj h2
  rw [h3]

theorem bitStep_eq (r : R) (b : Bool) : bitStep r b = if (r.getLsbD 0 != b) = true then (r >>> 1) ^^^ poly else r >>> 1 := by
  unfold bitStep stp
  have e1 : (r ^^^ (if b then 1#32 else 0#32)).getLsbD 0 = (r.getLsbD 0 != b) := by
    rw [BitVec.getLsbD_xor]; cases b <;> simp
  have e2 : (r ^^^ (if b then 1#32 else 0#32)) >>> 1 = r >>> 1 := by
    rw [BitVec.ushiftRight_xor_distrib]; cases b <;> simp
  rw [e1, e2]

theorem bits_and1n (x : Nat) (h : x < 4294967296) : bits .and .u32 (x : Int) 1 = ((x % 2 : Nat) : Int) := by
  have h1 := bits_and32 (BitVec.ofNat 32 x) 1#32
  rw [and_one] at h1
  have e : (BitVec.ofNat 32 x).toNat = x := by rw [BitVec.toNat_ofNat]; omega
  rw [e] at h1
  exact h1

theorem bit_test (r : R) (b : UInt8) (j : Nat) : (bits .and .u32 (r.toNat : Int) 1 != bits .and .u32 ((b.toNat : Int) % 4294967296 / 2 ^ j) 1) = (r.getLsbD 0 != (b.toNat / 2 ^ j % 2 == 1)) := by
  have hb := b.toNat_lt
  have hr := r.isLt
  have e : ((b.toNat : Int) % 4294967296 / 2 ^ j) = ((b.toNat / 2 ^ j : Nat) : Int) := by
    rw [show (b.toNat : Int) % 4294967296 = (b.toNat : Int) by omega]; simp
  have hle : b.toNat / 2 ^ j ≤ b.toNat := Nat.div_le_self _ _
  rw [e, bits_and1n (b.toNat / 2 ^ j) (by omega), bits_and1n _ hr, lsb_mod]
  have h1 : r.toNat % 2 < 2 := Nat.mod_lt _ (by decide)
  have h2 : b.toNat / 2 ^ j % 2 < 2 := Nat.mod_lt _ (by decide)
  generalize r.toNat % 2 = p at *
  generalize b.toNat / 2 ^ j % 2 = q at *
  rcases p with _ | _ | p
  · rcases q with _ | _ | q <;> first | rfl | omega
  · rcases q with _ | _ | q <;> first | rfl | omega
  · omega

end Go.Proofs.YthhingihjpkipaaDoor.Pack

namespace Go.Proofs.YthhingihjpkipaaDoor.Subj
open Go.RowKit

theorem overlap_step (f g : List Tok) (k : Nat) (hf : k < f.length) (hg : k < g.length) : overlap (f.drop k) (g.drop k) =
    if (f.getD k [] == [62] || g.getD k [] == [62]) = true then true else (f.getD k [] == g.getD k [] || f.getD k [] == [42] || g.getD k [] == [42]) && overlap (f.drop (k + 1)) (g.drop (k + 1)) := by
  have h1 : f.drop k = f.getD k [] :: f.drop (k + 1) := by
    rw [List.drop_eq_getElem_cons hf]; simp [List.getD, hf]
  have h2 : g.drop k = g.getD k [] :: g.drop (k + 1) := by
    rw [List.drop_eq_getElem_cons hg]; simp [List.getD, hg]
  rw [h1, h2]
  rfl

theorem overlap_end (f g : List Tok) (k : Nat) (hf : k ≤ f.length) (hg : k ≤ g.length) (h : k = f.length ∨ k = g.length) : overlap (f.drop k) (g.drop k) = decide (f.length = g.length) := by
  rcases h with rfl | rfl
  · rw [List.drop_length]
    simp only [overlap]
    rw [Bool.eq_iff_iff]
    simp
    omega
  · rw [List.drop_length]
    cases hq : f.drop g.length with
    | nil =>
      simp only [overlap]
      have := congrArg List.length hq
      simp at this
      simp; omega
    | cons x xs =>
      simp only [overlap]
      have := congrArg List.length hq
      simp at this
      simp; omega

theorem covers_step (f g : List Tok) (k : Nat) (hf : k < f.length) (hg : k < g.length) : covers (f.drop k) (g.drop k) =
    if (f.getD k [] == [62]) = true then true else g.getD k [] != [62] && (f.getD k [] == [42] || f.getD k [] == g.getD k []) && covers (f.drop (k + 1)) (g.drop (k + 1)) := by
  have h1 : f.drop k = f.getD k [] :: f.drop (k + 1) := by
    rw [List.drop_eq_getElem_cons hf]; simp [List.getD, hf]
  have h2 : g.drop k = g.getD k [] :: g.drop (k + 1) := by
    rw [List.drop_eq_getElem_cons hg]; simp [List.getD, hg]
  rw [h1, h2]
  rfl

theorem covers_end (f g : List Tok) (k : Nat) (hf : k ≤ f.length) (hg : k ≤ g.length) (h : k = f.length ∨ k = g.length) : covers (f.drop k) (g.drop k) = decide (f.length = g.length) := by
  rcases h with rfl | rfl
  · rw [List.drop_length]
    simp only [covers]
    rw [Bool.eq_iff_iff]
    simp
    omega
  · rw [List.drop_length]
    cases hq : f.drop g.length with
    | nil =>
      simp only [covers]
      have := congrArg List.length hq
      simp at this
      simp; omega
    | cons x xs =>
      simp only [covers]
      have := congrArg List.length hq
      simp at this
      simp; omega

/-! ### both -/

def pairErr (f g : List UInt8) : Nat := if err true f ≠ 0 then err true f else err true g

def BothPost (w : World) (lf lg : List Tok) (er : Nat) (e : Ending) (w' : World) : Prop :=
  Below w.heap.size w w' ∧ ((er = 0 ∧ ∃ g1 g2, e = .returned (.tuple #[.slice (some ⟨g1, 0, none⟩) lf.length lf.length, .slice (some ⟨g2, 0, none⟩) lg.length lg.length, .int .i64 0]) ∧ StrsAt w' g1 0 lf ∧ StrsAt w' g2 0 lg) ∨
    (er ≠ 0 ∧ e = .returned (.tuple #[.slice none 0 0, .slice none 0 0, .int .i64 er])))

/-- What Overlap answers. -/
def overlapR (f g : List UInt8) : Bool × Nat := if pairErr f g ≠ 0 then (false, pairErr f g) else (overlap (pieces f) (pieces g), 0)
def coversR (f g : List UInt8) : Bool × Nat := if pairErr f g ≠ 0 then (false, pairErr f g) else (covers (pieces f) (pieces g), 0)

end Go.Proofs.YthhingihjpkipaaDoor.Subj

namespace Go.Proofs.YthhingihjpkipaaDoor.Subj
open Go.RowKit

/-- What 'is' makes of an answer. -/
def isB (x : Bool × Nat) : Bool := x.2 == 0 && x.1

set_option maxRecDepth 100000 in
theorem is_match (f g : ByteArray) (w : World) (hf : f.size ≤ 1048576) (hg : g.size ≤ 1048576) (hm : ML w) :
    Calls Tryd.prog 22 #[.func (.func 23) #[] #[], .string f, .string g] w fun e w' => e = .returned (.bool (isB (matchR f.data.toList g.data.toList))) ∧ Below w.heap.size w w' := by
  have hc := match_any f g w hf hg hm
  obtain ⟨b, n, hr⟩ : ∃ b n, matchR f.data.toList g.data.toList = (b, n) := ⟨_, _, rfl⟩
  rw [hr] at hc ⊢
  unfold beV at hc
  have HC := Lib.hid hc; clear hc hr
  by_cases h0 : n = 0
  · subst h0
    go_enter Tryd.func22, Tryd.ntmps22
    go_wp2_with fail
    refine HC.out.mono ?_
    rintro e w' ⟨rfl, hb⟩
    go_wp2
    go_ret
    exact ⟨rfl, hb⟩
  · have h1 : ((n : Int) == 0) = false := by simp; omega
    have h2 : isB (b, n) = false := by unfold isB; simp [h0]
    rw [h2]
    clear h0 h2
    go_enter Tryd.func22, Tryd.ntmps22
    go_wp2_with fail
    refine HC.out.mono ?_
    rintro e w' ⟨rfl, hb⟩
    go_wp2
    go_ret
    exact ⟨rfl, hb⟩

end Go.Proofs.YthhingihjpkipaaDoor.Subj

namespace Go.Proofs.YthhingihjpkipaaDoor.Subj
open Go.RowKit
end Go.Proofs.YthhingihjpkipaaDoor.Subj
