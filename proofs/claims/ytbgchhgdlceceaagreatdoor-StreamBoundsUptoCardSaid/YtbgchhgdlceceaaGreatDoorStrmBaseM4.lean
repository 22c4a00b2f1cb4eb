/- Parts of the proof, joined: Package record's Check and the reference's Record, walked.; What the functions of package pack answer, and those of the document's answer beside them.; What the document's answers for package pack give: the same functions of lists of bytes.; Package subject, walked: both, Overlap, Covers.; 'is' and 'known', walked; and the laws of filters that hold of the Lean functions.; 'is' and 'known', walked; and the laws of filters that hold of the Lean functions. -/
import Derived.Test.YtbgchhgdlceceaaGreatDoorStrmBaseM3
import Derived.Deep.RegionHeld3
import Derived.Deep.QuietTactic
import Derived.BigQuiet
namespace Go.Proofs.YtbgchhgdlceceaaGreatDoor.Rec
open Go.RowKit Subj Pack Crc

/-- A record's cells, as values; as lists. -/
def recA (k q t : Int) (s h d : ByteArray) : Array Value := #[.int .i64 k, .int .i64 q, .int .i64 t, .string s, .string h, .string d]
def rcOf (k q t : Int) (s h d : ByteArray) : Rc := ⟨k, q, t, s.data.toList, h.data.toList, d.data.toList⟩

theorem ml_alloc {w : World} (h : ML w) (o : Obj) : ML (w.alloc o) := h.below ((Below.refl _ _).alloc (Nat.le_refl _) _)

theorem empty_iff (s : ByteArray) : s.data.toList = [] ↔ s.toList = [] := by rw [ByteArray.toList_eq]

set_option maxHeartbeats 4000000 in
set_option maxRecDepth 100000 in
theorem check_any (k q t : Int) (s h d : ByteArray) (w : World) (hs : s.size ≤ 1048576) (hh : h.size ≤ 1048576) (hd : d.size ≤ 1048576) (hm : ML w) :
    Calls Tryz.prog 143 #[.agg (recA k q t s h d)] w fun e w' => e = .returned (.int .i64 (recErr (rcOf k q t s h d))) ∧ Below w.heap.size w w' := by
  obtain ⟨er, her⟩ : ∃ er, recErr (rcOf k q t s h d) = er := ⟨_, rfl⟩
  rw [her]
  unfold recErr rcOf far at her
  simp only [Array.length_toList, ByteArray.size_data, empty_iff] at her
  have HS := Lib.hid fun w hm => subject_any s w hs hm
  have HF := Lib.hid fun w hm => filter_any s w hs hm
  have hm1 := ml_alloc hm (.cells (recA k q t s h d) 33)
  have HM := Lib.hid hm1
  have hb := (Below.refl w.heap.size w).alloc (Nat.le_refl _) (.cells (recA k q t s h d) 33)
  have HB := Lib.hid hb
  generalize err true s.data.toList = e1 at *
  generalize err false s.data.toList = e2 at *
  have HE := Lib.hid her
  clear her hm1 hm hb
  unfold recA at *
  go_enter Tryz.func143, Tryz.ntmps143
  go_wp2_with (first
    | (go_at_call 184; refine (HS.out _ HM.out).mono ?_; rintro e w' ⟨rfl, hb'⟩; obtain ⟨hcc, hff⟩ := bcell hb'; have hbb := HB.out.trans (hb'.mono HB.out.size); clear hb')
    | (go_at_call 156; refine (HF.out _ HM.out).mono ?_; rintro e w' ⟨rfl, hb'⟩; obtain ⟨hcc, hff⟩ := bcell hb'; have hbb := HB.out.trans (hb'.mono HB.out.size); clear hb'))
  all_goals
    go_ret
    refine ⟨ret_int ?_, by first | exact HB.out | assumption⟩
    rw [← HE.out]
    clear HE HS HF HM HB
    simp only [beq_iff_eq, beq_eq_false_iff_ne, bne_iff_ne, bne_eq_false_iff_eq, List.isEmpty_iff, Bool.not_eq_true', Bool.not_eq_false', ne_eq, Int.natCast_eq_zero] at *
    repeat' split
    all_goals first | rfl | omega | (simp_all; done) | (exfalso; simp_all; omega)

end Go.Proofs.YtbgchhgdlceceaaGreatDoor.Rec

namespace Go.Proofs.YtbgchhgdlceceaaGreatDoor.Pack
open Go.RowKit


/-! ### Rest -/

/-! ### Sum -/
open Crc

theorem wrap_u32 (a : R) : IntKind.u32.wrap (a.toNat : Int) = (a.toNat : Int) := by
  have h := a.isLt
  simp [IntKind.wrap, IntKind.signed, IntKind.bits]
  omega

theorem ofInt_toNat (a : R) : BitVec.ofInt 32 (a.toNat : Int) = a := by
  simp

theorem bits_xor32 (a b : R) : bits .xor .u32 (a.toNat : Int) (b.toNat : Int) = ((a ^^^ b).toNat : Int) := by
  show IntKind.u32.wrap (((BitVec.ofInt 32 (a.toNat : Int) ^^^ BitVec.ofInt 32 (b.toNat : Int)).toNat : Nat) : Int) = _
  rw [ofInt_toNat, ofInt_toNat]
  exact wrap_u32 _

theorem bits_and32 (a b : R) : bits .and .u32 (a.toNat : Int) (b.toNat : Int) = ((a &&& b).toNat : Int) := by
  show IntKind.u32.wrap (((BitVec.ofInt 32 (a.toNat : Int) &&& BitVec.ofInt 32 (b.toNat : Int)).toNat : Nat) : Int) = _
  rw [ofInt_toNat, ofInt_toNat]
  exact wrap_u32 _

theorem and_one (a : R) : (a &&& 1#32).toNat = a.toNat % 2 := by
  rw [BitVec.toNat_and]
  exact Nat.and_one_is_mod _

theorem lsb_mod (a : R) : a.getLsbD 0 = decide (a.toNat % 2 = 1) := by
  rw [BitVec.getLsbD, Nat.testBit_zero]

theorem bits_and1 (a : R) : (bits .and .u32 (a.toNat : Int) 1 == 1) = a.getLsbD 0 := by
  have h := bits_and32 a 1#32
  rw [and_one] at h
  have h1 : ((1#32 : R).toNat : Int) = 1 := rfl
  rw [h1] at h
  rw [h, lsb_mod, Bool.eq_iff_iff]
  simp
  omega

theorem max_u32 : IntKind.u32.max = ((0xffffffff#32 : R).toNat : Int) := rfl

theorem not_xor (a : R) : 0xffffffff#32 ^^^ a = ~~~ a := by
  rw [BitVec.not_def]; rfl

theorem u8_mod (b : UInt8) : ((b.toNat : Int) % 4294967296) = (((BitVec.ofNat 32 b.toNat) : R).toNat : Int) := by
  have := b.toNat_lt
  rw [BitVec.toNat_ofNat]
  omega

theorem take_snoc (s : ByteArray) (k : Nat) (h : k < s.size) : s.data.toList.take (k + 1) = s.data.toList.take k ++ [s[k]] := by
  rw [List.take_succ_eq_append_getElem (by simpa using h)]; rfl

theorem stps_snoc (j : Nat) (r : R) : stps (j + 1) r = stp (stps j r) := by
  have := stps_add j 1 r
  simpa [stps] using this


theorem half32 (a : R) : (a.toNat : Int) / (2 : Int) = ((a >>> 1).toNat : Int) := by
  rw [BitVec.toNat_ushiftRight, Nat.shiftRight_eq_div_pow]
  omega

theorem sum_any (s : ByteArray) (w : World) (hs : s.size ≤ maxLen) :
    Calls Tryz.prog 181 #[.string s] w fun e w' => e = .returned (.int .u32 ((crcL s.data.toList).toNat)) ∧ w = w' := by
  unfold maxLen at hs
  go_enter Tryz.func181, Tryz.ntmps181
  go_wp2
  go_loop [3, 7] (fun r i => ∃ k : Nat, k ≤ s.size ∧ i = .int .i64 k ∧ r = .int .u32 ((s.data.toList.take k).foldl byteStep 0xffffffff#32).toNat) (fun _ i => s.size - (intOf i).toNat)
  case atStart => exact ⟨0, Nat.zero_le _, rfl, rfl⟩
  case round =>
    obtain ⟨k, hk, rfl, rfl⟩ := hrel
    generalize hX : (s.data.toList.take k).foldl byteStep 0xffffffff#32 = X
    have HX := Lib.hid hX
    clear hX
    by_cases hlt : k < s.size
    · go_wp2
      go_loop [3, 16] (fun r i => ∃ j : Nat, j ≤ 8 ∧ i = .int .i64 j ∧ r = .int .u32 ((stps j (X ^^^ BitVec.ofNat 32 s[k].toNat)).toNat)) (fun _ i => 8 - (intOf i).toNat)
      case atStart => exact ⟨0, by omega, rfl, val_int (by rw [u8_mod, bits_xor32]; rfl)⟩
      case round =>
        obtain ⟨j, hj, rfl, rfl⟩ := hrel
        generalize hY : stps j (X ^^^ BitVec.ofNat 32 s[k].toNat) = Y
        have HY := Lib.hid hY
        clear hY
        by_cases hj8 : j < 8
        · by_cases hb : (bits BinOp.and IntKind.u32 (Y.toNat) 1 == 1) = true
          · go_wp2
            go_round
            case rel => exact ⟨j + 1, by omega, by go_num, val_int (by
              rw [bits_and1] at hb
              rw [stps_snoc, HY.out, half32, show (3988292384 : Int) = ((poly : R).toNat : Int) from rfl, bits_xor32, stp, if_pos hb])⟩
            case measure => simp [intOf]; omega
          · have hb' : (bits BinOp.and IntKind.u32 (Y.toNat) 1 == 1) = false := by simpa using hb
            clear hb
            go_wp2
            go_round
            case rel => exact ⟨j + 1, by omega, by go_num, val_int (by
              rw [bits_and1] at hb'
              rw [stps_snoc, HY.out, half32, stp, if_neg (by rw [hb']; decide)])⟩
            case measure => simp [intOf]; omega
        · obtain rfl : j = 8 := by omega
          go_wp2
          go_round
          case rel => exact ⟨k + 1, by omega, by go_num, val_int (by rw [take_snoc s k hlt, List.foldl_append, HX.out, ← HY.out]; rfl)⟩
          case measure => simp [intOf]; omega
    · go_wp2
      go_ret
      obtain rfl : k = s.size := by omega
      exact ⟨ret_int (by
        rw [max_u32, bits_xor32, not_xor, crcL, ← HX.out, List.take_of_length_le (by simp)]), rfl⟩

/-! ### Number -/

theorem info_u8 : (Tryz.prog.info? 5).map (fun i => (i.zero, i.size, i.bytes)) = some (some (.int .u8 0), 1, 1) := by kernel_rfl

theorem wrap_i64_small (n : Nat) (h : n < 2 ^ 63) : IntKind.i64.wrap (n : Int) = (n : Int) := by
  simp [IntKind.wrap, IntKind.signed, IntKind.bits]
  omega

theorem bits_i64_and (a b : Nat) (ha : a < 2 ^ 63) : bits .and .i64 (a : Int) (b : Int) = ((a &&& b : Nat) : Int) := by
  show IntKind.i64.wrap (((BitVec.ofInt 64 (a : Int) &&& BitVec.ofInt 64 (b : Int)).toNat : Nat) : Int) = _
  rw [BitVec.ofInt_natCast, BitVec.ofInt_natCast, BitVec.toNat_and, BitVec.toNat_ofNat, BitVec.toNat_ofNat, Nat.mod_eq_of_lt (by omega)]
  have h2 : a &&& b % 2 ^ 64 = a &&& b := by
    apply Nat.eq_of_testBit_eq
    intro i
    rw [Nat.testBit_and, Nat.testBit_and, Nat.testBit_mod_two_pow]
    by_cases hi : i < 64
    · simp [hi]
    · have : a.testBit i = false := Nat.testBit_lt_two_pow (Nat.lt_of_lt_of_le ha (Nat.pow_le_pow_right (by decide) (by omega)))
      simp [this]
  rw [h2]
  exact wrap_i64_small _ (Nat.lt_of_le_of_lt Nat.and_le_left ha)

theorem bits_i64_or (a b : Nat) (ha : a < 2 ^ 63) (hb : b < 2 ^ 63) : bits .or .i64 (a : Int) (b : Int) = ((a ||| b : Nat) : Int) := by
  show IntKind.i64.wrap (((BitVec.ofInt 64 (a : Int) ||| BitVec.ofInt 64 (b : Int)).toNat : Nat) : Int) = _
  rw [BitVec.ofInt_natCast, BitVec.ofInt_natCast, BitVec.toNat_or, BitVec.toNat_ofNat, BitVec.toNat_ofNat, Nat.mod_eq_of_lt (by omega), Nat.mod_eq_of_lt (by omega)]
  exact wrap_i64_small _ (Nat.or_lt_two_pow ha hb)

theorem and_127 (m : Nat) : m &&& 127 = m % 128 := Nat.and_two_pow_sub_one_eq_mod m 7

theorem or_128 (m : Nat) (h : m < 128) : m ||| 128 = 128 + m := by
  have := Nat.two_pow_add_eq_or_of_lt (i := 7) h 1
  have h1 : 2 ^ 7 * 1 + m = 128 ||| m := this
  rw [Nat.or_comm]
  omega

/-- The byte that is written: 'n&127|128'. -/
theorem byte_of (m : Nat) (h : m < 2 ^ 63) : (bits BinOp.or IntKind.i64 (bits BinOp.and IntKind.i64 (m : Int) 127) 128 % 256) = (((UInt8.ofNat (128 + m % 128)).toNat : Nat) : Int) := by
  have h1 := bits_i64_and m 127 h
  rw [and_127] at h1
  have h2 := bits_i64_or (m % 128) 128 (by omega) (by omega)
  rw [or_128 _ (by omega)] at h2
  rw [show ((127 : Nat) : Int) = 127 from rfl] at h1
  rw [show ((128 : Nat) : Int) = 128 from rfl] at h2
  rw [h1, h2, ofNat_toNat_lt _ (by omega)]
  omega

set_option maxRecDepth 100000 in
theorem number_any (n : Int) (w : World) (hn : n ≤ 9223372036854775807) :
    Calls Tryz.prog 179 #[.int .i64 n] w fun e w' => e = .returned (.string ⟨(numL n.toNat).toArray⟩) ∧ Below w.heap.size w w' := by
  obtain ⟨i0, hi, hz0, hz1, hz2⟩ := info_parts info_u8
  go_enter Tryz.func179, Tryz.ntmps179
  by_cases hn0 : n < 0
  all_goals
    go_wp2
    go_loopw [0, 3] (fun n' v wr => ∃ (f m : Nat) (xs : List UInt8), f + xs.length = 9 ∧ 0 < f ∧ m < 128 ^ f ∧ Hid (numL n.toNat = xs ++ numF f m) ∧ n' = .int .i64 m ∧ wr.ownsRow w.heap.size 5 1 v xs.length (bytesV xs) ∧ Below w.heap.size w wr) (fun n _ _ => (intOf n).toNat)
    case atStart =>
      refine ⟨9, n.toNat, [], rfl, by omega, by omega, rfl, val_int (by omega), World.ownsRow_nil _ _ _ _, Below.refl _ _⟩
    case round =>
      obtain ⟨f, m, xs, hf, hf0, hmf, H, rfl, hown, hb⟩ := hrel
      have hm : m < 2 ^ 63 := by
        have h1 : 128 ^ f ≤ 128 ^ 9 := Nat.pow_le_pow_right (by decide) (by omega)
        omega
      have hm63 : (m : Int) ≤ 9223372036854775807 := by omega
      have HM := Lib.hid hm; clear hm
      have hl : xs.length ≤ 9 := by omega
      have HF := Lib.hid hf; clear hf
      have HMF := Lib.hid hmf; clear hmf
      have hbs := hb.size
      by_cases h : 128 ≤ m
      · go_wp2_with (at_builtin; refine wpList_append_own _ rfl (.tmp 8) (.tmp 13) 260 rfl (w.heap.size) 5 i0 (.int .u8 0) 1 1 Tryz.underlying260 hi hz0 hz1 hz2 rfl (by decide) _ _ _ rfl (hown.alloc _) ⟨wr.heap.size, 0, none⟩ 1 1 [.int .u8 (bits BinOp.or IntKind.i64 (bits BinOp.and IntKind.i64 (↑m) 127) 128 % 256)] rfl rfl (cell_one_new _ _ _) (by simp [Value.oneCell']) (by unfold maxLen; omega) (by omega) (by simp; omega) ?_)
        intro v' w1 hown1 hgrow hne
        go_wp2
        refine ⟨⟨f - 1, m / 128, xs ++ [UInt8.ofNat (128 + m % 128)], ?_, ?_, ?_, ?_, by go_num, ?_, ?_⟩, by simp [intOf]; omega⟩
        · have := HF.out; have := HMF.out; have : f ≠ 0 := by omega
          simp; omega
        · have := HMF.out
          by_cases f1 : f = 1
          · subst f1; simp at this; omega
          · omega
        · have := HMF.out
          obtain ⟨f, rfl⟩ : ∃ g, f = g + 1 := ⟨f - 1, by omega⟩
          rw [Nat.pow_succ] at this
          simp only [Nat.add_sub_cancel]
          omega
        · obtain ⟨f, rfl⟩ : ∃ g, f = g + 1 := ⟨f - 1, by omega⟩
          show _ = _
          rw [H.out, numF, if_neg (by omega)]
          simp
        · rw [byte_of m HM.out] at hown1
          simpa [bytesV] using hown1
        · exact (hb.alloc hbs _).grown hgrow (by simp; omega) (fun k hk => (hown.lt k hk).1)
      · go_wp2_with (at_builtin; refine wpList_append_own _ rfl (.tmp 17) (.tmp 20) 260 rfl (w.heap.size) 5 i0 (.int .u8 0) 1 1 Tryz.underlying260 hi hz0 hz1 hz2 rfl (by decide) _ _ _ rfl (hown.alloc _) ⟨wr.heap.size, 0, none⟩ 1 1 [.int .u8 ↑m] rfl rfl (cell_one_new _ _ _) (by simp [Value.oneCell']) (by unfold maxLen; omega) (by omega) (by simp; omega) ?_)
        intro v' w1 hown1 hgrow hne
        have hown2 : w1.ownsRow w.heap.size 5 1 v' (xs.length + 1) (bytesV (xs ++ [UInt8.ofNat m])) := by
          rw [bytesV_append]
          show w1.ownsRow w.heap.size 5 1 v' (xs.length + 1) (bytesV xs ++ [.int .u8 ((UInt8.ofNat m).toNat : Nat)])
          rw [ofNat_toNat_lt _ (by omega)]
          exact hown1
        have hconv := run_string_own (P := Tryz.prog) 260 9 Tryz.underlying260 Tryz.underlying5 Tryz.underlying9 hown2
        clear hown1
        go_wp2
        go_ret
        refine ⟨ret_str ?_, (hb.alloc hbs _).grown hgrow (by simp; omega) (fun k hk => (hown.lt k hk).1)⟩
        obtain ⟨f, rfl⟩ : ∃ g, f = g + 1 := ⟨f - 1, by omega⟩
        rw [H.out, numF, if_pos (by omega)]

/-! ### Text -/

theorem str_append (a : List UInt8) (s : ByteArray) : (⟨a.toArray⟩ ++ s : ByteArray) = ⟨(a ++ s.data.toList).toArray⟩ := by
  apply ByteArray.ext; simp

theorem text_any (s : ByteArray) (w : World) (hs : s.size ≤ 9223372036854775000) :
    Calls Tryz.prog 180 #[.string s] w fun e w' => e = .returned (.string ⟨(textL s.data.toList).toArray⟩) ∧ Below w.heap.size w w' := by
  have hl := numL_len s.size
  have hl' : (⟨(numL s.size).toArray⟩ : ByteArray).size ≤ 9 := by
    show (numL s.size).toArray.size ≤ 9
    simpa using hl
  go_enter Tryz.func180, Tryz.ntmps180
  go_wp2_with fail
  refine (number_any _ _ (by omega)).mono ?_
  rintro e w' ⟨rfl, hb⟩
  rw [Int.toNat_natCast]
  generalize hS : (⟨(numL s.size).toArray⟩ : ByteArray) = S at *
  have HS := Lib.hid hS; clear hS
  go_wp2
  go_ret
  refine ⟨ret_str ?_, hb⟩
  rw [← HS.out, str_append]
  rfl

/-! ### ReadNumber -/

theorem or_low (a b k : Nat) (ha : a < 2 ^ k) : a ||| (b * 2 ^ k) = a + b * 2 ^ k := by
  have := Nat.two_pow_add_eq_or_of_lt (i := k) ha b
  rw [Nat.or_comm, Nat.mul_comm]
  omega

theorem pow_7 (k : Nat) : 128 ^ k = 2 ^ (7 * k) := by
  rw [Nat.pow_mul]

theorem bits_u8_127 (b : UInt8) : bits .and .u8 (b.toNat : Int) 127 = ((b.toNat % 128 : Nat) : Int) := by
  have h := b.toNat_lt
  show IntKind.u8.wrap (((BitVec.ofInt 8 (b.toNat : Int) &&& BitVec.ofInt 8 127).toNat : Nat) : Int) = _
  rw [BitVec.ofInt_natCast, BitVec.toNat_and, BitVec.toNat_ofNat, Nat.mod_eq_of_lt (by omega)]
  have e : (BitVec.ofInt 8 127).toNat = 127 := rfl
  rw [e, and_127]
  simp [IntKind.wrap, IntKind.signed, IntKind.bits]
  omega

theorem wrap64_small (n : Nat) (h : n < 2 ^ 63) : wrap64 (n : Int) = (n : Int) := by
  unfold wrap64; omega

/-- One round of reading: 'n |= int(b&127) << (7*i)'. -/
theorem read_step (acc k : Nat) (b : UInt8) (ha : acc < 128 ^ k) (hk : k ≤ 8) :
    bits .or .i64 (acc : Int) (wrap64 (wrap64 (bits .and .u8 (b.toNat : Int) 127) * 2 ^ (7 * k))) = ((acc + b.toNat % 128 * 128 ^ k : Nat) : Int) := by
  have hp : 128 ^ k ≤ 128 ^ 8 := Nat.pow_le_pow_right (by decide) hk
  have h0 : b.toNat % 128 * 128 ^ k ≤ 127 * 128 ^ k := Nat.mul_le_mul_right _ (by omega)
  rw [bits_u8_127, wrap64_small _ (by omega)]
  have e : (((b.toNat % 128 : Nat) : Int) * 2 ^ (7 * k)) = ((b.toNat % 128 * 128 ^ k : Nat) : Int) := by
    rw [pow_7]; simp
  rw [e, wrap64_small _ (by omega), bits_i64_or _ _ (by omega) (by omega), pow_7, or_low _ _ _ (by rw [← pow_7]; exact ha)]

theorem rdL_step (s : ByteArray) (k acc : Nat) (h : k < s.size) :
    rdL k acc (s.data.toList.drop k) =
      if (128 ≤ s[k].toNat ∧ k = 8) ∨ (s[k].toNat = 0 ∧ 0 < k) then (0, 0, 7)
      else if s[k].toNat < 128 then (acc + s[k].toNat * 128 ^ k, k + 1, 0)
      else rdL (k + 1) (acc + (s[k].toNat - 128) * 128 ^ k) (s.data.toList.drop (k + 1)) := by
  have e : s.data.toList.drop k = s[k] :: s.data.toList.drop (k + 1) := by
    rw [List.drop_eq_getElem_cons (by simpa using h)]
    rfl
  rw [e, rdL]

/-- What a call that reads answers. -/
def rdV (x : Nat × Nat × Nat) : Value := .tuple #[.int .i64 x.1, .int .i64 x.2.1, .int .i64 x.2.2]

set_option maxRecDepth 100000 in
theorem readNumber_any (s : ByteArray) (w : World) (hs : s.size ≤ maxLen) :
    Calls Tryz.prog 248 #[.string s] w fun e w' => e = .returned (rdV (rdN s.data.toList)) ∧ w = w' := by
  unfold maxLen at hs
  go_enter Tryz.func248, Tryz.ntmps248
  go_wp2
  go_loop [5, 10] (fun n i => ∃ (k acc : Nat), k ≤ s.size ∧ k ≤ 8 ∧ acc < 128 ^ k ∧ Hid (rdN s.data.toList = rdL k acc (s.data.toList.drop k)) ∧ n = .int .i64 acc ∧ i = .int .i64 k) (fun _ i => s.size - (intOf i).toNat)
  case atStart => exact ⟨0, 0, Nat.zero_le _, by omega, by decide, rfl, rfl, rfl⟩
  case round =>
    obtain ⟨k, acc, hk, hk8, ha, H, rfl, rfl⟩ := hrel
    have HA := Lib.hid ha; clear ha
    by_cases hlt : k < s.size
    · have hb := s[k].toNat_lt
      have H1 := Lib.hid (rdL_step s k acc hlt)
      by_cases c1 : 128 ≤ s[k].toNat
      · by_cases c2 : k = 8
        · have e2 : rdN s.data.toList = (0, 0, 7) := by rw [H.out, H1.out, if_pos (.inl ⟨c1, c2⟩)]
          have E2 := Lib.hid e2; clear e2 H H1
          subst c2
          go_wp2
          go_ret3
          exact ⟨by rw [E2.out]; rfl, rfl⟩
        · go_wp2
          go_round
          case rel =>
            have ha := HA.out
            refine ⟨k + 1, acc + (s[k].toNat - 128) * 128 ^ k, by omega, by omega, ?_, ?_, val_int ?_, by go_num⟩
            · rw [Nat.pow_succ]
              have : (s[k].toNat - 128) * 128 ^ k ≤ 127 * 128 ^ k := Nat.mul_le_mul_right _ (by omega)
              omega
            · show _ = _
              rw [H.out, H1.out, if_neg (by omega), if_neg (by omega)]
            · rw [read_step acc k s[k] ha hk8, show s[k].toNat % 128 = s[k].toNat - 128 by omega]
          case measure => simp [intOf]; omega
      · by_cases c3 : s[k].toNat = 0
        · have c4 : ((s[k].toNat : Int) == 0) = true := by simp [c3]
          have C3 := Lib.hid c3; clear c3
          by_cases c5 : 0 < k
          · have e2 : rdN s.data.toList = (0, 0, 7) := by rw [H.out, H1.out, if_pos (.inr ⟨C3.out, c5⟩)]
            have E2 := Lib.hid e2; clear e2 H H1
            go_wp2
            go_ret3
            exact ⟨by rw [E2.out]; rfl, rfl⟩
          · obtain rfl : k = 0 := by omega
            have e2 : rdN s.data.toList = (acc + s[0].toNat * 128 ^ 0, 0 + 1, 0) := by
              rw [H.out, H1.out, if_neg (by omega), if_pos (by omega)]
            have e := read_step acc 0 s[0] HA.out hk8
            rw [show s[0].toNat % 128 = s[0].toNat by omega] at e
            have E2 := Lib.hid e2; clear e2 H H1
            simp only [Nat.mul_zero, Int.pow_zero, Int.mul_one] at e
            have EE := Lib.hid e; clear e
            go_wp2
            go_ret3
            have e := EE.out
            refine ⟨?_, rfl⟩
            rw [E2.out]
            show Ending.returned (.tuple #[_, _, _]) = Ending.returned (.tuple #[_, _, _])
            dsimp only
            rw [← e]
            rfl
        · have hz : ((s[k].toNat : Int) == 0) = false := by simp; omega
          go_wp2
          go_ret3
          have ha := HA.out
          have e := read_step acc k s[k] ha hk8
          rw [show s[k].toNat % 128 = s[k].toNat by omega] at e
          have e2 : rdN s.data.toList = (acc + s[k].toNat * 128 ^ k, k + 1, 0) := by
            rw [H.out, H1.out, if_neg (by omega), if_pos (by omega)]
          refine ⟨?_, rfl⟩
          rw [e2]
          show Ending.returned (.tuple #[_, _, _]) = Ending.returned (.tuple #[_, _, _])
          dsimp only
          rw [← e]
          rfl
    · go_wp2
      go_ret3
      obtain rfl : k = s.size := by omega
      have e2 : rdN s.data.toList = (0, 0, 6) := by
        rw [H.out, List.drop_of_length_le (by simp)]
        rfl
      exact ⟨by rw [e2]; rfl, rfl⟩

/-! ### ReadText -/

theorem extract_list (s : ByteArray) (k n : Nat) : s.extract k (k + n) = ⟨((s.data.toList.drop k).take n).toArray⟩ := by
  apply ByteArray.ext
  have h := Lib.extract_data s k (k + n)
  apply Array.toList_inj.1
  rw [h]
  simp

/-- What a call that reads a text answers. -/
def rtV (x : List UInt8 × Nat × Nat) : Value := .tuple #[.string ⟨x.1.toArray⟩, .int .i64 x.2.1, .int .i64 x.2.2]

set_option maxRecDepth 100000 in
theorem readText_any (s : ByteArray) (most : Int) (w : World) (hs : s.size ≤ maxLen) :
    Calls Tryz.prog 215 #[.string s, .int .i64 most] w fun e w' => e = .returned (rtV (rdT s.data.toList most)) ∧ w = w' := by
  have hs' := hs
  unfold maxLen at hs
  have hc := readNumber_any s w hs'
  rcases rdN_cases s.data.toList with ⟨n, k, h, h1, h2, h3, h4, _⟩ | h | h
  · have h3 : k ≤ s.size := by simpa using h3
    have h1' : (n : Int) ≤ 9223372036854775807 := by omega
    rw [h] at hc
    unfold rdV at hc
    by_cases c1 : most < (n : Int)
    · have e2 : rdT s.data.toList most = ([], 0, 7) := by unfold rdT; rw [h]; simp [c1]
      have E2 := Lib.hid e2; clear e2 h h1
      have HC := Lib.hid hc; clear hc
      go_enter Tryz.func215, Tryz.ntmps215
      go_wp2_with fail
      refine HC.out.mono ?_
      rintro e w' ⟨rfl, rfl⟩
      go_wp2
      go_ret3
      exact ⟨by rw [E2.out]; rfl, rfl⟩
    · by_cases c2 : s.size - k < n
      · have e2 : rdT s.data.toList most = ([], 0, 6) := by unfold rdT; rw [h]; simp [c1]; omega
        have E2 := Lib.hid e2; clear e2 h h1
        have HC := Lib.hid hc; clear hc
        go_enter Tryz.func215, Tryz.ntmps215
        go_wp2_with fail
        refine HC.out.mono ?_
        rintro e w' ⟨rfl, rfl⟩
        go_wp2
        go_ret3
        exact ⟨by rw [E2.out]; rfl, rfl⟩
      · have e2 : rdT s.data.toList most = ((s.data.toList.drop k).take n, k + n, 0) := by unfold rdT; rw [h]; simp [c1]; omega
        have E2 := Lib.hid e2; clear e2 h h1
        have HC := Lib.hid hc; clear hc
        go_enter Tryz.func215, Tryz.ntmps215
        go_wp2_with fail
        refine HC.out.mono ?_
        rintro e w' ⟨rfl, rfl⟩
        go_wp2
        go_ret3
        refine ⟨?_, rfl⟩
        rw [E2.out]
        show Ending.returned (.tuple #[.string (s.extract k (k + n)), .int .i64 ((k : Int) + (n : Int)), .int .i64 0]) = _
        rw [extract_list]
        rfl
  · have e2 : rdT s.data.toList most = ([], 0, 6) := by unfold rdT; rw [h]; simp
    rw [h] at hc
    unfold rdV at hc
    have E2 := Lib.hid e2; clear e2 h
    have HC := Lib.hid hc; clear hc
    go_enter Tryz.func215, Tryz.ntmps215
    go_wp2_with fail
    refine HC.out.mono ?_
    rintro e w' ⟨rfl, rfl⟩
    go_wp2
    go_ret3
    exact ⟨by rw [E2.out]; rfl, rfl⟩
  · have e2 : rdT s.data.toList most = ([], 0, 7) := by unfold rdT; rw [h]; simp
    rw [h] at hc
    unfold rdV at hc
    have E2 := Lib.hid e2; clear e2 h
    have HC := Lib.hid hc; clear hc
    go_enter Tryz.func215, Tryz.ntmps215
    go_wp2_with fail
    refine HC.out.mono ?_
    rintro e w' ⟨rfl, rfl⟩
    go_wp2
    go_ret3
    exact ⟨by rw [E2.out]; rfl, rfl⟩
end Go.Proofs.YtbgchhgdlceceaaGreatDoor.Pack

namespace Go.Proofs.YtbgchhgdlceceaaGreatDoor.Pack
open Go.RowKit

/-! ### ReadNumber -/

/-! ### ReadText, Sum -/

open Crc

end Go.Proofs.YtbgchhgdlceceaaGreatDoor.Pack

namespace Go.Proofs.YtbgchhgdlceceaaGreatDoor.Subj
open Go.RowKit

theorem overlap_step (f g : List Tok) (k : Nat) (hf : k < f.length) (hg : k < g.length) : overlap (f.drop k) (g.drop k) =
    if (f.getD k [] == [62] || g.getD k [] == [62]) = true then true else (f.getD k [] == g.getD k [] || f.getD k [] == [42] || g.getD k [] == [42]) && overlap (f.drop (k + 1)) (g.drop (k + 1)) := by
  have h1 : f.drop k = f.getD k [] :: f.drop (k + 1) := by
    rw [List.drop_eq_getElem_cons hf]; simp [List.getD, hf]
  have h2 : g.drop k = g.getD k [] :: g.drop (k + 1) := by
    rw [List.drop_eq_getElem_cons hg]; simp [List.getD, hg]
  rw [h1, h2]
  rfl

theorem overlap_end (f g : List Tok) (k : Nat) (hf : k ≤ f.length) (hg : k ≤ g.length) (h : k = f.length ∨ k = g.length) : overlap (f.drop k) (g.drop k) = decide (f.length = g.length) := by
  rcases h with rfl | rfl
  · rw [List.drop_length]
    simp only [overlap]
    rw [Bool.eq_iff_iff]
    simp
    omega
  · rw [List.drop_length]
    cases hq : f.drop g.length with
    | nil =>
      simp only [overlap]
      have := congrArg List.length hq
      simp at this
      simp; omega
    | cons x xs =>
      simp only [overlap]
      have := congrArg List.length hq
      simp at this
      simp; omega

/-! ### both -/

def pairErr (f g : List UInt8) : Nat := if err true f ≠ 0 then err true f else err true g

def BothPost (w : World) (lf lg : List Tok) (er : Nat) (e : Ending) (w' : World) : Prop :=
  Below w.heap.size w w' ∧ ((er = 0 ∧ ∃ g1 g2, e = .returned (.tuple #[.slice (some ⟨g1, 0, none⟩) lf.length lf.length, .slice (some ⟨g2, 0, none⟩) lg.length lg.length, .int .i64 0]) ∧ StrsAt w' g1 0 lf ∧ StrsAt w' g2 0 lg) ∨
    (er ≠ 0 ∧ e = .returned (.tuple #[.slice none 0 0, .slice none 0 0, .int .i64 er])))

set_option maxRecDepth 100000 in
theorem both_any (f g : ByteArray) (w : World) (hf : f.size ≤ 1048576) (hg : g.size ≤ 1048576) (hm : ML w) :
    Calls Tryz.prog 235 #[.string f, .string g] w (BothPost w (pieces f.data.toList) (pieces g.data.toList) (pairErr f.data.toList g.data.toList)) := by
  have h1 := split_any f true w hf hm
  have h2 := fun w hm => split_any g true w hg hm
  obtain ⟨r, hr⟩ : ∃ r, pairErr f.data.toList g.data.toList = r := ⟨_, rfl⟩
  rw [hr]
  unfold pairErr at hr
  have H1 := Lib.hid h1; have H2 := Lib.hid h2; have HR := Lib.hid hr
  clear h1 h2 hr
  generalize err true f.data.toList = e1 at *
  generalize err true g.data.toList = e2 at *
  generalize pieces f.data.toList = lf at *
  generalize pieces g.data.toList = lg at *
  go_enter Tryz.func235, Tryz.ntmps235
  go_wp2_with fail
  refine H1.out.mono ?_
  rintro e w1 ⟨hb, ⟨rfl, rfl, hst⟩ | ⟨h0, rfl⟩⟩
  · have HST := Lib.hid hst; clear hst
    have hm1 := Lib.hid (hm.below hb)
    go_wp2_with fail
    refine (H2.out _ hm1.out).mono ?_
    rintro e w2 ⟨hb2, ⟨rfl, rfl, hst2⟩ | ⟨h0, rfl⟩⟩
    · have hstf := HST.out.below hb2
      have HSF := Lib.hid hstf; have HS2 := Lib.hid hst2; clear hstf hst2
      have hbb := hb.trans (hb2.mono hb.size)
      have hr : r = 0 := by rw [← HR.out]; simp
      have HRR := Lib.hid hr; clear hr
      go_wp2
      go_ret3
      exact ⟨hbb, .inl ⟨HRR.out, _, _, rfl, HSF.out, HS2.out⟩⟩
    · have h0' : ((e2 : Int) == 0) = false := by simp; omega
      have hbb := hb.trans (hb2.mono hb.size)
      have hr : r = e2 := by rw [← HR.out]; simp
      have HRR := Lib.hid hr; have H0 := Lib.hid h0
      clear hr h0
      go_wp2
      go_ret3
      exact ⟨hbb, .inr ⟨by rw [HRR.out]; exact H0.out, by rw [HRR.out]; rfl⟩⟩
  · have h0' : ((e1 : Int) == 0) = false := by simp; omega
    have hr : r = e1 := by rw [← HR.out]; simp [h0]
    have HRR := Lib.hid hr; have H0 := Lib.hid h0
    clear hr h0
    go_wp2
    go_ret3
    exact ⟨hb, .inr ⟨by rw [HRR.out]; exact H0.out, by rw [HRR.out]; rfl⟩⟩

/-- What Overlap answers. -/
def overlapR (f g : List UInt8) : Bool × Nat := if pairErr f g ≠ 0 then (false, pairErr f g) else (overlap (pieces f) (pieces g), 0)
set_option maxRecDepth 100000 in
theorem overlap_any (f g : ByteArray) (w : World) (hf : f.size ≤ 1048576) (hg : g.size ≤ 1048576) (hm : ML w) :
    Calls Tryz.prog 209 #[.string f, .string g] w fun e w' => e = .returned (beV (overlapR f.data.toList g.data.toList)) ∧ Below w.heap.size w w' := by
  have h1 := both_any f g w hf hg hm
  have hl1 := pieces_size f hf
  have hl2 := pieces_size g hg
  obtain ⟨r, hr⟩ : ∃ r, overlapR f.data.toList g.data.toList = r := ⟨_, rfl⟩
  rw [hr]
  unfold overlapR at hr
  have H1 := Lib.hid h1; have HR := Lib.hid hr
  clear h1 hr
  generalize pairErr f.data.toList g.data.toList = er at *
  generalize pieces f.data.toList = lf at *
  generalize pieces g.data.toList = lg at *
  go_enter Tryz.func209, Tryz.ntmps209
  go_wp2_with fail
  refine H1.out.mono ?_
  rintro e w' ⟨hb, ⟨rfl, g1, g2, rfl, hs1, hs2⟩ | ⟨h0, rfl⟩⟩
  · have hr : r = (overlap lf lg, 0) := by rw [← HR.out]; simp
    obtain ⟨x, hx⟩ : ∃ x, overlap lf lg = x := ⟨_, rfl⟩
    rw [hx] at hr
    subst hr
    have HF := Lib.hid hs1; have HG := Lib.hid hs2
    obtain ⟨n, hn⟩ : ∃ n, lf.length = n := ⟨_, rfl⟩
    obtain ⟨m, hm'⟩ : ∃ m, lg.length = m := ⟨_, rfl⟩
    rw [hn] at hl1; rw [hm'] at hl2
    rw [hn, hm']
    have HX := Lib.hid hx; have HN := Lib.hid hn; have HM := Lib.hid hm'
    clear hs1 hs2 hx hn hm'
    go_wp2
    go_loopw [9] (fun i wr => ∃ k : Nat, k ≤ n ∧ k ≤ m ∧ i = .int .i64 k ∧ Hid (overlap (lf.drop k) (lg.drop k) = x) ∧ Hid (StrsAt wr g1 0 lf) ∧ Hid (StrsAt wr g2 0 lg) ∧ Below w.heap.size w wr) (fun i _ => n - (intOf i).toNat)
    case atStart => exact ⟨0, Nat.zero_le _, Nat.zero_le _, rfl, HX, HF, HG, hb⟩
    case round =>
      clear HF HG hb
      obtain ⟨k, hk, hkm, rfl, HK, HF, HG, hb⟩ := hrel
      by_cases c1 : k = n
      · have hend := overlap_end lf lg k (by rw [HN.out]; exact hk) (by rw [HM.out]; exact hkm) (.inl (by rw [HN.out]; exact c1))
        rw [HK.out, HN.out, HM.out] at hend
        have HE := Lib.hid hend; clear hend
        have d1 : ((k : Int) == (n : Int)) = true := by simp [c1]
        clear c1
        go_wp2
        go_ret2
        refine ⟨?_, hb⟩
        rw [HE.out]
        show Ending.returned (.tuple #[.bool _, _]) = Ending.returned (.tuple #[.bool _, _])
        rw [show ((n : Int) == (m : Int)) = decide (n = m) by rw [Bool.eq_iff_iff]; simp; omega]; rfl
      · have d1 : ((k : Int) == (n : Int)) = false := by simp; omega
        have hkn : k < n := by omega
        clear c1
        by_cases c2 : k = m
        · have hend := overlap_end lf lg k (by rw [HN.out]; exact hk) (by rw [HM.out]; exact hkm) (.inr (by rw [HM.out]; exact c2))
          rw [HK.out, HN.out, HM.out] at hend
          have HE := Lib.hid hend; clear hend
          have d2 : ((k : Int) == (m : Int)) = true := by simp [c2]
          clear c2
          go_wp2
          go_ret2
          refine ⟨?_, hb⟩
          rw [HE.out]
          show Ending.returned (.tuple #[.bool _, _]) = Ending.returned (.tuple #[.bool _, _])
          rw [show ((n : Int) == (m : Int)) = decide (n = m) by rw [Bool.eq_iff_iff]; simp; omega]; rfl
        · have d2 : ((k : Int) == (m : Int)) = false := by simp; omega
          have hkm' : k < m := by omega
          clear c2
          have hstep := overlap_step lf lg k (by rw [HN.out]; exact hkn) (by rw [HM.out]; exact hkm')
          rw [HK.out] at hstep
          have hc1 := HF.out k (by rw [HN.out]; exact hkn)
          have hc2 := HG.out k (by rw [HM.out]; exact hkm')
          rw [Nat.zero_add] at hc1 hc2
          have l1 := strAt_toList lf k
          have l2 := strAt_toList lg k
          generalize strAt lf k = p at *
          generalize strAt lg k = q at *
          rw [← l1, ← l2] at hstep
          clear l1 l2
          have HS := Lib.hid hstep; clear hstep
          have hnext : ∀ d, overlap (List.drop (k + 1) lf) (List.drop (k + 1) lg) = x → ∃ k' : Nat, k' ≤ n ∧ k' ≤ m ∧ Value.int .i64 ((k : Int) + 1) = .int .i64 k' ∧ Hid (overlap (lf.drop k') (lg.drop k') = x) ∧ Hid (StrsAt (World.drewN wr d) g1 0 lf) ∧ Hid (StrsAt (World.drewN wr d) g2 0 lg) ∧ Below w.heap.size w (World.drewN wr d) := fun d h => ⟨k + 1, by omega, by omega, by go_num, h, HF.out, HG.out, below_drewN hb d⟩
          have HX2 := Lib.hid hnext; clear hnext
          by_cases x1 : p.toList = [62]
          · have bx1 : (p.toList == [62]) = true := by simp [x1]
            clear x1
            have B := HS.out
            simp only [bx1, Bool.true_or, if_true] at B
            have HB := Lib.hid B; clear B
            go_wp2
            go_ret2
            exact ⟨by rw [HB.out]; rfl, hb⟩
          · have bx1 : (p.toList == [62]) = false := by simp [x1]
            clear x1
            by_cases x2 : q.toList = [62]
            · have bx2 : (q.toList == [62]) = true := by simp [x2]
              clear x2
              have B := HS.out
              simp only [bx1, bx2, Bool.or_true, if_true] at B
              have HB := Lib.hid B; clear B
              go_wp2
              go_ret2
              exact ⟨by rw [HB.out]; rfl, hb⟩
            · have bx2 : (q.toList == [62]) = false := by simp [x2]
              clear x2
              by_cases x3 : p.toList = q.toList
              · have bx3 : (p.toList == q.toList) = true := by simp [x3]
                clear x3
                have B := HS.out
                simp only [bx1, bx2, bx3, Bool.true_or, Bool.or_false, Bool.false_eq_true, if_false, Bool.true_and] at B
                have HB := Lib.hid B.symm; clear B
                go_wp2
                go_quiet (fail)
                go_wp2
                exact ⟨HX2.out _ HB.out, by simp [intOf]; omega⟩
              · have bx3 : (p.toList == q.toList) = false := by simp [x3]
                clear x3
                by_cases x4 : p.toList = [42]
                · have bx4 : (p.toList == [42]) = true := by simp [x4]
                  clear x4
                  have B := HS.out
                  simp only [bx1, bx2, bx3, bx4, Bool.true_or, Bool.or_true, Bool.or_false, Bool.false_eq_true, if_false, Bool.true_and] at B
                  have HB := Lib.hid B.symm; clear B
                  go_wp2
                  go_quiet (fail)
                  go_wp2
                  exact ⟨HX2.out _ HB.out, by simp [intOf]; omega⟩
                · have bx4 : (p.toList == [42]) = false := by simp [x4]
                  clear x4
                  by_cases x5 : q.toList = [42]
                  · have bx5 : (q.toList == [42]) = true := by simp [x5]
                    clear x5
                    have B := HS.out
                    simp only [bx1, bx2, bx3, bx4, bx5, Bool.or_true, Bool.or_false, Bool.false_eq_true, if_false, Bool.true_and] at B
                    have HB := Lib.hid B.symm; clear B
                    go_wp2
                    go_quiet (fail)
                    go_wp2
                    exact ⟨HX2.out _ HB.out, by simp [intOf]; omega⟩
                  · have bx5 : (q.toList == [42]) = false := by simp [x5]
                    clear x5
                    have B := HS.out
                    simp only [bx1, bx2, bx3, bx4, bx5, Bool.or_false, Bool.false_eq_true, if_false, Bool.false_and] at B
                    have HB := Lib.hid B; clear B
                    go_wp2
                    go_quiet (fail)
                    go_wp2
                    go_ret2
                    exact ⟨by rw [HB.out]; rfl, below_drewN hb _⟩
  · have h0' : ((er : Int) == 0) = false := by simp; omega
    have hr : r = (false, er) := by rw [← HR.out]; simp [h0]
    have HRR := Lib.hid hr
    clear hr h0
    go_wp2
    go_ret2
    exact ⟨by rw [HRR.out]; rfl, hb⟩

end Go.Proofs.YtbgchhgdlceceaaGreatDoor.Subj

namespace Go.Proofs.YtbgchhgdlceceaaGreatDoor.Subj
open Go.RowKit

end Go.Proofs.YtbgchhgdlceceaaGreatDoor.Subj

namespace Go.Proofs.YtbgchhgdlceceaaGreatDoor.Subj
open Go.RowKit
end Go.Proofs.YtbgchhgdlceceaaGreatDoor.Subj
