/- The law PackSums, walked: it returns true. -/
import Derived.Test.YtmgahcmlnfdhcaaPackWalks
import Derived.Test.YtmgahcmlnfdhcaaFlipPlain
namespace Go.Proofs.Ytmgahcmlnfdhcaa.Pack
open Go.RowKit Crc

/-- Block g holds these bytes, and may be written. -/
def HoldsBytes (w : World) (g : Nat) (l : List UInt8) : Prop :=
  ∀ j, j < l.length → w.cell? ⟨g, j, none⟩ = some (.int .u8 (l.getD j 0).toNat) ∧ w.frozen? ⟨g, j, none⟩ = false

theorem holdsBytes_conv (w : World) (s : ByteArray) (e : TypeId) (n : Nat) :
    HoldsBytes (w.drew.alloc (.cells (bytesRow s n) e ((bytesRow s n).size, (bytesRow s n).size + 1))) w.heap.size s.data.toList := by
  intro j hj
  have hj' : j < s.size := by simpa using hj
  have hb : (w.drew.alloc (.cells (bytesRow s n) e ((bytesRow s n).size, (bytesRow s n).size + 1))).heap[w.heap.size]? = some (.cells (bytesRow s n) e ((bytesRow s n).size, (bytesRow s n).size + 1)) := heap_alloc_new w.drew _
  have h1 := bytesRow_at s n j hj'
  have hlt : j < (bytesRow s n).size := (Array.getElem?_eq_some_iff.1 h1).1
  constructor
  · unfold World.cell?
    simp only [hb]
    have e1 : s.data.toList.getD j 0 = s.data[j] := by
      rw [List.getD_eq_getElem?_getD, List.getElem?_eq_getElem hj]
      simp
    rw [e1]
    simpa using h1
  · unfold World.frozen?
    simp only [hb]
    simp
    omega

theorem holdsBytes_set {w : World} {g : Nat} {l : List UInt8} (h : HoldsBytes w g l) (q : Nat) (b : UInt8) (hq : q < l.length) :
    HoldsBytes (w.setCell ⟨g, q, none⟩ (.int .u8 b.toNat)) g (l.set q b) := by
  intro j hj
  rw [List.length_set] at hj
  refine ⟨?_, (World.frozen?_setCell _ _ _ _).trans (h j hj).2⟩
  by_cases e : j = q
  · subst e
    rw [List.getD_eq_getElem?_getD, List.getElem?_set_self hj]
    exact World.cell?_setCell_same' _ _ _ (by rw [(h j hj).1]; rfl)
  · rw [List.getD_eq_getElem?_getD, List.getElem?_set_ne (by omega), ← List.getD_eq_getElem?_getD]
    rw [World.cell?_setCell_other _ _ _ _ (by intro h2; exact e (by simpa using h2.symm))]
    exact (h j hj).1

theorem bit_of (t i : Nat) (ht : t < 2 ^ 32) : (bits .and .u32 ((t : Int) / 2 ^ i) 1 == 1) = t.testBit i := by
  have e : ((t : Int) / 2 ^ i) = ((t / 2 ^ i : Nat) : Int) := by simp
  have hle : t / 2 ^ i ≤ t := Nat.div_le_self _ _
  have h1 := bits_and1 (BitVec.ofNat 32 (t / 2 ^ i))
  have e2 : (BitVec.ofNat 32 (t / 2 ^ i)).toNat = t / 2 ^ i := by rw [BitVec.toNat_ofNat]; exact Nat.mod_eq_of_lt (by omega)
  rw [lsb_mod, e2] at h1
  rw [e, h1, Nat.testBit_eq_decide_div_mod_eq]

theorem xor_u8 (b : UInt8) (r : Nat) (hr : r < 8) : bits .xor .u8 (b.toNat : Int) (2 ^ r % 256) = (((b ^^^ UInt8.ofNat (2 ^ r)).toNat : Nat) : Int) := by
  have hp : 2 ^ r < 256 := by
    have : 2 ^ r ≤ 2 ^ 7 := Nat.pow_le_pow_right (by decide) (by omega)
    omega
  have hb := b.toNat_lt
  have e : ((2 : Int) ^ r % 256) = ((2 ^ r : Nat) : Int) := by
    have h1 : (2 : Int) ^ r = ((2 ^ r : Nat) : Int) := by simp
    rw [h1]
    generalize 2 ^ r = z at *
    omega
  show IntKind.u8.wrap (((BitVec.ofInt 8 (b.toNat : Int) ^^^ BitVec.ofInt 8 (2 ^ r % 256)).toNat : Nat) : Int) = _
  rw [e, BitVec.ofInt_natCast, BitVec.ofInt_natCast, BitVec.toNat_xor, BitVec.toNat_ofNat, BitVec.toNat_ofNat, Nat.mod_eq_of_lt (by omega), Nat.mod_eq_of_lt (by omega)]
  rw [UInt8.toNat_xor, UInt8.toNat_ofNat', Nat.mod_eq_of_lt hp]
  have hx : b.toNat ^^^ 2 ^ r < 2 ^ 8 := Nat.xor_lt_two_pow hb hp
  simp [IntKind.wrap, IntKind.signed, IntKind.bits]
  omega

set_option maxRecDepth 100000 in
theorem packSums_walk (a0 : ByteArray) (a1 a2 : Int) (w0 : a0.size ≤ 140737488351232) (w1 : (Lit.int .i64 a1).wf = true) (w2 : (Lit.int .u32 a2).wf = true) (w : World) :
    Calls Try.prog 4 #[.string a0, .int .i64 a1, .int .u32 a2] w fun e w' => e = .returned (.bool true) ∧ Below w.heap.size w w' := by
  have b2 : 0 ≤ a2 ∧ a2 ≤ 4294967295 := by
    have := w2; simp [Lit.wf, IntKind.min, IntKind.max, IntKind.signed, IntKind.bits] at this; omega
  obtain ⟨b20, b21⟩ := b2
  clear w1 w2
  have hm : a0.size ≤ maxLen := by unfold maxLen; omega
  have h9 : (((Crc.crcL [49, 50, 51, 52, 53, 54, 55, 56, 57]).toNat : Nat) : Int) = 3421780262 := by decide +kernel
  have H9 := Lib.hid h9; clear h9
  have c1 := sum_any ⟨#[49, 50, 51, 52, 53, 54, 55, 56, 57]⟩ w (by decide)
  rw [H9.out] at c1
  have C1 := Lib.hid c1; clear c1
  by_cases hlt : a0.size < 4
  · go_enter Try.func4, Try.ntmps4
    go_wp2_with fail
    refine C1.out.mono ?_
    rintro e w' ⟨rfl, rfl⟩
    go_wp2
    go_ret
    exact ⟨rfl, Below.refl _ _⟩
  · by_cases hz : a2 = 0
    · have hz' : (a2 == 0) = true := by simp [hz]
      clear hz
      go_enter Try.func4, Try.ntmps4
      go_wp2_with fail
      refine C1.out.mono ?_
      rintro e w' ⟨rfl, rfl⟩
      go_wp2
      go_ret
      exact ⟨rfl, Below.refl _ _⟩
    · have hz' : (a2 == 0) = false := by simpa using hz
      obtain ⟨t, rfl⟩ : ∃ t : Nat, a2 = t := ⟨a2.toNat, by omega⟩
      have hk0 := Int.emod_nonneg a1 (show (8 * (a0.size : Int) - 31) ≠ 0 by omega)
      have hk1 := Int.emod_lt_of_pos a1 (show 0 < (8 * (a0.size : Int) - 31) by omega)
      obtain ⟨k, hk⟩ : ∃ k : Nat, a1 % (8 * (a0.size : Int) - 31) = k := ⟨(a1 % (8 * (a0.size : Int) - 31)).toNat, by omega⟩
      have HK := Lib.hid hk
      rw [hk] at hk0 hk1
      clear hk
      have hsum := flips_sum a0.data.toList t k (by omega) (by omega) (by rw [show a0.data.toList.length = a0.size by simp]; omega)
      have HS := Lib.hid hsum; clear hsum
      have hcv := fun (w : World) => run_bytes_of_string (P := Try.prog) w 9 28 5 a0 Try.underlying9 Try.underlying28 Try.underlying5
      go_enter Try.func4, Try.ntmps4
      go_wp2_with fail
      refine C1.out.mono ?_
      rintro e w' ⟨rfl, rfl⟩
      go_wp2_with fail
      refine (rest_any _ _ _ (by omega) (by omega)).mono ?_
      rintro e w' ⟨rfl, rfl⟩
      rw [HK.out]
      clear HK
      have hst := holdsBytes_conv w a0 5 (grownCap w a0.size 0 5)
      have hb0 : Below w.heap.size w (w.drew.alloc (.cells (bytesRow a0 (grownCap w a0.size 0 5)) 5 ((bytesRow a0 (grownCap w a0.size 0 5)).size, (bytesRow a0 (grownCap w a0.size 0 5)).size + 1))) := (Below.refl _ _).drew.alloc (Nat.le_refl _) _
      have hcv0 := hcv w
      clear hcv
      generalize w.drew.alloc (.cells (bytesRow a0 (grownCap w a0.size 0 5)) 5 ((bytesRow a0 (grownCap w a0.size 0 5)).size, (bytesRow a0 (grownCap w a0.size 0 5)).size + 1)) = W0 at *
      have HST := Lib.hid hst; clear hst
      go_wp2
      clear hcv0
      go_loopw [27, 9] (fun c _ wr => ∃ i : Nat, i ≤ 32 ∧ c = .int .i64 i ∧ Hid (HoldsBytes wr w.heap.size (flips t k i a0.data.toList)) ∧ Below w.heap.size w wr) (fun c _ _ => 32 - (intOf c).toNat)
      case atStart => exact ⟨0, by omega, rfl, HST, hb0⟩
      case round =>
        obtain ⟨i, hi, rfl, H, hb⟩ := hrel
        by_cases hi32 : i < 32
        · have hlen : (flips t k i a0.data.toList).length = a0.size := by rw [flips_length]; simp
          have hq : (k + i) / 8 < a0.size := by omega
          obtain ⟨hc, hf⟩ := H.out ((k + i) / 8) (by omega)
          have HL := Lib.hid hlen; clear hlen
          by_cases hbit : (bits .and .u32 ((t : Int) / 2 ^ i) 1 == 1) = true
          · go_wp2
            go_region
            go_wp2
            go_roundw
            case rel =>
              refine ⟨i + 1, by omega, by go_num, ?_, hb.drew.setCell (p := ⟨w.heap.size, (k + i) / 8, none⟩) (Nat.le_refl _) _⟩
              have hs := holdsBytes_set H.out ((k + i) / 8) ((flips t k i a0.data.toList).getD ((k + i) / 8) 0 ^^^ UInt8.ofNat (2 ^ ((k + i) % 8))) (by rw [HL.out]; exact hq)
              rw [bit_of t i (by omega)] at hbit
              have e : flips t k (i + 1) a0.data.toList = flip (flips t k i a0.data.toList) (k + i) := by
                conv => lhs; unfold flips
                rw [if_pos hbit]
              show HoldsBytes _ _ _
              rw [e, ← List.getD_eq_getElem?_getD, xor_u8 _ _ (by omega)]
              exact hs
            case measure => simp [intOf]; omega
          · have hbit' : (bits .and .u32 ((t : Int) / 2 ^ i) 1 == 1) = false := by simpa using hbit
            go_wp2
            go_roundw
            case rel =>
              refine ⟨i + 1, by omega, by go_num, ?_, hb⟩
              rw [bit_of t i (by omega)] at hbit'
              have e : flips t k (i + 1) a0.data.toList = flips t k i a0.data.toList := by
                conv => lhs; unfold flips
                rw [if_neg (by simp [hbit'])]
              rw [e]
              exact H
            case measure => simp [intOf]; omega
        · obtain rfl : i = 32 := by omega
          have hlen : (flips t k 32 a0.data.toList).length = a0.size := by rw [flips_length]; simp
          have hconv := run_string_cells (P := Try.prog) (w := wr) 28 9 5 ⟨w.heap.size, 0, none⟩ (grownCap w a0.size 0 5) (flips t k 32 a0.data.toList) Try.underlying28 Try.underlying5 Try.underlying9 (fun j hj => by rw [Addr.add_lit, Nat.zero_add]; exact (H.out j hj).1)
          rw [hlen] at hconv
          have hm2 : (⟨(flips t k 32 a0.data.toList).toArray⟩ : ByteArray).size ≤ maxLen := by
            show (flips t k 32 a0.data.toList).toArray.size ≤ maxLen
            rw [List.size_toArray, hlen]; exact hm
          have HL := Lib.hid hlen; clear hlen
          have d1 := fun w => sum_any ⟨(flips t k 32 a0.data.toList).toArray⟩ w hm2
          have d2 := fun w => sum_any a0 w hm
          have hne : ((((crcL (flips t k 32 a0.data.toList)).toNat : Nat) : Int) != (((crcL a0.data.toList).toNat : Nat) : Int)) = true := by
            rw [bne_iff_ne]
            intro e
            exact HS.out (BitVec.eq_of_toNat_eq (by omega)).symm
          have HN := Lib.hid hne; clear hne
          rw [show (⟨(flips t k 32 a0.data.toList).toArray⟩ : ByteArray).data.toList = flips t k 32 a0.data.toList by simp] at d1
          generalize (⟨(flips t k 32 a0.data.toList).toArray⟩ : ByteArray) = U at *
          generalize (((crcL (flips t k 32 a0.data.toList)).toNat : Nat) : Int) = x at *
          generalize (((crcL a0.data.toList).toNat : Nat) : Int) = y at *
          have D1 := Lib.hid d1; have D2 := Lib.hid d2; clear d1 d2
          have hne := HN.out
          go_wp2_with fail
          refine (D1.out _).mono ?_
          rintro e w' ⟨rfl, rfl⟩
          go_wp2_with fail
          refine (D2.out _).mono ?_
          rintro e w' ⟨rfl, rfl⟩
          go_wp2
          go_ret
          exact ⟨rfl, hb⟩
end Go.Proofs.Ytmgahcmlnfdhcaa.Pack
