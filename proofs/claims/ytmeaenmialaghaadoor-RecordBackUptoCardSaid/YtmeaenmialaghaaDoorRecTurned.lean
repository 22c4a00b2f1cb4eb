/- The law RecordTurned, walked. -/
import Derived.Test.YtmeaenmialaghaaDoorRecBack
namespace Go.Proofs.YtmeaenmialaghaaDoor.Subj
open Go.RowKit Pack Crc Rec

set_option maxHeartbeats 2000000 in
set_option maxRecDepth 100000 in
theorem recordTurned_bad (k q t : Int) (s h d : ByteArray) (a : Int) (w : World) (hs : s.size ≤ 1048576) (hh : h.size ≤ 1048576) (hd : d.size ≤ 1048576) (hm : ML w) (her : recErr (rcOf k q t s h d) ≠ 0) :
    Calls Tryd.prog 11 #[.agg (recA k q t s h d), .int .i64 a] w (IsRet w true) := by
  have hI0 := Inv.refl (ml_alloc hm (.cells (recA k q t s h d) 32))
  have HM := Lib.hid hm
  obtain ⟨w0, hw0⟩ : ∃ w0, w.alloc (.cells (recA k q t s h d) 32) = w0 := ⟨_, rfl⟩
  have k2 : ∀ W, Inv w0 W → Calls Tryd.prog 28 #[.agg (recA k q t s h d)] W (SERet w0 ByteArray.empty (recErr (rcOf k q t s h d))) :=
    fun W hI => (encode_bad k q t s h d W hs hh hd hI.1 her).mono fun _ _ ⟨a, b⟩ => ⟨a, hI.step b⟩
  obtain ⟨C, hC, hC15, hC0, hC10⟩ := note_coded2
  have k3 := note_inv (w0 := w0) 2
  have k4 := encNote_inv (w0 := w0) 2 note_ok2
  rw [hC] at k4
  have h0 := dec0 her
  have h1 : ((recErr (rcOf k q t s h d) : Int) != 0) = true := by rw [bne, h0]; rfl
  have y2 : (((C[2]'hC0).toNat : Int) != 2) = false := by rw [hC10]; rfl
  subst hw0
  generalize recErr (rcOf k q t s h d) = er at *
  clear her hm hs hh hd hC hC10
  unfold recA at *
  have K2 := Lib.hid k2; have K3 := Lib.hid k3; have K4 := Lib.hid k4
  clear k2 k3 k4
  go_enter Tryd.func11, Tryd.ntmps11
  repeat
    go_wp2_with fail
    with_reducible first
      | refine Calls.mono (K2.out _ (by assumption)) ?_
      | refine Calls.mono (K3.out _ (by assumption)) ?_
      | refine Calls.mono (K4.out _ (by assumption)) ?_
    rintro e w' ⟨rfl, hI⟩
    have hcc := inv_cells hI
  go_wp2
  go_ret
  exact ⟨by simp, inv_out HM.out (by assumption)⟩

set_option maxHeartbeats 2000000 in
set_option maxRecDepth 100000 in
theorem recordTurned_ok (k q t : Int) (s h d : ByteArray) (a : Int) (w : World) (hs : s.size ≤ 1048576) (hh : h.size ≤ 1048576) (hd : d.size ≤ 1048576) (hm : ML w) (her : recErr (rcOf k q t s h d) = 0) :
    Calls Tryd.prog 11 #[.agg (recA k q t s h d), .int .i64 a] w (IsRet w true) := by
  have hI0 := Inv.refl (ml_alloc hm (.cells (recA k q t s h d) 32))
  have HM := Lib.hid hm
  obtain ⟨w0, hw0⟩ : ∃ w0, w.alloc (.cells (recA k q t s h d) 32) = w0 := ⟨_, rfl⟩
  have k2 : ∀ W, Inv w0 W → Calls Tryd.prog 28 #[.agg (recA k q t s h d)] W (SERet w0 ⟨(codedL (rcOf k q t s h d)).toArray⟩ 0) :=
    fun W hI => (encode_ok k q t s h d W hs hh hd hI.1 her).mono fun _ _ ⟨a, b⟩ => ⟨a, hI.step b⟩
  obtain ⟨B, hB⟩ : ∃ B : ByteArray, (⟨(codedL (rcOf k q t s h d)).toArray⟩ : ByteArray) = B := ⟨_, rfl⟩
  rw [hB] at k2
  have hBl : B.data.toList = codedL (rcOf k q t s h d) := by rw [← hB]
  have hBs : B.size = (codedL (rcOf k q t s h d)).length := by rw [← hB, size_list]
  obtain ⟨hb1, hb2⟩ := bodyL_len her
  obtain ⟨hK1, hBk, hK2⟩ := coded_front her
  have hnl := numL_len (bodyL (rcOf k q t s h d)).length
  have hB1 : B.size ≤ 1037 := by omega
  obtain ⟨n, hn⟩ : ∃ n : Nat, (rdN B.data.toList).1 = n := ⟨_, rfl⟩
  obtain ⟨u, hu⟩ : ∃ u : Nat, (numL (bodyL (rcOf k q t s h d)).length).length = u := ⟨_, rfl⟩
  rw [← hBl, hu] at hK1
  rw [← hBl] at hK2
  have k8 : ∀ W, Calls Tryd.prog 34 #[.string B] W fun e w' => e = .returned (.tuple #[.int .i64 n, .int .i64 u, .int .i64 0]) ∧ W = w' := fun W => by
    have := readNumber_any B W (by unfold maxLen; omega)
    have e : rdN B.data.toList = (n, u, 0) := by rw [← hn, ← hK1, ← hK2]
    rw [e] at this
    exact this
  rw [hu] at hnl hBk
  have hus : u + 10 ≤ B.size := by omega
  obtain ⟨j, hj⟩ : ∃ j : Nat, a % (8 * ((B.size : Int) - u)) = j := ⟨(a % (8 * ((B.size : Int) - u))).toNat, by have := Int.emod_nonneg a (show (8 * ((B.size : Int) - u)) ≠ 0 by omega); omega⟩
  have hjl : j < 8 * (B.size - u) := by have := Int.emod_lt_of_pos a (show 0 < (8 * ((B.size : Int) - u)) by omega); omega
  have hdec : decL (flip B.data.toList (8 * u + j)) = (Rc.zero, 0, 7) := by
    rw [hBl, ← hu]
    exact decL_turned her j (by omega)
  have k7 : ∀ W, Calls Tryd.prog 33 #[.int .i64 a, .int .i64 (8 * ((B.size : Int) - u))] W fun e w' => e = .returned (.int .i64 j) ∧ W = w' := fun W => by
    rw [← hj]; exact rest_any a (8 * ((B.size : Int) - u)) W (by omega) (by omega)
  clear hb1 hb2 hBk hnl hK1 hK2 hBl hBs hj hn hu
  obtain ⟨C, hC, hC15, hC0, hC10⟩ := note_coded2
  have k3 := note_inv (w0 := w0) 2
  have k4 := encNote_inv (w0 := w0) 2 note_ok2
  rw [hC] at k4
  have y2 : (((C[2]'hC0).toNat : Int) != 2) = false := by rw [hC10]; rfl
  subst hw0
  clear her hm hs hh hd hC hC10 hB
  unfold recA at *
  have K2 := Lib.hid k2; have K3 := Lib.hid k3; have K4 := Lib.hid k4; have K7 := Lib.hid k7; have K8 := Lib.hid k8
  have HD := Lib.hid hdec
  clear k2 k3 k4 k7 k8 hdec
  have hcv := fun (w : World) => run_bytes_of_string (P := Tryd.prog) w 9 45 5 B Tryd.underlying9 Tryd.underlying45 Tryd.underlying5
  have HCV := Lib.hid hcv; clear hcv
  go_enter Tryd.func11, Tryd.ntmps11
  go_wp2_with fail
  refine Calls.mono (K3.out _ hI0) ?_
  rintro e w1 ⟨rfl, hI1⟩
  go_wp2_with fail
  refine Calls.mono (K4.out _ hI1) ?_
  rintro e w2 ⟨rfl, hI2⟩
  have hcc := inv_cells hI2
  go_wp2_with fail
  refine Calls.mono (K2.out _ hI2) ?_
  rintro e w3 ⟨rfl, hI3⟩
  clear hcc
  go_wp2_with fail
  refine (K8.out _).mono ?_
  rintro e w' ⟨rfl, rfl⟩
  have hst := holdsBytes_conv w3 B 5 (grownCap w3 B.size 0 5)
  have hb0 : Below w3.heap.size w3 (w3.drew.alloc (.cells (bytesRow B (grownCap w3 B.size 0 5)) 5 ((bytesRow B (grownCap w3 B.size 0 5)).size, (bytesRow B (grownCap w3 B.size 0 5)).size + 1))) := (Below.refl _ _).drew.alloc (Nat.le_refl _) _
  have hcv0 := HCV.out w3
  clear HCV
  generalize w3.drew.alloc (.cells (bytesRow B (grownCap w3 B.size 0 5)) 5 ((bytesRow B (grownCap w3 B.size 0 5)).size, (bytesRow B (grownCap w3 B.size 0 5)).size + 1)) = W0 at *
  have HST := Lib.hid hst; clear hst
  go_wp2_with fail
  clear hcv0
  refine (K7.out _).mono ?_
  rintro e w' ⟨rfl, rfl⟩
  have hl : B.data.toList.length = B.size := by simp
  obtain ⟨hc, hf⟩ := HST.out (u + j / 8) (by omega)
  clear hl
  have l1 : (0 : Int) ≤ (u : Int) + (j : Int) / 8 := by omega
  have l2 : (u : Int) + (j : Int) / 8 < (B.size : Int) := by omega
  have hjb : j < 8388608 := by omega
  have hst2 : HoldsBytes ((W0.setCell ⟨w3.heap.size, u + j / 8, none⟩ (.int .u8 (bits .xor .u8 ((B.data[u + j / 8]?.getD 0).toNat : Int) (2 ^ (j % 8) % 256)))).drew) w3.heap.size (flip B.data.toList (8 * u + j)) := by
    have hs := holdsBytes_set HST.out (u + j / 8) (B.data.toList.getD (u + j / 8) 0 ^^^ UInt8.ofNat (2 ^ (j % 8))) (by simp; omega)
    have e : flip B.data.toList (8 * u + j) = B.data.toList.set (u + j / 8) (B.data.toList.getD (u + j / 8) 0 ^^^ UInt8.ofNat (2 ^ (j % 8))) := by
      unfold Crc.flip
      rw [show (8 * u + j) / 8 = u + j / 8 by omega, show (8 * u + j) % 8 = j % 8 by omega]
    have e2 : B.data[u + j / 8]?.getD 0 = B.data.toList.getD (u + j / 8) 0 := by simp [List.getD]
    rw [e, e2, xor_u8 _ _ (by omega)]
    exact hs
  have hb1 : Below w3.heap.size w3 ((W0.setCell ⟨w3.heap.size, u + j / 8, none⟩ (.int .u8 (bits .xor .u8 ((B.data[u + j / 8]?.getD 0).toNat : Int) (2 ^ (j % 8) % 256)))).drew) := (hb0.setCell (p := ⟨w3.heap.size, u + j / 8, none⟩) (Nat.le_refl _) _).drew
  have HST2 := Lib.hid hst2
  have HB1 := Lib.hid hb1
  clear hst2 hb1
  have hfl : (flip B.data.toList (8 * u + j)).length = B.size := by rw [flip_length]; simp
  have HFL := Lib.hid hfl; clear hfl
  go_wp2
  go_region
  clear hc hf hb0 HST
  generalize (W0.setCell ⟨w3.heap.size, u + j / 8, none⟩ (.int .u8 (bits .xor .u8 ((B.data[u + j / 8]?.getD 0).toNat : Int) (2 ^ (j % 8) % 256)))).drew = W1 at *
  have hconv := run_string_cells (P := Tryd.prog) (w := W1) 45 9 5 ⟨w3.heap.size, 0, none⟩ (grownCap w3 B.size 0 5) (flip B.data.toList (8 * u + j)) Tryd.underlying45 Tryd.underlying5 Tryd.underlying9 (fun j' hj' => by rw [Addr.add_lit, Nat.zero_add]; exact (HST2.out j' hj').1)
  rw [HFL.out] at hconv
  have k9 := dec_inv (w0 := w.alloc (.cells #[.int .i64 k, .int .i64 q, .int .i64 t, .string s, .string h, .string d] 32)) ⟨(flip B.data.toList (8 * u + j)).toArray⟩ 0 0 0 ⟨#[]⟩ ⟨#[]⟩ ⟨#[]⟩ 0 7 (HD.out.trans rfl) (by rw [size_list, HFL.out]; unfold maxLen; omega)
  unfold recA at k9
  have K9 := Lib.hid k9; clear k9 HD HST2 HFL
  generalize (⟨(flip B.data.toList (8 * u + j)).toArray⟩ : ByteArray) = U at *
  have hI4 := hI3.step HB1.out
  go_wp2_with fail
  refine Calls.mono (K9.out _ hI4) ?_
  rintro e w5 ⟨rfl, hI5, hb5⟩
  clear hb5 hconv HB1
  go_wp2
  go_ret
  exact ⟨by simp, inv_out HM.out hI5⟩

theorem recordTurned_walk (k q t : Int) (s h d : ByteArray) (a : Int) (w : World) (hs : s.size ≤ 1048576) (hh : h.size ≤ 1048576) (hd : d.size ≤ 1048576) (hm : ML w) :
    Calls Tryd.prog 11 #[.agg (recA k q t s h d), .int .i64 a] w (IsRet w true) := by
  by_cases her : recErr (rcOf k q t s h d) = 0
  · exact recordTurned_ok k q t s h d a w hs hh hd hm her
  · exact recordTurned_bad k q t s h d a w hs hh hd hm her
end Go.Proofs.YtmeaenmialaghaaDoor.Subj
