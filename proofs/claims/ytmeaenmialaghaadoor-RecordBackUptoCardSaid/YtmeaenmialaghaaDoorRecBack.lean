/- The laws RecordBack, RecordTurned, walked. -/
import Derived.Test.YtmeaenmialaghaaDoorRecReads
import Derived.Test.YtmeaenmialaghaaDoorRecTurn
import Derived.Test.YtmeaenmialaghaaDoorBytesRow
import Derived.BigRegion
namespace Go.Proofs.YtmeaenmialaghaaDoor.Subj
open Go.RowKit Pack Crc Rec

theorem note_any (n : Int) (w : World) : Calls Tryd.prog 32 #[.int .i64 n] w fun e w' => e = .returned (.agg (recA 1 n 0 ⟨#[97, 46, 98]⟩ ⟨#[]⟩ ⟨#[120]⟩)) ∧ Below w.heap.size w w' := by
  unfold recA
  go_enter Tryd.func32, Tryd.ntmps32
  go_wp2
  go_returns
  exact ⟨rfl, by go_grown⟩

def noteR (n : Int) : Rc := rcOf 1 n 0 ⟨#[97, 46, 98]⟩ ⟨#[]⟩ ⟨#[120]⟩
theorem note_ok1 : recErr (noteR 1) = 0 := rfl
theorem note_ok2 : recErr (noteR 2) = 0 := rfl

theorem note_coded1 : ∃ C : ByteArray, (⟨(codedL (noteR 1)).toArray⟩ : ByteArray) = C ∧ C.size = 15 ∧ ∃ h : 0 < C.size, (C[0]'h).toNat = 10 := by
  refine ⟨_, rfl, ?_, ?_⟩
  · rw [size_list]; rfl
  · have e : codedL (noteR 1) = 10 :: ([1, 1, 0, 3, 97, 46, 98, 0, 1, 120] ++ sum4 (bodyL (noteR 1))) := rfl
    rw [e]
    exact ⟨by rw [size_list]; simp, rfl⟩
theorem note_coded2 : ∃ C : ByteArray, (⟨(codedL (noteR 2)).toArray⟩ : ByteArray) = C ∧ 3 ≤ C.size ∧ ∃ h : 2 < C.size, (C[2]'h).toNat = 2 := by
  refine ⟨_, rfl, ?_, ?_⟩
  · rw [size_list]; decide
  · have e : codedL (noteR 2) = 10 :: 1 :: 2 :: ([0, 3, 97, 46, 98, 0, 1, 120] ++ sum4 (bodyL (noteR 2))) := rfl
    rw [e]
    exact ⟨by rw [size_list]; simp, rfl⟩

def AggRet (w0 : World) (a : Array Value) (e : Ending) (w' : World) : Prop := e = .returned (.agg a) ∧ Inv w0 w'
def DecRet (w0 W : World) (a : Array Value) (n e : Nat) (r : Ending) (w' : World) : Prop := r = .returned (.tuple #[.agg a, .int .i64 n, .int .i64 e]) ∧ Inv w0 w' ∧ Below W.heap.size W w'

theorem note_inv {w0 : World} (n : Int) (w : World) (h : Inv w0 w) : Calls Tryd.prog 32 #[.int .i64 n] w (AggRet w0 (recA 1 n 0 ⟨#[97, 46, 98]⟩ ⟨#[]⟩ ⟨#[120]⟩)) :=
  (note_any n w).mono fun _ _ ⟨a, b⟩ => ⟨a, h.step b⟩
theorem encNote_inv {w0 : World} (n : Int) (hn : recErr (noteR n) = 0) (w : World) (h : Inv w0 w) : Calls Tryd.prog 28 #[.agg (recA 1 n 0 ⟨#[97, 46, 98]⟩ ⟨#[]⟩ ⟨#[120]⟩)] w (SERet w0 ⟨(codedL (noteR n)).toArray⟩ 0) :=
  (encode_ok 1 n 0 ⟨#[97, 46, 98]⟩ ⟨#[]⟩ ⟨#[120]⟩ w (by show 3 ≤ _; omega) (by show 0 ≤ _; omega) (by show 1 ≤ _; omega) h.1 hn).mono fun _ _ ⟨a, b⟩ => ⟨a, h.step b⟩
theorem dec_inv {w0 : World} (s : ByteArray) (k q t : Int) (S H D : ByteArray) (n e : Nat) (hd : decL s.data.toList = (rcOf k q t S H D, n, e)) (hs : s.size ≤ maxLen) (w : World) (h : Inv w0 w) :
    Calls Tryd.prog 30 #[.string s] w (DecRet w0 w (recA k q t S H D) n e) :=
  (decode_any s w hs h.1).mono fun _ _ ⟨a, b⟩ => ⟨by rw [a, hd]; rfl, h.step b, b⟩

theorem rc_zero : Rc.zero = rcOf 0 0 0 ⟨#[]⟩ ⟨#[]⟩ ⟨#[]⟩ := rfl

set_option maxHeartbeats 2000000 in
set_option maxRecDepth 100000 in
theorem recordBack_bad (k q t : Int) (s h d more : ByteArray) (a : Int) (w : World) (hs : s.size ≤ 1048576) (hh : h.size ≤ 1048576) (hd : d.size ≤ 1048576) (hm : ML w) (her : recErr (rcOf k q t s h d) ≠ 0) :
    Calls Tryd.prog 10 #[.agg (recA k q t s h d), .string more, .int .i64 a] w (IsRet w true) := by
  have hI0 := Inv.refl (ml_alloc hm (.cells (recA k q t s h d) 32))
  have HM := Lib.hid hm
  obtain ⟨w0, hw0⟩ : ∃ w0, w.alloc (.cells (recA k q t s h d) 32) = w0 := ⟨_, rfl⟩
  have k1 : ∀ W, Inv w0 W → Calls Tryd.prog 29 #[.agg (recA k q t s h d)] W (IntRet w0 (recErr (rcOf k q t s h d))) :=
    fun W hI => (check_any k q t s h d W hs hh hd hI.1).mono fun _ _ ⟨a, b⟩ => ⟨a, hI.step b⟩
  have k2 : ∀ W, Inv w0 W → Calls Tryd.prog 28 #[.agg (recA k q t s h d)] W (SERet w0 ByteArray.empty (recErr (rcOf k q t s h d))) :=
    fun W hI => (encode_bad k q t s h d W hs hh hd hI.1 her).mono fun _ _ ⟨a, b⟩ => ⟨a, hI.step b⟩
  obtain ⟨C, hC, hC15, hC0, hC10⟩ := note_coded1
  have k3 := note_inv (w0 := w0) 1
  have k4 := encNote_inv (w0 := w0) 1 note_ok1
  rw [hC] at k4
  have h0 := dec0 her
  have h1 : ((recErr (rcOf k q t s h d) : Int) != 0) = true := by rw [bne, h0]; rfl
  have y1 : ((C.size : Int) != 15) = false := by rw [hC15]; rfl
  have y2 : (((C[0]'hC0).toNat : Int) != 10) = false := by rw [hC10]; rfl
  subst hw0
  generalize recErr (rcOf k q t s h d) = er at *
  clear her hm hs hh hd hC hC15 hC10
  unfold recA at *
  have K1 := Lib.hid k1; have K2 := Lib.hid k2; have K3 := Lib.hid k3; have K4 := Lib.hid k4
  clear k1 k2 k3 k4
  go_enter Tryd.func10, Tryd.ntmps10
  repeat
    go_wp2_with fail
    with_reducible first
      | refine Calls.mono (K1.out _ (by assumption)) ?_
      | refine Calls.mono (K2.out _ (by assumption)) ?_
      | refine Calls.mono (K3.out _ (by assumption)) ?_
      | refine Calls.mono (K4.out _ (by assumption)) ?_
    rintro e w' ⟨rfl, hI⟩
    have hcc := inv_cells hI
  go_wp2
  go_ret
  exact ⟨by simp, inv_out HM.out (by assumption)⟩

theorem dec_front {r : Rc} (h : recErr r = 0) (C : ByteArray) (hC : C.data.toList = codedL r) (j : Nat) (hj : j < C.size) : decL (C.extract 0 j).data.toList = (Rc.zero, 0, 6) := by
  have hl : C.data.toList.length = C.size := by simp
  have e : (C.extract 0 j).data.toList = (codedL r).take j := by
    rw [← hC, ByteArray.data_extract, Array.toList_extract]
    simp
  rw [e]
  exact decL_front h j (by rw [← hC, hl]; exact hj)

set_option maxHeartbeats 2000000 in
set_option maxRecDepth 100000 in
theorem recordBack_ok (k q t : Int) (s h d more : ByteArray) (a : Int) (w : World) (hs : s.size ≤ 1048576) (hh : h.size ≤ 1048576) (hd : d.size ≤ 1048576) (hmo : more.size ≤ 1048576) (hm : ML w) (her : recErr (rcOf k q t s h d) = 0) :
    Calls Tryd.prog 10 #[.agg (recA k q t s h d), .string more, .int .i64 a] w (IsRet w true) := by
  have hI0 := Inv.refl (ml_alloc hm (.cells (recA k q t s h d) 32))
  have HM := Lib.hid hm
  obtain ⟨w0, hw0⟩ : ∃ w0, w.alloc (.cells (recA k q t s h d) 32) = w0 := ⟨_, rfl⟩
  have k2 : ∀ W, Inv w0 W → Calls Tryd.prog 28 #[.agg (recA k q t s h d)] W (SERet w0 ⟨(codedL (rcOf k q t s h d)).toArray⟩ 0) :=
    fun W hI => (encode_ok k q t s h d W hs hh hd hI.1 her).mono fun _ _ ⟨a, b⟩ => ⟨a, hI.step b⟩
  obtain ⟨B, hB⟩ : ∃ B : ByteArray, (⟨(codedL (rcOf k q t s h d)).toArray⟩ : ByteArray) = B := ⟨_, rfl⟩
  rw [hB] at k2
  have hBl : B.data.toList = codedL (rcOf k q t s h d) := by rw [← hB]
  have hBs : B.size = (codedL (rcOf k q t s h d)).length := by rw [← hB, size_list]
  obtain ⟨hb1, hb2⟩ := bodyL_len her
  have hBk := (coded_front her).2.1
  have hnl := numL_len (bodyL (rcOf k q t s h d)).length
  have hB1 : B.size ≤ 1037 := by omega
  have hB0 : 0 < B.size := by omega
  clear hb1 hb2 hBk hnl
  have k5 : ∀ W, Inv w0 W → Calls Tryd.prog 30 #[.string (B ++ more)] W (DecRet w0 W (recA k q t s h d) B.size 0) :=
    dec_inv (w0 := w0) (B ++ more) k q t s h d B.size 0 (by rw [hBs, ← decL_coded her more.data.toList]; congr 1; rw [← hBl]; simp) (by rw [ByteArray.size_append]; unfold maxLen; omega)
  obtain ⟨j, hj⟩ : ∃ j : Nat, a % (B.size : Int) = j := ⟨(a % (B.size : Int)).toNat, by have := Int.emod_nonneg a (show (B.size : Int) ≠ 0 by omega); omega⟩
  have hjl : j < B.size := by have := Int.emod_lt_of_pos a (show (0 : Int) < B.size by omega); omega
  have k6 : ∀ W, Inv w0 W → Calls Tryd.prog 30 #[.string (B.extract 0 j)] W (DecRet w0 W (recA 0 0 0 ⟨#[]⟩ ⟨#[]⟩ ⟨#[]⟩) 0 6) :=
    dec_inv (w0 := w0) (B.extract 0 j) 0 0 0 ⟨#[]⟩ ⟨#[]⟩ ⟨#[]⟩ 0 6 (by rw [dec_front her B hBl j hjl]; rfl) (by rw [ByteArray.size_extract]; unfold maxLen; omega)
  have k7 : ∀ W, Calls Tryd.prog 33 #[.int .i64 a, .int .i64 B.size] W fun e w' => e = .returned (.int .i64 j) ∧ W = w' := fun W => by
    rw [← hj]; exact rest_any a B.size W (by omega) (by omega)
  obtain ⟨C, hC, hC15, hC0, hC10⟩ := note_coded1
  have k3 := note_inv (w0 := w0) 1
  have k4 := encNote_inv (w0 := w0) 1 note_ok1
  rw [hC] at k4
  have y1 : ((C.size : Int) != 15) = false := by rw [hC15]; rfl
  have y2 : (((C[0]'hC0).toNat : Int) != 10) = false := by rw [hC10]; rfl
  subst hw0
  clear her hm hs hh hd hC hC15 hC10 hB hBl hBs hj
  unfold recA at *
  have K2 := Lib.hid k2; have K3 := Lib.hid k3; have K4 := Lib.hid k4; have K5 := Lib.hid k5; have K6 := Lib.hid k6; have K7 := Lib.hid k7
  clear k2 k3 k4 k5 k6 k7
  go_enter Tryd.func10, Tryd.ntmps10
  go_wp2_with fail
  refine Calls.mono (K3.out _ hI0) ?_
  rintro e w1 ⟨rfl, hI1⟩
  go_wp2_with fail
  refine Calls.mono (K4.out _ hI1) ?_
  rintro e w2 ⟨rfl, hI2⟩
  have hcc := inv_cells hI2
  go_wp2_with fail
  refine Calls.mono (K2.out _ hI2) ?_
  rintro e w3 ⟨rfl, hI3⟩
  clear hcc
  have hcc := inv_cells hI3
  go_wp2_with fail
  refine Calls.mono (K5.out _ hI3) ?_
  rintro e w4 ⟨rfl, hI4, hb4⟩
  clear hcc hb4
  have hcc := inv_cells hI4
  go_wp2_with fail
  refine (K7.out _).mono ?_
  rintro e w' ⟨rfl, rfl⟩
  go_wp2_with fail
  refine Calls.mono (K6.out _ (hI4.step (by go_grown))) ?_
  rintro e w5 ⟨rfl, hI5, hb5⟩
  clear hcc
  have hcc := inv_cells hI5
  have hcd := fun j => hb5.cell (p := ⟨w4.heap.size, j, none⟩) (by go_size)
  have hz := hb5.size
  have hz1 := hI4.2.size
  simp [go_sem] at hcc hcd hz hz1
  have hlt : w4.heap.size < w5.heap.size := by omega
  have hlt2 : w.heap.size < w5.heap.size := by omega
  obtain ⟨c0, c1, c2, c3, c4, c5⟩ := cells6 hcc
  obtain ⟨d0, d1, d2, d3, d4, d5⟩ := cells6 hcd
  clear hcc hcd hb5 hz hz1
  go_wp2
  go_ret
  exact ⟨by simp, inv_out HM.out (hI5.step (by go_grown))⟩

theorem recordBack_walk (k q t : Int) (s h d more : ByteArray) (a : Int) (w : World) (hs : s.size ≤ 1048576) (hh : h.size ≤ 1048576) (hd : d.size ≤ 1048576) (hmo : more.size ≤ 1048576) (hm : ML w) :
    Calls Tryd.prog 10 #[.agg (recA k q t s h d), .string more, .int .i64 a] w (IsRet w true) := by
  by_cases her : recErr (rcOf k q t s h d) = 0
  · exact recordBack_ok k q t s h d more a w hs hh hd hmo hm her
  · exact recordBack_bad k q t s h d more a w hs hh hd hm her
end Go.Proofs.YtmeaenmialaghaaDoor.Subj
