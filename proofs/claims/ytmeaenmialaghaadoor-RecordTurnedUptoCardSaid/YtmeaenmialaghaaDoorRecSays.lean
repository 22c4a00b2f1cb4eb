/- The law RecordSays, walked: it returns true. -/
import Derived.Test.YtmeaenmialaghaaDoorRecEnc
namespace Go.Proofs.YtmeaenmialaghaaDoor.Rec
open Go.RowKit Subj Pack Crc

/-- A call that hands a text and a number back, and keeps. -/
def SERet (w0 : World) (s : ByteArray) (n : Nat) (e : Ending) (w' : World) : Prop := e = .returned (.tuple #[.string s, .int .i64 n]) ∧ Inv w0 w'
def StrRet (w0 : World) (s : ByteArray) (e : Ending) (w' : World) : Prop := e = .returned (.string s) ∧ Inv w0 w'

theorem inv_cells {w w' : World} {A : Array Value} {T : TypeId} (h : Inv (w.alloc (.cells A T)) w') (j : Nat) : w'.cell? ⟨w.heap.size, j, none⟩ = A[j]? := by
  rw [h.2.cell (by simp), World.cell?_alloc_at _ _ _ _ rfl]
theorem inv_out {w w' : World} {o : Obj} (hm : ML w) (h : Inv (w.alloc o) w') : Inv w w' :=
  ⟨h.1, ((Below.refl _ _).alloc (Nat.le_refl _) _).trans (h.2.mono (by simp))⟩

set_option maxHeartbeats 1000000 in
set_option maxRecDepth 100000 in
theorem recordSays_walk (k q t : Int) (s h d : ByteArray) (w : World) (hs : s.size ≤ 1048576) (hh : h.size ≤ 1048576) (hd : d.size ≤ 1048576) (hm : ML w) :
    Calls Tryd.prog 7 #[.agg (recA k q t s h d)] w (IsRet w true) := by
  have hI0 := Inv.refl (ml_alloc hm (.cells (recA k q t s h d) 32))
  have HM := Lib.hid hm
  obtain ⟨w0, hw0⟩ : ∃ w0, w.alloc (.cells (recA k q t s h d) 32) = w0 := ⟨_, rfl⟩
  have k1 : ∀ W, Inv w0 W → Calls Tryd.prog 29 #[.agg (recA k q t s h d)] W (IntRet w0 (recErr (rcOf k q t s h d))) :=
    fun W hI => (check_any k q t s h d W hs hh hd hI.1).mono fun _ _ ⟨a, b⟩ => ⟨a, hI.step b⟩
  have k2 : ∀ W, Inv w0 W → Calls Tryd.prog 26 #[.agg (recA k q t s h d)] W (IntRet w0 (recErr (rcOf k q t s h d))) :=
    fun W hI => (refRecord_any k q t s h d W hs hh hd).mono fun _ _ ⟨a, b⟩ => ⟨a, hI.step b⟩
  by_cases her : recErr (rcOf k q t s h d) = 0
  · have hsz := recErr_sizes her
    unfold rcOf far at hsz
    obtain ⟨hk, hk2, _, hq, _, ht, _, _⟩ := hsz
    simp only at hk hk2 hq ht
    have k3 : ∀ W, Inv w0 W → Calls Tryd.prog 28 #[.agg (recA k q t s h d)] W (SERet w0 ⟨(codedL (rcOf k q t s h d)).toArray⟩ 0) :=
      fun W hI => (encode_ok k q t s h d W hs hh hd hI.1 her).mono fun _ _ ⟨a, b⟩ => ⟨a, hI.step b⟩
    have k4 : ∀ W, Inv w0 W → Calls Tryd.prog 27 #[.agg (recA k q t s h d)] W (StrRet w0 ⟨(codedL (rcOf k q t s h d)).toArray⟩) :=
      fun W hI => (coded_any k q t s h d W (by omega) (by omega) (by omega) (by omega) hs hh hd).mono fun _ _ ⟨a, b⟩ => ⟨a, hI.step b⟩
    rw [her] at k1 k2
    subst hw0
    generalize (⟨(codedL (rcOf k q t s h d)).toArray⟩ : ByteArray) = C at *
    clear her hm hs hh hd hk hk2 hq ht
    unfold recA at *
    have K1 := Lib.hid k1; have K2 := Lib.hid k2; have K3 := Lib.hid k3; have K4 := Lib.hid k4
    clear k1 k2 k3 k4
    go_enter Tryd.func7, Tryd.ntmps7
    repeat
      go_wp2_with fail
      with_reducible first
        | refine Calls.mono (K1.out _ (by assumption)) ?_
        | refine Calls.mono (K2.out _ (by assumption)) ?_
        | refine Calls.mono (K3.out _ (by assumption)) ?_
        | refine Calls.mono (K4.out _ (by assumption)) ?_
      rintro e w' ⟨rfl, hI⟩
      have hcc := inv_cells hI
    go_wp2
    go_ret
    exact ⟨by simp, inv_out HM.out (by assumption)⟩
  · have k3 : ∀ W, Inv w0 W → Calls Tryd.prog 28 #[.agg (recA k q t s h d)] W (SERet w0 ByteArray.empty (recErr (rcOf k q t s h d))) :=
      fun W hI => (encode_bad k q t s h d W hs hh hd hI.1 her).mono fun _ _ ⟨a, b⟩ => ⟨a, hI.step b⟩
    have h0 := dec0 her
    subst hw0
    generalize recErr (rcOf k q t s h d) = er at *
    clear her hm hs hh hd
    unfold recA at *
    have K1 := Lib.hid k1; have K2 := Lib.hid k2; have K3 := Lib.hid k3; have K4 := Lib.hid k3
    clear k1 k2 k3
    go_enter Tryd.func7, Tryd.ntmps7
    repeat
      go_wp2_with fail
      with_reducible first
        | refine Calls.mono (K1.out _ (by assumption)) ?_
        | refine Calls.mono (K2.out _ (by assumption)) ?_
        | refine Calls.mono (K3.out _ (by assumption)) ?_
        | refine Calls.mono (K4.out _ (by assumption)) ?_
      rintro e w' ⟨rfl, hI⟩
      have hcc := inv_cells hI
    go_wp2
    go_ret
    exact ⟨by simp, inv_out HM.out (by assumption)⟩
end Go.Proofs.YtmeaenmialaghaaDoor.Rec
