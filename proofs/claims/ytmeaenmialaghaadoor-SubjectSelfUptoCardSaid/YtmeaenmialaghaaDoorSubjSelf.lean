/- The law SubjectSelf, walked: it returns true. -/
import Derived.Test.YtmeaenmialaghaaDoorSubjInv
namespace Go.Proofs.YtmeaenmialaghaaDoor.Subj
open Go.RowKit

theorem covers_tail {l : List UInt8} (h : err true l = 0) : isC [62] l = true := by
  unfold isC
  rw [h, show err true [62] = 0 by decide, show pieces [62] = [[62]] by decide]
  cases hp : pieces l with
  | nil => exact absurd hp (pieces_ne l)
  | cons p ps => simp [covers]

theorem covers_self {l : List UInt8} : isC l l = (err true l == 0) := by
  unfold isC; rw [covers_refl]; simp

theorem overlap_self {l : List UInt8} (h : err true l = 0) : isO l l = true := by
  apply isO_of_isC
  rw [covers_self, h]; rfl

theorem takes_self {s t : List UInt8} (h : err false s = 0) (ht : err false t = 0) : isM s t = true ↔ s = t := by
  unfold isM
  rw [err_wild s h, ht]
  have := takes_plain (pieces s) (pieces t) ((err_zero false s).1 h).2
  simp [this]
  exact ⟨pieces_inj, fun e => by rw [e]⟩

theorem filter_inv {w0 : World} (s : ByteArray) (hs : s.size ≤ 1048576) (w : World) (h : Inv w0 w) :
    Calls Tryd.prog 16 #[.string s] w fun e w' => e = .returned (.int .i64 (err true s.data.toList)) ∧ Inv w0 w' :=
  (filter_any s w hs h.1).mono fun _ _ ⟨a, b⟩ => ⟨a, h.step b⟩

theorem subject_inv {w0 : World} (s : ByteArray) (hs : s.size ≤ 1048576) (w : World) (h : Inv w0 w) :
    Calls Tryd.prog 14 #[.string s] w fun e w' => e = .returned (.int .i64 (err false s.data.toList)) ∧ Inv w0 w' :=
  (subject_any s w hs h.1).mono fun _ _ ⟨a, b⟩ => ⟨a, h.step b⟩

set_option maxHeartbeats 8000000 in
set_option maxRecDepth 100000 in
theorem subjectSelf_walk (s t : ByteArray) (w : World) (hs : s.size ≤ 1048576) (ht : t.size ≤ 1048576) (hm : ML w) :
    Calls Tryd.prog 8 #[.string s, .string t] w (IsRet w true) := by
  have k0 : ∀ w', Inv w w' → _ := known_inv (w0 := w)
  have k1 := filter_inv (w0 := w) s hs
  have k2 := subject_inv (w0 := w) s hs
  have k3 := covers_inv (w0 := w) s s hs hs
  have k4 := overlap_inv (w0 := w) s s hs hs
  have k5 := covers_inv (w0 := w) ⟨#[62]⟩ s (by decide) hs
  have k6 := match_inv (w0 := w) s s hs hs
  have k7 := subject_inv (w0 := w) t ht
  have k8 := match_inv (w0 := w) s t hs ht
  have f0 : err false s.data.toList = 0 → err true s.data.toList = 0 := err_wild _
  have f1 : err true s.data.toList = 0 → isC [62] s.data.toList = true := covers_tail
  have f2 : isC s.data.toList s.data.toList = (err true s.data.toList == 0) := covers_self
  have f3 : err true s.data.toList = 0 → isO s.data.toList s.data.toList = true := overlap_self
  have f4 : err false s.data.toList = 0 → isM s.data.toList s.data.toList = true := fun h => (takes_self h h).2 rfl
  have f5 : err false s.data.toList = 0 → err false t.data.toList = 0 → (s.toList == t.toList) = isM s.data.toList t.data.toList := fun h h' => by
    rw [Bool.eq_iff_iff, takes_self h h', ByteArray.toList_eq, ByteArray.toList_eq, beq_iff_eq]
  have f6 : (ByteArray.mk #[62]).data.toList = [62] := rfl
  rw [f6] at k5
  clear f6
  have hI := Inv.refl hm
  generalize err true s.data.toList = e1 at *
  generalize err false s.data.toList = e2 at *
  generalize err false t.data.toList = e3 at *
  generalize isC s.data.toList s.data.toList = b1 at *
  generalize isO s.data.toList s.data.toList = b2 at *
  generalize isC [62] s.data.toList = b3 at *
  generalize isM s.data.toList s.data.toList = b4 at *
  generalize isM s.data.toList t.data.toList = b5 at *
  have K0 := Lib.hid k0; have K1 := Lib.hid k1; have K2 := Lib.hid k2; have K3 := Lib.hid k3; have K4 := Lib.hid k4; have K5 := Lib.hid k5; have K6 := Lib.hid k6; have K7 := Lib.hid k7; have K8 := Lib.hid k8
  have F0 := Lib.hid f0; have F1 := Lib.hid f1; have F2 := Lib.hid f2; have F3 := Lib.hid f3; have F4 := Lib.hid f4; have F5 := Lib.hid f5
  clear k0 k1 k2 k3 k4 k5 k6 k7 k8 f0 f1 f2 f3 f4 f5 hm
  by_cases h1 : e1 = 0
  · subst h1
    obtain rfl := F1.out rfl
    obtain rfl : b1 = true := F2.out
    obtain rfl := F3.out rfl
    by_cases h2 : e2 = 0
    · subst h2
      obtain rfl := F4.out rfl
      by_cases h3 : e3 = 0
      · subst h3
        have f5 := F5.out rfl rfl
        clear F0 F1 F2 F3 F4 F5
        have f6 : (b5 == (s.toList == t.toList)) = true := by rw [f5]; simp
        clear f5
        · go_enter Tryd.func8, Tryd.ntmps8
          repeat
            go_wp2_with fail
            with_reducible first
              | refine Calls.mono (K0.out _ (by assumption)) ?_
              | refine Calls.mono (K1.out _ (by assumption)) ?_
              | refine Calls.mono (K2.out _ (by assumption)) ?_
              | refine Calls.mono (K3.out _ (by assumption)) ?_
              | refine Calls.mono (K4.out _ (by assumption)) ?_
              | refine Calls.mono (K5.out _ (by assumption)) ?_
              | refine Calls.mono (K6.out _ (by assumption)) ?_
              | refine Calls.mono (K7.out _ (by assumption)) ?_
              | refine Calls.mono (K8.out _ (by assumption)) ?_
            rintro e w' ⟨rfl, hI⟩
          go_wp2
          go_ret
          exact ⟨rfl, by assumption⟩
      · have d3 : ((e3 : Int) != 0) = true := by simp; omega
        clear F0 F1 F2 F3 F4 F5 h3
        go_enter Tryd.func8, Tryd.ntmps8
        repeat
          go_wp2_with fail
          with_reducible first
            | refine Calls.mono (K0.out _ (by assumption)) ?_
            | refine Calls.mono (K1.out _ (by assumption)) ?_
            | refine Calls.mono (K2.out _ (by assumption)) ?_
            | refine Calls.mono (K3.out _ (by assumption)) ?_
            | refine Calls.mono (K4.out _ (by assumption)) ?_
            | refine Calls.mono (K5.out _ (by assumption)) ?_
            | refine Calls.mono (K6.out _ (by assumption)) ?_
            | refine Calls.mono (K7.out _ (by assumption)) ?_
            | refine Calls.mono (K8.out _ (by assumption)) ?_
          rintro e w' ⟨rfl, hI⟩
        go_wp2
        go_ret
        exact ⟨rfl, by assumption⟩
    · have d2 : ((e2 : Int) != 0) = true := by simp; omega
      clear F0 F1 F2 F3 F4 F5 h2
      go_enter Tryd.func8, Tryd.ntmps8
      repeat
        go_wp2_with fail
        with_reducible first
          | refine Calls.mono (K0.out _ (by assumption)) ?_
          | refine Calls.mono (K1.out _ (by assumption)) ?_
          | refine Calls.mono (K2.out _ (by assumption)) ?_
          | refine Calls.mono (K3.out _ (by assumption)) ?_
          | refine Calls.mono (K4.out _ (by assumption)) ?_
          | refine Calls.mono (K5.out _ (by assumption)) ?_
          | refine Calls.mono (K6.out _ (by assumption)) ?_
          | refine Calls.mono (K7.out _ (by assumption)) ?_
          | refine Calls.mono (K8.out _ (by assumption)) ?_
        rintro e w' ⟨rfl, hI⟩
      go_wp2
      go_ret
      exact ⟨rfl, by assumption⟩
  · have h2 : e2 ≠ 0 := fun h => h1 (F0.out h)
    have d1 : ((e1 : Int) != 0) = true := by simp; omega
    have d2 : ((e2 : Int) != 0) = true := by simp; omega
    obtain rfl : b1 = false := by rw [F2.out]; simpa using h1
    clear F0 F1 F2 F3 F4 F5 h1 h2
    go_enter Tryd.func8, Tryd.ntmps8
    repeat
      go_wp2_with fail
      with_reducible first
        | refine Calls.mono (K0.out _ (by assumption)) ?_
        | refine Calls.mono (K1.out _ (by assumption)) ?_
        | refine Calls.mono (K2.out _ (by assumption)) ?_
        | refine Calls.mono (K3.out _ (by assumption)) ?_
        | refine Calls.mono (K4.out _ (by assumption)) ?_
        | refine Calls.mono (K5.out _ (by assumption)) ?_
        | refine Calls.mono (K6.out _ (by assumption)) ?_
        | refine Calls.mono (K7.out _ (by assumption)) ?_
        | refine Calls.mono (K8.out _ (by assumption)) ?_
      rintro e w' ⟨rfl, hI⟩
    go_wp2
    go_ret
    exact ⟨rfl, by assumption⟩

end Go.Proofs.YtmeaenmialaghaaDoor.Subj
