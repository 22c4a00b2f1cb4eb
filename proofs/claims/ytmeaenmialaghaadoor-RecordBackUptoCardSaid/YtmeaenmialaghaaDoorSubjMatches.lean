/- The law SubjectMatches, walked: it returns true. -/
import Derived.Test.YtmeaenmialaghaaDoorRefTakes
import Derived.Test.YtmeaenmialaghaaDoorSubjSays
namespace Go.Proofs.YtmeaenmialaghaaDoor.Subj
open Go.RowKit

/-- A call that returns a flag and a number and keeps. -/
def BERet (w0 : World) (b : Bool) (n : Nat) (e : Ending) (w' : World) : Prop := e = .returned (.tuple #[.bool b, .int .i64 n]) ∧ Inv w0 w'
def BoolRet (w0 : World) (b : Bool) (e : Ending) (w' : World) : Prop := e = .returned (.bool b) ∧ Inv w0 w'

theorem matchN_inv {w0 : World} (f s : ByteArray) (hf : f.size ≤ 1048576) (hs : s.size ≤ 1048576) {b : Bool} {n : Nat} (hr : matchR f.data.toList s.data.toList = (b, n)) (w : World) (h : Inv w0 w) :
    Calls Tryd.prog 18 #[.string f, .string s] w (BERet w0 b n) :=
  (match_any f s w hf hs h.1).mono fun _ _ ⟨a, c⟩ => ⟨by rw [a, hr]; rfl, h.step c⟩
theorem overlapN_inv {w0 : World} (f s : ByteArray) (hf : f.size ≤ 1048576) (hs : s.size ≤ 1048576) {b : Bool} {n : Nat} (hr : overlapR f.data.toList s.data.toList = (b, n)) (w : World) (h : Inv w0 w) :
    Calls Tryd.prog 19 #[.string f, .string s] w (BERet w0 b n) :=
  (overlap_any f s w hf hs h.1).mono fun _ _ ⟨a, c⟩ => ⟨by rw [a, hr]; rfl, h.step c⟩
theorem coversN_inv {w0 : World} (f s : ByteArray) (hf : f.size ≤ 1048576) (hs : s.size ≤ 1048576) {b : Bool} {n : Nat} (hr : coversR f.data.toList s.data.toList = (b, n)) (w : World) (h : Inv w0 w) :
    Calls Tryd.prog 20 #[.string f, .string s] w (BERet w0 b n) :=
  (covers_any f s w hf hs h.1).mono fun _ _ ⟨a, c⟩ => ⟨by rw [a, hr]; rfl, h.step c⟩
theorem refTakes_inv {w0 : World} (f s : ByteArray) (hf : f.size ≤ 1048576) (hs : s.size ≤ 1048576) (w : World) (h : Inv w0 w) :
    Calls Tryd.prog 21 #[.string f, .string s] w (BoolRet w0 (takes (pieces f.data.toList) (pieces s.data.toList))) :=
  (takesS_ref f s w hf hs).mono fun _ _ ⟨a, c⟩ => ⟨a, h.step c⟩
theorem refOverlap_inv {w0 : World} (f s : ByteArray) (hf : f.size ≤ 1048576) (hs : s.size ≤ 1048576) (w : World) (h : Inv w0 w) :
    Calls Tryd.prog 22 #[.string f, .string s] w (BoolRet w0 (overlap (pieces f.data.toList) (pieces s.data.toList))) :=
  (overlapS_ref f s w hf hs).mono fun _ _ ⟨a, c⟩ => ⟨a, h.step c⟩
theorem refCovers_inv {w0 : World} (f s : ByteArray) (hf : f.size ≤ 1048576) (hs : s.size ≤ 1048576) (w : World) (h : Inv w0 w) :
    Calls Tryd.prog 23 #[.string f, .string s] w (BoolRet w0 (covers (pieces f.data.toList) (pieces s.data.toList))) :=
  (coversS_ref f s w hf hs).mono fun _ _ ⟨a, c⟩ => ⟨a, h.step c⟩

theorem dec0 {n : Nat} (h : n ≠ 0) : ((n : Int) == 0) = false := by simp; omega

set_option maxHeartbeats 1000000 in
set_option maxRecDepth 100000 in
theorem subjectMatches_walk (f g s : ByteArray) (w : World) (hf : f.size ≤ 1048576) (hg : g.size ≤ 1048576) (hs : s.size ≤ 1048576) (hm : ML w) :
    Calls Tryd.prog 4 #[.string f, .string g, .string s] w (IsRet w true) := by
  have K4 := Lib.hid (refFilter_inv (w0 := w) f hf)
  have K5 := Lib.hid (refSubject_inv (w0 := w) s hs)
  have K6 := Lib.hid (refFilter_inv (w0 := w) g hg)
  have K7 := Lib.hid (refTakes_inv (w0 := w) f s hf hs)
  have K8 := Lib.hid (refOverlap_inv (w0 := w) f g hf hg)
  have K9 := Lib.hid (refCovers_inv (w0 := w) f g hf hg)
  have k1 := fun b n => matchN_inv (w0 := w) f s hf hs (b := b) (n := n)
  have k2 := fun b n => overlapN_inv (w0 := w) f g hf hg (b := b) (n := n)
  have k3 := fun b n => coversN_inv (w0 := w) f g hf hg (b := b) (n := n)
  unfold matchR at k1
  unfold overlapR pairErr at k2
  unfold coversR pairErr at k3
  have hI := Inv.refl hm
  generalize err true f.data.toList = e1 at *
  generalize err true g.data.toList = e3 at *
  generalize err false s.data.toList = e2 at *
  generalize takes (pieces f.data.toList) (pieces s.data.toList) = t1 at *
  generalize overlap (pieces f.data.toList) (pieces g.data.toList) = t2 at *
  generalize covers (pieces f.data.toList) (pieces g.data.toList) = t3 at *
  clear hm hf hg hs
  by_cases h1 : e1 = 0
  · subst h1
    by_cases h2 : e2 = 0
    · subst h2
      by_cases h3 : e3 = 0
      · subst h3
        have K1 := Lib.hid (k1 t1 0 (by simp)); have K2 := Lib.hid (k2 t2 0 (by simp)); have K3 := Lib.hid (k3 t3 0 (by simp))
        clear k1 k2 k3
        go_enter Tryd.func4, Tryd.ntmps4
        repeat
          go_wp2_with fail
          with_reducible first
            | refine Calls.mono (K1.out _ (by assumption)) ?_
            | refine Calls.mono (K2.out _ (by assumption)) ?_
            | refine Calls.mono (K3.out _ (by assumption)) ?_
            | refine Calls.mono (K4.out _ (by assumption)) ?_
            | refine Calls.mono (K5.out _ (by assumption)) ?_
            | refine Calls.mono (K6.out _ (by assumption)) ?_
            | refine Calls.mono (K7.out _ (by assumption)) ?_
            | refine Calls.mono (K8.out _ (by assumption)) ?_
            | refine Calls.mono (K9.out _ (by assumption)) ?_
          rintro e w' ⟨rfl, hI⟩
        go_wp2
        all_goals
          go_ret
          exact ⟨by simp, by assumption⟩
      · have d3 := dec0 h3
        have K1 := Lib.hid (k1 t1 0 (by simp)); have K2 := Lib.hid (k2 false e3 (by simp [h3])); have K3 := Lib.hid (k3 false e3 (by simp [h3]))
        clear k1 k2 k3 h3
        go_enter Tryd.func4, Tryd.ntmps4
        repeat
          go_wp2_with fail
          with_reducible first
            | refine Calls.mono (K1.out _ (by assumption)) ?_
            | refine Calls.mono (K2.out _ (by assumption)) ?_
            | refine Calls.mono (K3.out _ (by assumption)) ?_
            | refine Calls.mono (K4.out _ (by assumption)) ?_
            | refine Calls.mono (K5.out _ (by assumption)) ?_
            | refine Calls.mono (K6.out _ (by assumption)) ?_
            | refine Calls.mono (K7.out _ (by assumption)) ?_
            | refine Calls.mono (K8.out _ (by assumption)) ?_
            | refine Calls.mono (K9.out _ (by assumption)) ?_
          rintro e w' ⟨rfl, hI⟩
        go_wp2
        all_goals
          go_ret
          exact ⟨by simp, by assumption⟩
    · have d2 := dec0 h2
      by_cases h3 : e3 = 0
      · subst h3
        have K1 := Lib.hid (k1 false e2 (by simp [h2])); have K2 := Lib.hid (k2 t2 0 (by simp)); have K3 := Lib.hid (k3 t3 0 (by simp))
        clear k1 k2 k3 h2
        go_enter Tryd.func4, Tryd.ntmps4
        repeat
          go_wp2_with fail
          with_reducible first
            | refine Calls.mono (K1.out _ (by assumption)) ?_
            | refine Calls.mono (K2.out _ (by assumption)) ?_
            | refine Calls.mono (K3.out _ (by assumption)) ?_
            | refine Calls.mono (K4.out _ (by assumption)) ?_
            | refine Calls.mono (K5.out _ (by assumption)) ?_
            | refine Calls.mono (K6.out _ (by assumption)) ?_
            | refine Calls.mono (K7.out _ (by assumption)) ?_
            | refine Calls.mono (K8.out _ (by assumption)) ?_
            | refine Calls.mono (K9.out _ (by assumption)) ?_
          rintro e w' ⟨rfl, hI⟩
        go_wp2
        all_goals
          go_ret
          exact ⟨by simp, by assumption⟩
      · have d3 := dec0 h3
        have K1 := Lib.hid (k1 false e2 (by simp [h2])); have K2 := Lib.hid (k2 false e3 (by simp [h3])); have K3 := Lib.hid (k3 false e3 (by simp [h3]))
        clear k1 k2 k3 h2 h3
        go_enter Tryd.func4, Tryd.ntmps4
        repeat
          go_wp2_with fail
          with_reducible first
            | refine Calls.mono (K1.out _ (by assumption)) ?_
            | refine Calls.mono (K2.out _ (by assumption)) ?_
            | refine Calls.mono (K3.out _ (by assumption)) ?_
            | refine Calls.mono (K4.out _ (by assumption)) ?_
            | refine Calls.mono (K5.out _ (by assumption)) ?_
            | refine Calls.mono (K6.out _ (by assumption)) ?_
            | refine Calls.mono (K7.out _ (by assumption)) ?_
            | refine Calls.mono (K8.out _ (by assumption)) ?_
            | refine Calls.mono (K9.out _ (by assumption)) ?_
          rintro e w' ⟨rfl, hI⟩
        go_wp2
        all_goals
          go_ret
          exact ⟨by simp, by assumption⟩
  · have d1 := dec0 h1
    have K1 := Lib.hid (k1 false e1 (by simp [h1])); have K2 := Lib.hid (k2 false e1 (by simp [h1])); have K3 := Lib.hid (k3 false e1 (by simp [h1]))
    clear k1 k2 k3 h1
    go_enter Tryd.func4, Tryd.ntmps4
    repeat
      go_wp2_with fail
      with_reducible first
        | refine Calls.mono (K1.out _ (by assumption)) ?_
        | refine Calls.mono (K2.out _ (by assumption)) ?_
        | refine Calls.mono (K3.out _ (by assumption)) ?_
        | refine Calls.mono (K4.out _ (by assumption)) ?_
        | refine Calls.mono (K5.out _ (by assumption)) ?_
        | refine Calls.mono (K6.out _ (by assumption)) ?_
        | refine Calls.mono (K7.out _ (by assumption)) ?_
        | refine Calls.mono (K8.out _ (by assumption)) ?_
        | refine Calls.mono (K9.out _ (by assumption)) ?_
      rintro e w' ⟨rfl, hI⟩
    go_wp2
    all_goals
      go_ret
      exact ⟨by simp, by assumption⟩

end Go.Proofs.YtmeaenmialaghaaDoor.Subj
