/- The law SubjectSays, walked: it returns true. -/
import Derived.Test.YtmeaenmialaghaaDoorRefTokens
import Derived.Test.YtmeaenmialaghaaDoorSubjInv
namespace Go.Proofs.YtmeaenmialaghaaDoor.Subj
open Go.RowKit

set_option maxRecDepth 100000 in
theorem refSubject_any (s : ByteArray) (w : World) (hs : s.size ≤ 1048576) :
    Calls Tryd.prog 15 #[.string s] w fun e w' => e = .returned (.int .i64 (err false s.data.toList)) ∧ Below w.heap.size w w' := by
  have h := tokens_any s false w hs
  have HC := Lib.hid h; clear h
  generalize err false s.data.toList = er at *
  generalize pieces s.data.toList = l at *
  go_enter Tryd.func15, Tryd.ntmps15
  go_wp2_with fail
  refine HC.out.mono ?_
  rintro e w' ⟨hb, ⟨rfl, v, rfl, _⟩ | ⟨h0, rfl⟩⟩
  · go_wp2
    go_ret
    exact ⟨rfl, hb⟩
  · go_wp2
    go_ret
    exact ⟨rfl, hb⟩

set_option maxRecDepth 100000 in
theorem refFilter_any (s : ByteArray) (w : World) (hs : s.size ≤ 1048576) :
    Calls Tryd.prog 17 #[.string s] w fun e w' => e = .returned (.int .i64 (err true s.data.toList)) ∧ Below w.heap.size w w' := by
  have h := tokens_any s true w hs
  have HC := Lib.hid h; clear h
  generalize err true s.data.toList = er at *
  generalize pieces s.data.toList = l at *
  go_enter Tryd.func17, Tryd.ntmps17
  go_wp2_with fail
  refine HC.out.mono ?_
  rintro e w' ⟨hb, ⟨rfl, v, rfl, _⟩ | ⟨h0, rfl⟩⟩
  · go_wp2
    go_ret
    exact ⟨rfl, hb⟩
  · go_wp2
    go_ret
    exact ⟨rfl, hb⟩

/-- A call that returns a number and keeps. -/
def IntRet (w0 : World) (n : Nat) (e : Ending) (w' : World) : Prop := e = .returned (.int .i64 n) ∧ Inv w0 w'

theorem subjectN_inv {w0 : World} (s : ByteArray) (hs : s.size ≤ 1048576) (w : World) (h : Inv w0 w) : Calls Tryd.prog 14 #[.string s] w (IntRet w0 (err false s.data.toList)) :=
  (subject_any s w hs h.1).mono fun _ _ ⟨a, b⟩ => ⟨a, h.step b⟩
theorem filterN_inv {w0 : World} (s : ByteArray) (hs : s.size ≤ 1048576) (w : World) (h : Inv w0 w) : Calls Tryd.prog 16 #[.string s] w (IntRet w0 (err true s.data.toList)) :=
  (filter_any s w hs h.1).mono fun _ _ ⟨a, b⟩ => ⟨a, h.step b⟩
theorem refSubject_inv {w0 : World} (s : ByteArray) (hs : s.size ≤ 1048576) (w : World) (h : Inv w0 w) : Calls Tryd.prog 15 #[.string s] w (IntRet w0 (err false s.data.toList)) :=
  (refSubject_any s w hs).mono fun _ _ ⟨a, b⟩ => ⟨a, h.step b⟩
theorem refFilter_inv {w0 : World} (s : ByteArray) (hs : s.size ≤ 1048576) (w : World) (h : Inv w0 w) : Calls Tryd.prog 17 #[.string s] w (IntRet w0 (err true s.data.toList)) :=
  (refFilter_any s w hs).mono fun _ _ ⟨a, b⟩ => ⟨a, h.step b⟩

set_option maxRecDepth 100000 in
theorem subjectSays_walk (s : ByteArray) (w : World) (hs : s.size ≤ 1048576) (hm : ML w) :
    Calls Tryd.prog 3 #[.string s] w (IsRet w true) := by
  have k0 := subjectN_inv (w0 := w) s hs
  have k1 := filterN_inv (w0 := w) s hs
  have k2 := refSubject_inv (w0 := w) s hs
  have k3 := refFilter_inv (w0 := w) s hs
  have hI := Inv.refl hm
  generalize err true s.data.toList = e1 at *
  generalize err false s.data.toList = e2 at *
  have K0 := Lib.hid k0; have K1 := Lib.hid k1; have K2 := Lib.hid k2; have K3 := Lib.hid k3
  clear k0 k1 k2 k3 hm
  go_enter Tryd.func3, Tryd.ntmps3
  repeat
    go_wp2_with fail
    with_reducible first
      | refine Calls.mono (K0.out _ (by assumption)) ?_
      | refine Calls.mono (K1.out _ (by assumption)) ?_
      | refine Calls.mono (K2.out _ (by assumption)) ?_
      | refine Calls.mono (K3.out _ (by assumption)) ?_
    rintro e w' ⟨rfl, hI⟩
  go_wp2
  go_ret
  exact ⟨by simp, by assumption⟩

end Go.Proofs.YtmeaenmialaghaaDoor.Subj
