/- rillref.Subject, Filter, walked; and these and subject's as calls that keep. -/
import Derived.Test.YtglgbidcmkncgaaDoorRefTokens
import Derived.Test.YtglgbidcmkncgaaDoorSubjInv
namespace Go.Proofs.YtglgbidcmkncgaaDoor.Subj
open Go.RowKit

set_option maxRecDepth 100000 in
theorem refSubject_any (s : ByteArray) (w : World) (hs : s.size ≤ 1048576) :
    Calls Tryd.prog 74 #[.string s] w fun e w' => e = .returned (.int .i64 (err false s.data.toList)) ∧ Below w.heap.size w w' := by
  have h := tokens_any s false w hs
  have HC := Lib.hid h; clear h
  generalize err false s.data.toList = er at *
  generalize pieces s.data.toList = l at *
  go_enter Tryd.func74, Tryd.ntmps74
  go_wp2_with fail
  refine HC.out.mono ?_
  rintro e w' ⟨hb, ⟨rfl, v, rfl, _⟩ | ⟨h0, rfl⟩⟩
  · go_wp2
    go_ret
    exact ⟨rfl, hb⟩
  · go_wp2
    go_ret
    exact ⟨rfl, hb⟩

set_option maxRecDepth 100000 in
theorem refFilter_any (s : ByteArray) (w : World) (hs : s.size ≤ 1048576) :
    Calls Tryd.prog 80 #[.string s] w fun e w' => e = .returned (.int .i64 (err true s.data.toList)) ∧ Below w.heap.size w w' := by
  have h := tokens_any s true w hs
  have HC := Lib.hid h; clear h
  generalize err true s.data.toList = er at *
  generalize pieces s.data.toList = l at *
  go_enter Tryd.func80, Tryd.ntmps80
  go_wp2_with fail
  refine HC.out.mono ?_
  rintro e w' ⟨hb, ⟨rfl, v, rfl, _⟩ | ⟨h0, rfl⟩⟩
  · go_wp2
    go_ret
    exact ⟨rfl, hb⟩
  · go_wp2
    go_ret
    exact ⟨rfl, hb⟩

/-- A call that returns a number and keeps. -/
def IntRet (w0 : World) (n : Nat) (e : Ending) (w' : World) : Prop := e = .returned (.int .i64 n) ∧ Inv w0 w'

theorem subjectN_inv {w0 : World} (s : ByteArray) (hs : s.size ≤ 1048576) (w : World) (h : Inv w0 w) : Calls Tryd.prog 70 #[.string s] w (IntRet w0 (err false s.data.toList)) :=
  (subject_any s w hs h.1).mono fun _ _ ⟨a, b⟩ => ⟨a, h.step b⟩
theorem filterN_inv {w0 : World} (s : ByteArray) (hs : s.size ≤ 1048576) (w : World) (h : Inv w0 w) : Calls Tryd.prog 37 #[.string s] w (IntRet w0 (err true s.data.toList)) :=
  (filter_any s w hs h.1).mono fun _ _ ⟨a, b⟩ => ⟨a, h.step b⟩
theorem refSubject_inv {w0 : World} (s : ByteArray) (hs : s.size ≤ 1048576) (w : World) (h : Inv w0 w) : Calls Tryd.prog 74 #[.string s] w (IntRet w0 (err false s.data.toList)) :=
  (refSubject_any s w hs).mono fun _ _ ⟨a, b⟩ => ⟨a, h.step b⟩
theorem refFilter_inv {w0 : World} (s : ByteArray) (hs : s.size ≤ 1048576) (w : World) (h : Inv w0 w) : Calls Tryd.prog 80 #[.string s] w (IntRet w0 (err true s.data.toList)) :=
  (refFilter_any s w hs).mono fun _ _ ⟨a, b⟩ => ⟨a, h.step b⟩

end Go.Proofs.YtglgbidcmkncgaaDoor.Subj
