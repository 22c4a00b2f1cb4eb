/- rillref.Subject, Filter, walked; and these and subject's as calls that keep. -/
import Derived.Test.YtpmffneohcbhbaaDoorRefTokens
namespace Go.Proofs.YtpmffneohcbhbaaDoor.Subj
open Go.RowKit

set_option maxRecDepth 100000 in
theorem refSubject_any (s : ByteArray) (w : World) (hs : s.size ≤ 1048576) :
    Calls Tryd.prog 53 #[.string s] w fun e w' => e = .returned (.int .i64 (err false s.data.toList)) ∧ Below w.heap.size w w' := by
  have h := tokens_any s false w hs
  have HC := Lib.hid h; clear h
  generalize err false s.data.toList = er at *
  generalize pieces s.data.toList = l at *
  go_enter Tryd.func53, Tryd.ntmps53
  go_wp2_with fail
  refine HC.out.mono ?_
  rintro e w' ⟨hb, ⟨rfl, v, rfl, _⟩ | ⟨h0, rfl⟩⟩
  · go_wp2
    go_ret
    exact ⟨rfl, hb⟩
  · go_wp2
    go_ret
    exact ⟨rfl, hb⟩

set_option maxRecDepth 100000 in
theorem refFilter_any (s : ByteArray) (w : World) (hs : s.size ≤ 1048576) :
    Calls Tryd.prog 60 #[.string s] w fun e w' => e = .returned (.int .i64 (err true s.data.toList)) ∧ Below w.heap.size w w' := by
  have h := tokens_any s true w hs
  have HC := Lib.hid h; clear h
  generalize err true s.data.toList = er at *
  generalize pieces s.data.toList = l at *
  go_enter Tryd.func60, Tryd.ntmps60
  go_wp2_with fail
  refine HC.out.mono ?_
  rintro e w' ⟨hb, ⟨rfl, v, rfl, _⟩ | ⟨h0, rfl⟩⟩
  · go_wp2
    go_ret
    exact ⟨rfl, hb⟩
  · go_wp2
    go_ret
    exact ⟨rfl, hb⟩

end Go.Proofs.YtpmffneohcbhbaaDoor.Subj
