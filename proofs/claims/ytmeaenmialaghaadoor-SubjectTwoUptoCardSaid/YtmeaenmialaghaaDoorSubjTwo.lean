/- The law SubjectTwo, walked: it returns true. -/
import Derived.Test.YtmeaenmialaghaaDoorSubjInv
namespace Go.Proofs.YtmeaenmialaghaaDoor.Subj
open Go.RowKit

set_option maxHeartbeats 8000000 in
set_option maxRecDepth 100000 in
theorem subjectTwo_walk (f g s : ByteArray) (w : World) (hf : f.size ≤ 1048576) (hg : g.size ≤ 1048576) (hs : s.size ≤ 1048576) (hm : ML w) :
    Calls Tryd.prog 5 #[.string f, .string g, .string s] w (IsRet w true) := by
  have k0 : ∀ w', Inv w w' → _ := known_inv (w0 := w)
  have k1 := match_inv (w0 := w) f s hf hs
  have k2 := match_inv (w0 := w) g s hg hs
  have k3 := overlap_inv (w0 := w) f g hf hg
  have k4 := overlap_inv (w0 := w) g f hg hf
  have k5 := covers_inv (w0 := w) f g hf hg
  rw [isO_comm] at k4
  have f1 : isM f.data.toList s.data.toList = true → isM g.data.toList s.data.toList = true → isO f.data.toList g.data.toList = true := isO_of_isM
  have f2 : isC f.data.toList g.data.toList = true → isM g.data.toList s.data.toList = true → isM f.data.toList s.data.toList = true := isM_of_isC
  have f3 : isC f.data.toList g.data.toList = true → isO f.data.toList g.data.toList = true := isO_of_isC
  have hI := Inv.refl hm
  generalize isM f.data.toList s.data.toList = a at *
  generalize isM g.data.toList s.data.toList = b at *
  generalize isO f.data.toList g.data.toList = o at *
  generalize isC f.data.toList g.data.toList = c at *
  have K0 := Lib.hid k0; have K1 := Lib.hid k1; have K2 := Lib.hid k2; have K3 := Lib.hid k3; have K4 := Lib.hid k4; have K5 := Lib.hid k5
  have F1 := Lib.hid f1; have F2 := Lib.hid f2; have F3 := Lib.hid f3
  clear k0 k1 k2 k3 k4 k5 f1 f2 f3 hm
  cases a <;> cases b <;> cases o <;> cases c
  all_goals first
    | exact absurd (F1.out rfl rfl) (by decide)
    | exact absurd (F2.out rfl rfl) (by decide)
    | exact absurd (F3.out rfl) (by decide)
    | skip
  all_goals
    clear F1 F2 F3
    go_enter Tryd.func5, Tryd.ntmps5
    repeat
      go_wp2_with fail
      with_reducible first
        | refine Calls.mono (K0.out _ (by assumption)) ?_
        | refine Calls.mono (K1.out _ (by assumption)) ?_
        | refine Calls.mono (K2.out _ (by assumption)) ?_
        | refine Calls.mono (K3.out _ (by assumption)) ?_
        | refine Calls.mono (K4.out _ (by assumption)) ?_
        | refine Calls.mono (K5.out _ (by assumption)) ?_
      rintro e w' ⟨rfl, hI⟩
    go_wp2
    go_ret
    exact ⟨rfl, by assumption⟩

end Go.Proofs.YtmeaenmialaghaaDoor.Subj
