/- The law SubjectThree, walked: it returns true. -/
import Derived.Test.YtmeaenmialaghaaDoorSubjInv
namespace Go.Proofs.YtmeaenmialaghaaDoor.Subj
open Go.RowKit

set_option maxHeartbeats 8000000 in
set_option maxRecDepth 100000 in
theorem subjectThree_walk (f g h : ByteArray) (w : World) (hf : f.size ≤ 1048576) (hg : g.size ≤ 1048576) (hh : h.size ≤ 1048576) (hm : ML w) :
    Calls Tryd.prog 6 #[.string f, .string g, .string h] w (IsRet w true) := by
  have k0 : ∀ w', Inv w w' → _ := known_inv (w0 := w)
  have k1 := covers_inv (w0 := w) f g hf hg
  have k2 := covers_inv (w0 := w) g f hg hf
  have k3 := covers_inv (w0 := w) g h hg hh
  have k4 := covers_inv (w0 := w) f h hf hh
  have k5 := overlap_inv (w0 := w) g h hg hh
  have k6 := overlap_inv (w0 := w) f h hf hh
  have f1 : isC f.data.toList g.data.toList = true → isC g.data.toList h.data.toList = true → isC f.data.toList h.data.toList = true := isC_trans
  have f2 : isC f.data.toList g.data.toList = true → isO g.data.toList h.data.toList = true → isO f.data.toList h.data.toList = true := isO_trans
  have f3 : isC f.data.toList g.data.toList = true → isC g.data.toList f.data.toList = true → (f.toList == g.toList) = true := fun a b => by
    rw [ByteArray.toList_eq, ByteArray.toList_eq, isC_antisymm a b]; simp
  have hI := Inv.refl hm
  generalize isC f.data.toList g.data.toList = a at *
  generalize isC g.data.toList f.data.toList = b at *
  generalize isC g.data.toList h.data.toList = c at *
  generalize isC f.data.toList h.data.toList = d at *
  generalize isO g.data.toList h.data.toList = o at *
  generalize isO f.data.toList h.data.toList = p at *
  have K0 := Lib.hid k0; have K1 := Lib.hid k1; have K2 := Lib.hid k2; have K3 := Lib.hid k3; have K4 := Lib.hid k4; have K5 := Lib.hid k5; have K6 := Lib.hid k6
  have F1 := Lib.hid f1; have F2 := Lib.hid f2; have F3 := Lib.hid f3
  clear k0 k1 k2 k3 k4 k5 k6 f1 f2 f3 hm
  cases a
  · clear F1 F2 F3
    go_enter Tryd.func6, Tryd.ntmps6
    repeat
      go_wp2_with fail
      with_reducible first
        | refine Calls.mono (K0.out _ (by assumption)) ?_
        | refine Calls.mono (K1.out _ (by assumption)) ?_
      rintro e w' ⟨rfl, hI⟩
    go_wp2
    go_ret
    exact ⟨rfl, by assumption⟩
  · cases b <;> cases c <;> cases d <;> cases o <;> cases p
    all_goals first
      | exact absurd (F1.out rfl rfl) (by decide)
      | exact absurd (F2.out rfl rfl) (by decide)
      | skip
    all_goals
      clear F1 F2
      first
        | have f4 := F3.out rfl rfl
        | skip
      clear F3
      go_enter Tryd.func6, Tryd.ntmps6
      repeat
        go_wp2_with fail
        with_reducible first
          | refine Calls.mono (K0.out _ (by assumption)) ?_
          | refine Calls.mono (K1.out _ (by assumption)) ?_
          | refine Calls.mono (K2.out _ (by assumption)) ?_
          | refine Calls.mono (K3.out _ (by assumption)) ?_
          | refine Calls.mono (K4.out _ (by assumption)) ?_
          | refine Calls.mono (K5.out _ (by assumption)) ?_
          | refine Calls.mono (K6.out _ (by assumption)) ?_
        rintro e w' ⟨rfl, hI⟩
      go_wp2
      go_ret
      exact ⟨rfl, by assumption⟩

end Go.Proofs.YtmeaenmialaghaaDoor.Subj
