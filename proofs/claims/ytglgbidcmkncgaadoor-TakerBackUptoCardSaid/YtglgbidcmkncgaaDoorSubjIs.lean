/- 'is' and 'known', walked; and the laws of filters that hold of the Lean functions. -/
import Derived.Test.YtglgbidcmkncgaaDoorSubjOver
namespace Go.Proofs.YtglgbidcmkncgaaDoor.Subj
open Go.RowKit

/-- What 'is' makes of an answer. -/
def isB (x : Bool × Nat) : Bool := x.2 == 0 && x.1

set_option maxRecDepth 100000 in
theorem is_match (f g : ByteArray) (w : World) (hf : f.size ≤ 1048576) (hg : g.size ≤ 1048576) (hm : ML w) :
    Calls Tryd.prog 13 #[.func (.func 16) #[] #[], .string f, .string g] w fun e w' => e = .returned (.bool (isB (matchR f.data.toList g.data.toList))) ∧ Below w.heap.size w w' := by
  have hc := match_any f g w hf hg hm
  obtain ⟨b, n, hr⟩ : ∃ b n, matchR f.data.toList g.data.toList = (b, n) := ⟨_, _, rfl⟩
  rw [hr] at hc ⊢
  unfold beV at hc
  have HC := Lib.hid hc; clear hc hr
  by_cases h0 : n = 0
  · subst h0
    go_enter Tryd.func13, Tryd.ntmps13
    go_wp2_with fail
    refine HC.out.mono ?_
    rintro e w' ⟨rfl, hb⟩
    go_wp2
    go_ret
    exact ⟨rfl, hb⟩
  · have h1 : ((n : Int) == 0) = false := by simp; omega
    have h2 : isB (b, n) = false := by unfold isB; simp [h0]
    rw [h2]
    clear h0 h2
    go_enter Tryd.func13, Tryd.ntmps13
    go_wp2_with fail
    refine HC.out.mono ?_
    rintro e w' ⟨rfl, hb⟩
    go_wp2
    go_ret
    exact ⟨rfl, hb⟩

set_option maxRecDepth 100000 in
theorem is_overlap (f g : ByteArray) (w : World) (hf : f.size ≤ 1048576) (hg : g.size ≤ 1048576) (hm : ML w) :
    Calls Tryd.prog 13 #[.func (.func 14) #[] #[], .string f, .string g] w fun e w' => e = .returned (.bool (isB (overlapR f.data.toList g.data.toList))) ∧ Below w.heap.size w w' := by
  have hc := overlap_any f g w hf hg hm
  obtain ⟨b, n, hr⟩ : ∃ b n, overlapR f.data.toList g.data.toList = (b, n) := ⟨_, _, rfl⟩
  rw [hr] at hc ⊢
  unfold beV at hc
  have HC := Lib.hid hc; clear hc hr
  by_cases h0 : n = 0
  · subst h0
    go_enter Tryd.func13, Tryd.ntmps13
    go_wp2_with fail
    refine HC.out.mono ?_
    rintro e w' ⟨rfl, hb⟩
    go_wp2
    go_ret
    exact ⟨rfl, hb⟩
  · have h1 : ((n : Int) == 0) = false := by simp; omega
    have h2 : isB (b, n) = false := by unfold isB; simp [h0]
    rw [h2]
    clear h0 h2
    go_enter Tryd.func13, Tryd.ntmps13
    go_wp2_with fail
    refine HC.out.mono ?_
    rintro e w' ⟨rfl, hb⟩
    go_wp2
    go_ret
    exact ⟨rfl, hb⟩

set_option maxRecDepth 100000 in
theorem is_covers (f g : ByteArray) (w : World) (hf : f.size ≤ 1048576) (hg : g.size ≤ 1048576) (hm : ML w) :
    Calls Tryd.prog 13 #[.func (.func 50) #[] #[], .string f, .string g] w fun e w' => e = .returned (.bool (isB (coversR f.data.toList g.data.toList))) ∧ Below w.heap.size w w' := by
  have hc := covers_any f g w hf hg hm
  obtain ⟨b, n, hr⟩ : ∃ b n, coversR f.data.toList g.data.toList = (b, n) := ⟨_, _, rfl⟩
  rw [hr] at hc ⊢
  unfold beV at hc
  have HC := Lib.hid hc; clear hc hr
  by_cases h0 : n = 0
  · subst h0
    go_enter Tryd.func13, Tryd.ntmps13
    go_wp2_with fail
    refine HC.out.mono ?_
    rintro e w' ⟨rfl, hb⟩
    go_wp2
    go_ret
    exact ⟨rfl, hb⟩
  · have h1 : ((n : Int) == 0) = false := by simp; omega
    have h2 : isB (b, n) = false := by unfold isB; simp [h0]
    rw [h2]
    clear h0 h2
    go_enter Tryd.func13, Tryd.ntmps13
    go_wp2_with fail
    refine HC.out.mono ?_
    rintro e w' ⟨rfl, hb⟩
    go_wp2
    go_ret
    exact ⟨rfl, hb⟩

set_option maxRecDepth 100000 in
theorem known_any (w : World) (hm : ML w) :
    Calls Tryd.prog 12 #[] w fun e w' => e = .returned (.bool true) ∧ Below w.heap.size w w' := by
  have k1 := fun w hm => is_match ⟨#[97, 46, 42, 46, 62]⟩ ⟨#[97, 46, 98, 46, 99]⟩ w (by decide) (by decide) hm
  have k2 := fun w hm => is_match ⟨#[97, 46, 42]⟩ ⟨#[97]⟩ w (by decide) (by decide) hm
  have k3 := fun w hm => is_overlap ⟨#[97, 46, 42]⟩ ⟨#[42, 46, 98]⟩ w (by decide) (by decide) hm
  have k4 := fun w hm => is_covers ⟨#[97, 46, 62]⟩ ⟨#[97, 46, 42, 46, 98]⟩ w (by decide) (by decide) hm
  rw [show isB (matchR (ByteArray.mk #[97, 46, 42, 46, 62]).data.toList (ByteArray.mk #[97, 46, 98, 46, 99]).data.toList) = true by decide +kernel] at k1
  rw [show isB (matchR (ByteArray.mk #[97, 46, 42]).data.toList (ByteArray.mk #[97]).data.toList) = false by decide +kernel] at k2
  rw [show isB (overlapR (ByteArray.mk #[97, 46, 42]).data.toList (ByteArray.mk #[42, 46, 98]).data.toList) = true by decide +kernel] at k3
  rw [show isB (coversR (ByteArray.mk #[97, 46, 62]).data.toList (ByteArray.mk #[97, 46, 42, 46, 98]).data.toList) = true by decide +kernel] at k4
  have K1 := Lib.hid k1; have K2 := Lib.hid k2; have K3 := Lib.hid k3; have K4 := Lib.hid k4
  clear k1 k2 k3 k4
  have HM := Lib.hid hm; clear hm
  go_enter Tryd.func12, Tryd.ntmps12
  go_wp2_with fail
  refine (K1.out _ HM.out).mono ?_
  rintro e w1 ⟨rfl, hb1⟩
  have M1 := Lib.hid (HM.out.below hb1)
  go_wp2_with fail
  refine (K2.out _ M1.out).mono ?_
  rintro e w2 ⟨rfl, hb2⟩
  have M2 := Lib.hid (M1.out.below hb2)
  go_wp2_with fail
  refine (K3.out _ M2.out).mono ?_
  rintro e w3 ⟨rfl, hb3⟩
  have M3 := Lib.hid (M2.out.below hb3)
  go_wp2_with fail
  refine (K4.out _ M3.out).mono ?_
  rintro e w4 ⟨rfl, hb4⟩
  go_wp2
  go_ret
  have h1 := hb1.trans (hb2.mono hb1.size)
  have h2 := h1.trans (hb3.mono h1.size)
  exact ⟨rfl, h2.trans (hb4.mono h2.size)⟩

end Go.Proofs.YtglgbidcmkncgaaDoor.Subj
