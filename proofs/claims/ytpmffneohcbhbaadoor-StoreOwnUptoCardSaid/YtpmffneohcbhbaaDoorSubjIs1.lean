/- 'is' and 'known', walked; and the laws of filters that hold of the Lean functions. -/
import Derived.Test.YtpmffneohcbhbaaDoorSubjTakes
namespace Go.Proofs.YtpmffneohcbhbaaDoor.Subj
open Go.RowKit

/-- What 'is' makes of an answer. -/
def isB (x : Bool × Nat) : Bool := x.2 == 0 && x.1

set_option maxRecDepth 100000 in
theorem is_match (f g : ByteArray) (w : World) (hf : f.size ≤ 1048576) (hg : g.size ≤ 1048576) (hm : ML w) :
    Calls Tryd.prog 25 #[.func (.func 26) #[] #[], .string f, .string g] w fun e w' => e = .returned (.bool (isB (matchR f.data.toList g.data.toList))) ∧ Below w.heap.size w w' := by
  have hc := match_any f g w hf hg hm
  obtain ⟨b, n, hr⟩ : ∃ b n, matchR f.data.toList g.data.toList = (b, n) := ⟨_, _, rfl⟩
  rw [hr] at hc ⊢
  unfold beV at hc
  have HC := Lib.hid hc; clear hc hr
  by_cases h0 : n = 0
  · subst h0
    go_enter Tryd.func25, Tryd.ntmps25
    go_wp2_with fail
    refine HC.out.mono ?_
    rintro e w' ⟨rfl, hb⟩
    go_wp2
    go_ret
    exact ⟨rfl, hb⟩
  · have h1 : ((n : Int) == 0) = false := by simp; omega
    have h2 : isB (b, n) = false := by unfold isB; simp [h0]
    rw [h2]
    clear h0 h2
    go_enter Tryd.func25, Tryd.ntmps25
    go_wp2_with fail
    refine HC.out.mono ?_
    rintro e w' ⟨rfl, hb⟩
    go_wp2
    go_ret
    exact ⟨rfl, hb⟩

end Go.Proofs.YtpmffneohcbhbaaDoor.Subj
