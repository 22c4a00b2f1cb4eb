/- Parts of the proof, joined: rillref.Pieces, walked.; rillref.tokens, Subject, Filter, walked.; rillref.takes, walked by its own recursion; Takes.; rillref.Subject, Filter, walked; and these and subject's as calls that keep. -/
import Derived.Test.YtapmhpnkpjgefaaDoorConsumerRulesUptoM1
import Derived.Test.YtapmhpnkpjgefaaDoorConsumerRulesUptoM2
import Derived.Test.YtapmhpnkpjgefaaDoorConsumerRulesUptoM3
import Derived.Test.YtapmhpnkpjgefaaDoorChecked
import Derived.RangeFuncBox
import Derived.Deep.QuietTactic
import Derived.BigQuiet
namespace Go.Proofs.YtapmhpnkpjgefaaDoor.Subj
open Go.RowKit

/-- A row of texts, as cells. -/
def strsV (l : List Tok) : List Value := l.map fun t => .string ⟨t.toArray⟩

theorem strsV_len (l : List Tok) : (strsV l).length = l.length := by simp [strsV]
theorem strsV_get (l : List Tok) (i : Nat) (h : i < l.length) : (strsV l)[i]? = some (.string (strAt l i)) := by
  simp [strsV, strAt, h, List.getD]

end Go.Proofs.YtapmhpnkpjgefaaDoor.Subj

namespace Go.Proofs.YtapmhpnkpjgefaaDoor.Subj
open Go.RowKit

end Go.Proofs.YtapmhpnkpjgefaaDoor.Subj

namespace Go.Proofs.YtapmhpnkpjgefaaDoor.Subj
open Go.RowKit

theorem Strs.cons {w : World} {v : Value} {x : Tok} {l : List Tok} (h : Strs w v (x :: l)) :
    ∃ g off cap, v = .slice (some ⟨g, off, none⟩) (l.length + 1) cap ∧ l.length + 1 ≤ cap ∧ w.cell? ⟨g, off, none⟩ = some (.string ⟨x.toArray⟩) ∧
      Strs w (.slice (if cap = 1 then some ⟨g, off, none⟩ else some ⟨g, off + 1, none⟩) l.length (cap - 1)) l := by
  obtain ⟨ao, cap, rfl, hc, ha⟩ := h
  obtain ⟨g, off, rfl, hs⟩ := ha (by simp)
  refine ⟨g, off, cap, rfl, by simpa using hc, ?_, ⟨_, cap - 1, rfl, by simp at hc; omega, fun hne => ⟨g, off + 1, ?_, hs.tail⟩⟩⟩
  · have := hs 0 (by simp)
    simpa [strAt] using this
  · have := List.length_pos_iff.2 hne
    simp at hc
    rw [if_neg (by omega)]

theorem Strs.nil {w : World} {v : Value} (h : Strs w v []) : ∃ ao cap, v = .slice ao 0 cap := by
  obtain ⟨ao, cap, rfl, _, _⟩ := h
  exact ⟨ao, cap, rfl⟩

theorem Strs.drewN {w : World} {v : Value} {l : List Tok} (h : Strs w v l) (n : Nat) : Strs (w.drewN n) v l := h
theorem Strs.below {w w' : World} {v : Value} {l : List Tok} (h : Strs w v l) (hb : Below w.heap.size w w') : Strs w' v l := by
  obtain ⟨ao, cap, rfl, hc, ha⟩ := h
  exact ⟨ao, cap, rfl, hc, fun hne => let ⟨g, off, e, hs⟩ := ha hne; ⟨g, off, e, hs.below hb⟩⟩
theorem Strs.own {w : World} {base n : Nat} {v : Value} {l : List Tok} (h : w.ownsRow base 9 1 v n (strsV l)) : Strs w v l := by
  have hn : l.length = n := by have := h.1; simpa [strsV_len] using this
  subst hn
  have h0 := h
  rcases h.2 with ⟨rfl, e⟩ | ⟨g, cap, cur, rfl, _, _, hle, _⟩
  · exact ⟨none, 0, by rw [e], by omega, fun hne => absurd (List.eq_nil_of_length_eq_zero e) hne⟩
  · exact ⟨_, cap, rfl, hle, fun _ => ⟨g, 0, rfl, fun i hi => by rw [Nat.zero_add, h0.cellAt i (by omega), strsV_get _ _ hi]⟩⟩

theorem nat_beq_zero (n : Nat) : ((n : Int) == 0) = decide (n = 0) := by
  rw [Bool.eq_iff_iff]; simp
end Go.Proofs.YtapmhpnkpjgefaaDoor.Subj

namespace Go.Proofs.YtapmhpnkpjgefaaDoor.Subj
open Go.RowKit
end Go.Proofs.YtapmhpnkpjgefaaDoor.Subj
