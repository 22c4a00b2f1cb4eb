/- Parts of the proof, joined: The laws of filters, of the Lean functions. No program here.; The laws SubjectTwo, SubjectThree, SubjectSelf, walked: each returns true.; rillref.Subject, Filter, walked; and these and subject's as calls that keep.; The law SubjectSays, walked: it returns true. -/
import Derived.Test.YtidacfhdhdnidaaGreatDoorVaultPlaysUptoM7
namespace Go.Proofs.YtidacfhdhdnidaaGreatDoor.Subj

/-- The text of pieces. -/
def joined : List Tok → List UInt8
  | [] => []
  | [t] => t
  | t :: u :: ts => t ++ 46 :: joined (u :: ts)

theorem joined_pieces : ∀ l : List UInt8, joined (pieces l) = l
  | [] => rfl
  | b :: l => by
    have ih := joined_pieces l
    unfold pieces
    split
    · rename_i h
      cases hp : pieces l with
      | nil => exact absurd hp (pieces_ne l)
      | cons p ps =>
        rw [hp] at ih
        simp [joined, ih, h]
    · split
      · rename_i p ps hp
        rw [hp] at ih
        cases ps with
        | nil => simp [joined] at ih ⊢; exact ih
        | cons q ps => simp [joined] at ih ⊢; exact ih
      · rename_i hp
        exact absurd hp (pieces_ne l)

theorem pieces_inj {a b : List UInt8} (h : pieces a = pieces b) : a = b := by
  rw [← joined_pieces a, ← joined_pieces b, h]

end Go.Proofs.YtidacfhdhdnidaaGreatDoor.Subj

namespace Go.Proofs.YtidacfhdhdnidaaGreatDoor.Subj
open Go.RowKit

/-! ### What 'is' tells, on lists -/

/-! ### The calls, from a world to a world -/

/-- What every call keeps: the length's cell is there; nothing of the first world is turned. -/
def Inv (w0 w : World) : Prop := ML w ∧ Below w0.heap.size w0 w

theorem Inv.refl {w : World} (h : ML w) : Inv w w := ⟨h, Below.refl _ _⟩
theorem Inv.step {w0 w w' : World} (h : Inv w0 w) (hb : Below w.heap.size w w') : Inv w0 w' := ⟨h.1.below hb, h.2.trans (hb.mono h.2.size)⟩

end Go.Proofs.YtidacfhdhdnidaaGreatDoor.Subj

namespace Go.Proofs.YtidacfhdhdnidaaGreatDoor.Subj
open Go.RowKit

end Go.Proofs.YtidacfhdhdnidaaGreatDoor.Subj

namespace Go.Proofs.YtidacfhdhdnidaaGreatDoor.Subj
open Go.RowKit
end Go.Proofs.YtidacfhdhdnidaaGreatDoor.Subj
