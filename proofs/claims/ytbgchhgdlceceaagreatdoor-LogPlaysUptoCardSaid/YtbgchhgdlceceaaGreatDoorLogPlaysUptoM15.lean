/- Parts of the proof, joined: The laws of filters, of the Lean functions. No program here.; The laws SubjectTwo, SubjectThree, SubjectSelf, walked: each returns true.; rillref.Subject, Filter, walked; and these and subject's as calls that keep.; The law SubjectSays, walked: it returns true. -/
import Derived.Test.YtbgchhgdlceceaaGreatDoorLogPlaysUptoM14
namespace Go.Proofs.YtbgchhgdlceceaaGreatDoor.Subj

end Go.Proofs.YtbgchhgdlceceaaGreatDoor.Subj

namespace Go.Proofs.YtbgchhgdlceceaaGreatDoor.Subj
open Go.RowKit

/-! ### What 'is' tells, on lists -/

/-! ### The calls, from a world to a world -/

/-- What every call keeps: the length's cell is there; nothing of the first world is turned. -/
def Inv (w0 w : World) : Prop := ML w ∧ Below w0.heap.size w0 w

theorem Inv.refl {w : World} (h : ML w) : Inv w w := ⟨h, Below.refl _ _⟩
theorem Inv.step {w0 w w' : World} (h : Inv w0 w) (hb : Below w.heap.size w w') : Inv w0 w' := ⟨h.1.below hb, h.2.trans (hb.mono h.2.size)⟩

end Go.Proofs.YtbgchhgdlceceaaGreatDoor.Subj

namespace Go.Proofs.YtbgchhgdlceceaaGreatDoor.Subj
open Go.RowKit

end Go.Proofs.YtbgchhgdlceceaaGreatDoor.Subj

namespace Go.Proofs.YtbgchhgdlceceaaGreatDoor.Subj
open Go.RowKit
end Go.Proofs.YtbgchhgdlceceaaGreatDoor.Subj
