/- Parts of the proof, joined: What the document's answers for package pack give: the same functions of lists of bytes.; The law SubjectSays, walked: it returns true. -/
import Derived.Test.YtbgchhgdlceceaaGreatDoorPlansOwnUptoM27
namespace Go.Proofs.YtbgchhgdlceceaaGreatDoor.Pack
open Go.RowKit

/-! ### ReadNumber -/

/-! ### ReadText, Sum -/

open Crc

end Go.Proofs.YtbgchhgdlceceaaGreatDoor.Pack

namespace Go.Proofs.YtbgchhgdlceceaaGreatDoor.Subj
open Go.RowKit
end Go.Proofs.YtbgchhgdlceceaaGreatDoor.Subj
