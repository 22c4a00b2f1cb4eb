/- Parts of the proof, joined: What the document's answers for package pack give: the same functions of lists of bytes. -/
import Derived.Test.YthhgfdeegnimjaaGreatDoorConsumerPlaysUptoM13
import Derived.Deep.RegionHeld3
namespace Go.Proofs.YthhgfdeegnimjaaGreatDoor.Pack
open Go.RowKit

/-! ### ReadNumber -/

/-! ### ReadText, Sum -/

open Crc

end Go.Proofs.YthhgfdeegnimjaaGreatDoor.Pack
