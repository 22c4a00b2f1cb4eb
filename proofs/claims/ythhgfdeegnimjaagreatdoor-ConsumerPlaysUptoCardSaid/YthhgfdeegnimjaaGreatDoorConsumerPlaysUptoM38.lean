/- Parts of the proof, joined: Encode, walked. -/
import Derived.Test.YthhgfdeegnimjaaGreatDoorConsumerPlaysUptoM22
import Derived.Test.YthhgfdeegnimjaaGreatDoorConsumerPlaysUptoM37
import Derived.Outline
namespace Go.Proofs.YthhgfdeegnimjaaGreatDoor.Rec
open Go.RowKit Subj Pack Crc Grow

attribute [local go_sem] Grow.growAt Grow.upon

end Go.Proofs.YthhgfdeegnimjaaGreatDoor.Rec
