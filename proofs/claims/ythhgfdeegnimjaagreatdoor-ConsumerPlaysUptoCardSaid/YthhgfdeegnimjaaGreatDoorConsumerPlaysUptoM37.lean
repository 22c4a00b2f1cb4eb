/- Parts of the proof, joined: Encode and Coded, walked. -/
import Derived.Test.YthhgfdeegnimjaaGreatDoorConsumerPlaysUptoM36
import Derived.Outline
namespace Go.Proofs.YthhgfdeegnimjaaGreatDoor.Rec
open Go.RowKit Subj Pack Crc Grow

attribute [local go_sem] Grow.growAt Grow.upon

end Go.Proofs.YthhgfdeegnimjaaGreatDoor.Rec
