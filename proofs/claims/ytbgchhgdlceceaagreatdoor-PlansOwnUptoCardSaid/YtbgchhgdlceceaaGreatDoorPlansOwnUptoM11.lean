/- Parts of the proof, joined: slices.Delete of one pointer to a node, walked.; (*node).drop, walked by its own recursion. -/
import Derived.Test.YtbgchhgdlceceaaGreatDoorPlansOwnUptoM10
import Derived.StillTailTactics
namespace Go.Proofs.YtbgchhgdlceceaaGreatDoor.Idx.Ins
open Go.RowKit Heap

section
variable {w : World} {m i : Nat} {xs : List Value}

end
end Go.Proofs.YtbgchhgdlceceaaGreatDoor.Idx.Ins

namespace Go.Proofs.YtbgchhgdlceceaaGreatDoor.Idx
open Go.RowKit Heap
open Subj (Tok ML pieces StrsAt strAt Strs)

section
variable {W w : World} {M : Nat → Prop} {x : Nat} {H : Hp} {vf : Nat → Value} {cnt N : Nat}

end
end Go.Proofs.YtbgchhgdlceceaaGreatDoor.Idx
