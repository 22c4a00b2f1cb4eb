/- Parts of the proof, joined: The reference's chest: Subjects, walked.; (*Log).Rewrite, walked. -/
import Derived.Test.YtbgchhgdlceceaaGreatDoorPlansOwnUptoM36
namespace Go.Proofs.YtbgchhgdlceceaaGreatDoor.Sto
open Go.RowKit Heap
open Subj (Tok ML pieces takes)
open Rec (Rc recErr far)
open Idx (Ents ptrV before)
open Shf (SortedE ShelfAt NextS)

section
variable {W w : World} {C : Nat} {L : List Rc} {last : Int} {v : Value} {I : Ents}

end
end Go.Proofs.YtbgchhgdlceceaaGreatDoor.Sto

namespace Go.Proofs.YtbgchhgdlceceaaGreatDoor.Log
open Go.RowKit Heap Dsk
open Subj (ML)
open Rec (Rc recErr recA rcOf codedL ml_alloc)
open Sto (recsV RecsAt Fits parts sixC)

section
variable {W w : World} {F : Nat → Prop} {D G : Nat} {room size : Int} {A : List FileP}

end
end Go.Proofs.YtbgchhgdlceceaaGreatDoor.Log
