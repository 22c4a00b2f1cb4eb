/- Parts of the proof, joined: The reference's chest: Sums.; The reference's chest: Seek, walked.; The law StorePurges, walked: it returns true.; The law StoreSums, walked: it returns true. -/
import Derived.Test.YtbgchhgdlceceaaGreatDoorPlansOwnUptoM37
namespace Go.Proofs.YtbgchhgdlceceaaGreatDoor.Sto
open Go.RowKit Heap
open Subj (Tok ML pieces takes)
open Rec (Rc recErr far)
open Idx (Ents ptrV)

section
variable {W w w1 : World} {C : Nat} {v : Value} {L : List Rc} {last : Int} {I : Ents}

end
end Go.Proofs.YtbgchhgdlceceaaGreatDoor.Sto

namespace Go.Proofs.YtbgchhgdlceceaaGreatDoor.Sto
open Go.RowKit Heap
open Subj (Tok ML pieces takes)
open Rec (Rc recErr far)
open Idx (Ents ptrV)

def pk (f : List UInt8) (q : Int) (x : Rc) : Bool := decide (q ≤ x.seq) && tk f x

section
variable {W w : World} {C : Nat} {L : List Rc} {last : Int} {v : Value} {I : Ents}

end
end Go.Proofs.YtbgchhgdlceceaaGreatDoor.Sto

namespace Go.Proofs.YtbgchhgdlceceaaGreatDoor.Sto
open Go.RowKit Heap
open Subj (Tok ML pieces takes StrsAt)
open Rec (Rc recErr far)
open Idx (Ents ptrV)

/-- What has been gathered so far. -/
def OutR (w wr : World) (o : Value) (K : List Rc) : Prop := Row wr 33 6 o K.length (recsV K) ∧ ∀ k, own o k → w.heap.size ≤ k

theorem OutR.next {w wr w' : World} {o : Value} {K : List Rc} (h : OutR w wr o K) (hb : Below wr.heap.size wr w') : OutR w w' o K := ⟨h.1.kept fun k _ hk => hb.block k hk, h.2⟩

section
variable {w : World}
end
end Go.Proofs.YtbgchhgdlceceaaGreatDoor.Sto

namespace Go.Proofs.YtbgchhgdlceceaaGreatDoor.Sto
open Go.RowKit Heap
open Subj (Tok ML pieces takes StrsAt)
open Rec (Rc recErr far)
open Idx (Ents ptrV entV)
open Shf (SortedE)

section
variable {W w : World} {F : Nat → Prop} {D B : Nat} {L : List Rc} {last : Int}

end

section
variable {w : World}
end
end Go.Proofs.YtbgchhgdlceceaaGreatDoor.Sto
