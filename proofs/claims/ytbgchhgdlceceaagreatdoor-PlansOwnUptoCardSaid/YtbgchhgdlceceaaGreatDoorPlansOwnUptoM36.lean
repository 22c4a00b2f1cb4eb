/- Parts of the proof, joined: rillref.before, walked.; The reference's index: Put.; (*rillref.Shelf).Find, walked; two slices of entries compared (slices.Equal). -/
import Derived.Test.YtbgchhgdlceceaaGreatDoorPlansOwnUptoM35
namespace Go.Proofs.YtbgchhgdlceceaaGreatDoor.Shf
open Go.RowKit Heap Idx
open Subj (Tok ML pieces Strs strAt StrsAt)

end Go.Proofs.YtbgchhgdlceceaaGreatDoor.Shf

namespace Go.Proofs.YtbgchhgdlceceaaGreatDoor.Shf
open Go.RowKit Heap Idx
open Subj (Tok ML pieces Strs strAt StrsAt)

section
variable {W w : World} {G : Nat → Prop} {E : Nat} {A : Ents}

end
end Go.Proofs.YtbgchhgdlceceaaGreatDoor.Shf

namespace Go.Proofs.YtbgchhgdlceceaaGreatDoor.Shf
open Go.RowKit Heap Idx
open Subj (Tok ML pieces takes)

/-- What has been found so far. -/
def OutE (w wr : World) (o : Value) (L : Ents) : Prop := Row wr 124 2 o L.length (entV L) ∧ ∀ k, own o k → w.heap.size ≤ k

section
variable {W w : World} {G : Nat → Prop} {E : Nat} {A : Ents}

theorem OutE.next {w wr w' : World} {o : Value} {L : Ents} (h : OutE w wr o L) (hb : Below wr.heap.size wr w') : OutE w w' o L := ⟨h.1.kept fun k _ hk => hb.block k hk, h.2⟩

end
end Go.Proofs.YtbgchhgdlceceaaGreatDoor.Shf
