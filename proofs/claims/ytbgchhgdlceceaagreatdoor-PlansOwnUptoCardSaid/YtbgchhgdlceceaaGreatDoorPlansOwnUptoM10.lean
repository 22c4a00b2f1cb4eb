/- Parts of the proof, joined: slices.Insert of one element of 1 cells, walked.; (*Index).Put, walked. -/
import Derived.Test.YtbgchhgdlceceaaGreatDoorPlansOwnUptoM9
import Derived.Lib.AppendZerosOnto
import Derived.Lib.Overlaps
import Derived.Laws.CopyRow
import Derived.Shelf.Spec.SlicesInsert
import Derived.Deep.RegionLaw
namespace Go.Proofs.YtbgchhgdlceceaaGreatDoor.Idx.Ins
open Go.RowKit Heap

theorem setRow_other (w : World) (g k : Nat) (cs : Array Value) (h : k ≠ g) : (w.setRow g cs).heap[k]? = w.heap[k]? := by
  simp only [World.setRow, Array.getElem?_modify]
  rw [if_neg (fun e => h e.symm)]

section
variable {w : World} {n i vb : Nat} {xs N : List Value}

end
end Go.Proofs.YtbgchhgdlceceaaGreatDoor.Idx.Ins

namespace Go.Proofs.YtbgchhgdlceceaaGreatDoor.Idx
open Go.RowKit Heap
open Subj (Tok ML pieces StrsAt strAt)

/-- The same is told. -/
def SameDen (H H' : Hp) (x : Nat) : Prop := ∀ ts m, Den H' x ts m ↔ Den H x ts m

/-- An index that has come of another one. -/
structure Next (W : World) (M : Nat → Prop) (x N : Nat) (cnt : Nat) (w : World) (H' : Hp) (w' : World) : Prop where
  good : Good N H' x
  mem : ∃ M' vf', IdxAt W M' x H' vf' cnt w' ∧ ∀ k, M' k → M k ∨ w.heap.size ≤ k
  touch : Heap.Touch M w w'

section
variable {W w : World} {M : Nat → Prop} {x : Nat} {H : Hp} {vf : Nat → Value} {cnt N : Nat}

theorem Next.refl (hG : Good N H x) (hM : IdxAt W M x H vf cnt w) : Next W M x N cnt w H w := ⟨hG, ⟨M, vf, hM, fun _ h => .inl h⟩, Heap.Touch.refl _ _⟩

theorem Next.from {H' : Hp} {w0 w' : World} (h : Next W M x N cnt w H' w') (hb : Below w0.heap.size w0 w) : Next W M x N cnt w0 H' w' := by
  obtain ⟨hG, ⟨M', vf', h1, h2⟩, h3⟩ := h
  refine ⟨hG, ⟨M', vf', h1, fun k hk => ?_⟩, (Heap.Touch.ofBelow hb).trans h3 fun _ _ h => h⟩
  rcases h2 k hk with e | e
  · exact .inl e
  · exact .inr (Nat.le_trans hb.size e)

/-- One index comes of one that has come. -/
theorem Next.trans {H1 H2 : Hp} {M1 : Nat → Prop} {w1 w2 : World} {N2 cnt2 : Nat} (h1 : Next W M x N cnt w H1 w1) (hm : ∀ k, M1 k → M k ∨ w.heap.size ≤ k) (h2 : Next W M1 x N2 cnt2 w1 H2 w2) : Next W M x N2 cnt2 w H2 w2 := by
  obtain ⟨hG, ⟨M', vf', h3, h4⟩, h5⟩ := h2
  refine ⟨hG, ⟨M', vf', h3, fun k hk => ?_⟩, h1.touch.trans h5 fun k hk hf => ?_⟩
  · rcases h4 k hk with e | e
    · exact hm k e
    · exact .inr (Nat.le_trans h1.touch.size e)
  · rcases hm k hf with e | e
    · exact e
    · omega

end
end Go.Proofs.YtbgchhgdlceceaaGreatDoor.Idx
