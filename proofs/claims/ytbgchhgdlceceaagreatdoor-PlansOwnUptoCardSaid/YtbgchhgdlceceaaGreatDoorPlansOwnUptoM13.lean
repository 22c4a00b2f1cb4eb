/- Parts of the proof, joined: (*node).walk, walked by its own recursion.; (*node).walk: kid by kid.; (*Index).Find, walked. -/
import Derived.Test.YtbgchhgdlceceaaGreatDoorPlansOwnUptoM12
namespace Go.Proofs.YtbgchhgdlceceaaGreatDoor.Idx
open Go.RowKit Heap
open Subj (Tok ML pieces StrsAt strAt Strs)

def entC (e : Tok × Int) : List Value := [.string ⟨e.1.toArray⟩, .int .i64 e.2]
def entV (l : Ents) : List Value := l.flatMap entC

/-- What a walk leaves: so many entries more. -/
def WalkPost (w : World) (v : Value) (A : Ents) (e : Ending) (w' : World) : Prop :=
  ∃ v', e = .returned v' ∧ Row w' 124 2 v' A.length (entV A) ∧ Heap.Touch (own v) w w' ∧ ∀ k, own v' k → own v k ∨ w.heap.size ≤ k

/-- The slice of entries lies apart from the tree, and above W. -/
def OutOk (W : World) (M : Nat → Prop) (v : Value) : Prop := ∀ k, own v k → W.heap.size ≤ k ∧ ¬ M k

section
variable {W : World} {M : Nat → Prop} {x : Nat} {H : Hp} {vf : Nat → Value} {cnt N : Nat}

theorem OutOk.next {w : World} {v v' : Value} (h : IdxAt W M x H vf cnt w) (ho : OutOk W M v) (hv : ∀ k, own v' k → own v k ∨ w.heap.size ≤ k) : OutOk W M v' := fun k hk => by
  rcases hv k hk with h1 | h1
  · exact ho k h1
  · exact ⟨Nat.le_trans h.below.size h1, fun hM => by have := h.bM k hM; omega⟩

theorem WalkPost.ext {w : World} {v : Value} {A B : Ents} {e : Ending} {w' : World} (h : WalkPost w v A e w') (hAB : A = B) : WalkPost w v B e w' := hAB ▸ h

/-- One call behind another. -/
theorem WalkPost.after {w w1 w' : World} {v v1 : Value} {A : Ents} {e : Ending} (ht : Heap.Touch (own v) w w1) (hv : ∀ k, own v1 k → own v k ∨ w.heap.size ≤ k) (h : WalkPost w1 v1 A e w') : WalkPost w v A e w' := by
  obtain ⟨v', rfl, h1, h2, h3⟩ := h
  refine ⟨v', rfl, h1, ht.trans h2 fun k hk hf => ?_, fun k hk => ?_⟩
  · rcases hv k hf with e | e
    · exact e
    · omega
  · rcases h3 k hk with e | e
    · exact hv k e
    · exact .inr (Nat.le_trans ht.size e)

end
end Go.Proofs.YtbgchhgdlceceaaGreatDoor.Idx

namespace Go.Proofs.YtbgchhgdlceceaaGreatDoor.Idx
open Go.RowKit Heap
open Subj (Tok ML pieces StrsAt strAt Strs)

section
variable {W : World} {M : Nat → Prop} {x : Nat} {H : Hp} {vf : Nat → Value} {cnt N : Nat}

end
end Go.Proofs.YtbgchhgdlceceaaGreatDoor.Idx

namespace Go.Proofs.YtbgchhgdlceceaaGreatDoor.Idx
open Go.RowKit Heap
open Subj (Tok ML pieces StrsAt strAt Strs)

section
variable {W w : World} {M : Nat → Prop} {x : Nat} {H : Hp} {vf : Nat → Value} {cnt N : Nat}

end
end Go.Proofs.YtbgchhgdlceceaaGreatDoor.Idx
