/- Parts of the proof, joined: slices.Delete of one element of 6 cells, walked.; A store's counts, and a message that goes, walked.; (*Store).Try, walked. -/
import Derived.Test.YtbgchhgdlceceaaGreatDoorPlansOwnUptoM15
import Derived.Deep.RegionHeld3
import Derived.Deep.RegionWith
namespace Go.Proofs.YtbgchhgdlceceaaGreatDoor.Sto.Del
open Go.RowKit Heap

theorem setRow_other (w : World) (g k : Nat) (cs : Array Value) (h : k ≠ g) : (w.setRow g cs).heap[k]? = w.heap[k]? := by
  simp only [World.setRow, Array.getElem?_modify]
  rw [if_neg (fun e => h e.symm)]

section
variable {w : World} {m i : Nat} {xs : List Value}

end
end Go.Proofs.YtbgchhgdlceceaaGreatDoor.Sto.Del

namespace Go.Proofs.YtbgchhgdlceceaaGreatDoor.Sto
open Go.RowKit Heap
open Subj (Tok ML pieces takes)
open Rec (Rc recErr far recA rcOf err_len)
open Idx (Ents ptrV)
open Shf (XAt NextX SortedE)

section
variable {W w : World} {M : Nat → Prop} {x N D : Nat} {I : Ents} {v : Value} {L L0 : List Rc} {bt last : Int}

/-- What stays of a store while its index is called. -/
def Turned (W w : World) (M : Nat → Prop) (x N D : Nat) (I : Ents) (v : Value) (L : List Rc) (bt last : Int) (w' : World) : Prop :=
  ∃ M', SAt W M' x N I D v L bt last w' ∧ (∀ k, M' k → M k ∨ w.heap.size ≤ k) ∧ Heap.Touch M w w'

/-- A store has come of another one. -/
structure Step (w w' : World) (M M' : Nat → Prop) (v v' : Value) (D : Nat) : Prop where
  new : ∀ k, M' k ∨ own v' k → (M k ∨ own v k) ∨ w.heap.size ≤ k
  touch : Heap.Touch (fun k => M k ∨ own v k ∨ k = D) w w'

theorem Step.refl (w : World) (M : Nat → Prop) (v : Value) (D : Nat) : Step w w M M v v D := ⟨fun _ h => .inl h, Heap.Touch.refl _ _⟩
theorem Step.below {w' : World} (hb : Below w.heap.size w w') : Step w w' M M v v D := ⟨fun _ h => .inl h, Heap.Touch.ofBelow hb⟩
theorem Step.trans {w1 w2 : World} {M1 M2 : Nat → Prop} {v1 v2 : Value} (h1 : Step w w1 M M1 v v1 D) (h2 : Step w1 w2 M1 M2 v1 v2 D) (hD : D < w.heap.size) : Step w w2 M M2 v v2 D := by
  refine ⟨fun k hk => ?_, h1.touch.trans h2.touch fun k hk hf => ?_⟩
  · rcases h2.new k hk with e | e
    · exact h1.new k e
    · exact .inr (Nat.le_trans h1.touch.size e)
  · rcases hf with hf | hf | rfl
    · rcases h1.new k (.inl hf) with (e | e) | e
      · exact .inl e
      · exact .inr (.inl e)
      · omega
    · rcases h1.new k (.inr hf) with (e | e) | e
      · exact .inl e
      · exact .inr (.inl e)
      · omega
    · exact .inr (.inr rfl)

theorem Turned.step {N' : Nat} {I' : Ents} {w' : World} (h : Turned W w M x N' D I' v L bt last w') : ∃ M', SAt W M' x N' I' D v L bt last w' ∧ Step w w' M M' v v D := by
  obtain ⟨M', h1, h2, h3⟩ := h
  refine ⟨M', h1, fun k hk => ?_, h3.mono fun _ _ e => .inl e⟩
  rcases hk with hk | hk
  · exact (h2 k hk).imp .inl id
  · exact .inl (.inr hk)

theorem good_parts {r : Rc} (h1 : recErr r = 0) (h2 : r.kind = 1) : Subj.err false r.subj = 0 ∧ r.subj.length ≤ 135 ∧ r.head.length + r.data.length ≤ 256 := by
  have hs := Rec.recErr_sizes h1
  unfold recErr at h1
  split at h1
  · omega
  · rename_i hq
    split at h1
    · omega
    · rename_i h0
      exact ⟨by omega, hs.2.2.2.2.2.2.1, hs.2.2.2.2.2.2.2⟩

end
end Go.Proofs.YtbgchhgdlceceaaGreatDoor.Sto

namespace Go.Proofs.YtbgchhgdlceceaaGreatDoor.Sto
open Go.RowKit Heap
open Subj (Tok ML pieces takes)
open Rec (Rc recErr far recA rcOf err_len check_any)
open Idx (Ents ptrV)
open Shf (XAt NextX SortedE)

section
variable {W w : World} {M : Nat → Prop} {x N D : Nat} {I : Ents} {v : Value} {L : List Rc} {bt last : Int}

end
end Go.Proofs.YtbgchhgdlceceaaGreatDoor.Sto
