/- The index and the list of entries, both in memory, side by side. -/
import Derived.Test.YtpmffneohcbhbaaDoorShfPut
import Derived.Test.YtpmffneohcbhbaaDoorIdxRel
namespace Go.Proofs.YtpmffneohcbhbaaDoor.Shf
open Go.RowKit Heap Idx
open Subj (Tok ML pieces)

section
variable {W w w1 w2 : World} {M G : Nat → Prop} {x E N N' : Nat} {L L' : Ents}

/-! ### Both -/
structure Joint (W : World) (M G : Nat → Prop) (x E N : Nat) (L : Ents) (w : World) : Prop where
  idx : XAt W M x N L w
  shelf : ShelfAt W G E L w
  apart : ∀ k, M k → ¬ G k

def Both (W : World) (x E N : Nat) (w : World) : Prop := ∃ M G L, Joint W M G x E N L w

theorem Joint.next (h : Joint W M G x E N L w) (hb : Below w.heap.size w w1) : Joint W M G x E N L w1 := ⟨h.idx.next hb, h.shelf.next hb, h.apart⟩
theorem Joint.both (h : Joint W M G x E N L w) : Both W x E N w := ⟨M, G, L, h⟩

theorem Both.next (h : Both W x E N w) (hb : Below w.heap.size w w1) : Both W x E N w1 := by
  obtain ⟨M, G, L, h⟩ := h
  exact ⟨M, G, L, h.next hb⟩
theorem Both.below (h : Both W x E N w) : Below W.heap.size W w := by
  obtain ⟨M, G, L, h⟩ := h
  exact h.shelf.below
theorem Both.mono (h : Both W x E N w) (hN : N ≤ N') : Both W x E N' w := by
  obtain ⟨M, G, L, h⟩ := h
  exact ⟨M, G, L, h.idx.mono hN, h.shelf, h.apart⟩

/-- The index has been called: the list is as it was. -/
theorem Joint.mid (h : Joint W M G x E N L w) (hn : NextX W M x N' w L' w1) : ShelfAt W G E L w1 :=
  h.shelf.kept hn.below hn.2.size (hn.2.same fun k hk hm => h.apart k hm hk)

/-- Both have been called. -/
theorem Joint.done (h : Joint W M G x E N L w) (hn : NextX W M x N' w L' w1) (hs : NextS W G E w1 L' w2) : Both W x E N' w2 := by
  obtain ⟨⟨M', hI, hM⟩, _⟩ := hn
  obtain ⟨⟨G', hS, hG⟩, ht⟩ := hs
  refine ⟨M', G', L', hI.kept hS.below ht.size (ht.same fun k hk hg => ?_), hS, fun k hk hg => ?_⟩
  · rcases hM k hk with h1 | h1
    · exact h.apart k h1 hg
    · have := h.shelf.bG k hg; omega
  · rcases hG k hg with h1 | h1
    · rcases hM k hk with h2 | h2
      · exact h.apart k h2 h1
      · have := h.shelf.bG k h1; omega
    · have := hI.bM hk; omega

/-- Both are new. -/
theorem both_new (hx : XAt W (fun k => k = x) x 0 [] w) (hE : w.heap[E]? = some (.cells #[.slice none 0 0] 28 (0, 0))) (hW : W.heap.size ≤ E) (hne : E ≠ x) : Both W x E 0 w :=
  ⟨_, fun k => k = E, [], hx, ⟨by simp, (fun _ h => by cases h), hx.below, (fun k hk => by omega), (fun k hk => by have := heap_lt hE; omega), rfl, .slice none 0 0, hE, Row.nil _ _ _, fun k hk => by simp [own, Value.ownBlock] at hk⟩, fun k hk hg => hne (by omega)⟩
end
end Go.Proofs.YtpmffneohcbhbaaDoor.Shf
