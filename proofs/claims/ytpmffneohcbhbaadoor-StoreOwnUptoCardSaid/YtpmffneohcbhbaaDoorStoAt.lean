/- A store as a whole: what is right of it, its blocks, what comes of it. -/
import Derived.Test.YtpmffneohcbhbaaDoorStoPurge
import Derived.Test.YtpmffneohcbhbaaDoorStoDist
namespace Go.Proofs.YtpmffneohcbhbaaDoor.Sto
open Go.RowKit Heap
open Subj (Tok ML pieces takes StrsAt)
open Rec (Rc recErr far)
open Idx (Ents ptrV)
open Shf (XAt NextX SortedE)

/-- The store at D in memory, of the blocks F. -/
structure StoreAt (W : World) (F : Nat → Prop) (D B : Nat) (L : List Rc) (last : Int) (w : World) : Prop where
  ex : ∃ M x N I v, SAt W M x N I D v L (bytesR L : Nat) last w ∧ Right L last I ∧ N + 8 * L.length ≤ B ∧ ∀ k, M k ∨ own v k → F k
  fD : F D
  newF : ∀ k, F k → W.heap.size ≤ k
  bF : ∀ k, F k → k < w.heap.size

/-- A store that has come of another one. -/
def NextSt (W : World) (F : Nat → Prop) (D B : Nat) (w : World) (L' : List Rc) (last' : Int) (w' : World) : Prop :=
  (∃ F', StoreAt W F' D B L' last' w' ∧ ∀ k, F' k → F k ∨ w.heap.size ≤ k) ∧ Heap.Touch F w w'

section
variable {W w w1 : World} {F : Nat → Prop} {D B B' : Nat} {L L' : List Rc} {last last' : Int}

theorem StoreAt.below (h : StoreAt W F D B L last w) : Below W.heap.size W w := by
  obtain ⟨M, x, N, I, v, h1, _⟩ := h.ex
  exact h1.idx.below

theorem StoreAt.right (h : StoreAt W F D B L last w) : ∃ I, Right L last I := by
  obtain ⟨M, x, N, I, v, _, h2, _⟩ := h.ex
  exact ⟨I, h2⟩

theorem StoreAt.mono (h : StoreAt W F D B L last w) (hB : B ≤ B') : StoreAt W F D B' L last w := by
  obtain ⟨M, x, N, I, v, h1, h2, h3, h4⟩ := h.ex
  exact ⟨⟨M, x, N, I, v, h1, h2, by omega, h4⟩, h.fD, h.newF, h.bF⟩

theorem StoreAt.kept (h : StoreAt W F D B L last w) (hb : Below W.heap.size W w1) (hsz : w.heap.size ≤ w1.heap.size) (hs : Same F w w1) : StoreAt W F D B L last w1 := by
  obtain ⟨M, x, N, I, v, h1, h2, h3, h4⟩ := h.ex
  refine ⟨⟨M, x, N, I, v, ⟨h1.idx.kept hb hsz fun k hk hlt => hs k (h4 k (.inl hk)) hlt, (hs D h.fD h1.lt).trans h1.cell, h1.row.kept fun k hk hlt => hs k (h4 k (.inr hk)) hlt, h1.mD, h1.oldD, h1.vM⟩, h2, h3, h4⟩, h.fD, h.newF, fun k hk => Nat.lt_of_lt_of_le (h.bF k hk) hsz⟩

theorem StoreAt.next (h : StoreAt W F D B L last w) (hb : Below w.heap.size w w1) : StoreAt W F D B L last w1 :=
  h.kept (h.below.trans (hb.mono h.below.size)) hb.size fun k _ hk => hb.block k hk

theorem NextSt.same (h : StoreAt W F D B L last w) (hb : Below w.heap.size w w1) (hB : B ≤ B') : NextSt W F D B' w L last w1 := ⟨⟨F, (h.next hb).mono hB, fun _ hk => .inl hk⟩, Heap.Touch.ofBelow hb⟩

/-- Steps joined into one. -/
theorem StoreAt.step (h : StoreAt W F D B L last w) {M M' : Nat → Prop} {v v' : Value} {x N' : Nat} {I' : Ents} (hMv : ∀ k, M k ∨ own v k → F k) (hs : SAt W M' x N' I' D v' L' (bytesR L' : Nat) last' w1) (hR : Right L' last' I') (hB : N' + 8 * L'.length ≤ B') (hst : Step w w1 M M' v v' D) : NextSt W F D B' w L' last' w1 := by
  have ht : Heap.Touch F w w1 := hst.touch.mono fun k _ hk => by
    rcases hk with hk | hk | rfl
    · exact hMv k (.inl hk)
    · exact hMv k (.inr hk)
    · exact h.fD
  refine ⟨⟨fun k => (F k ∨ w.heap.size ≤ k) ∧ k < w1.heap.size, ⟨⟨M', x, N', I', v', hs, hR, hB, fun k hk => ⟨(hst.new k hk).imp (hMv k) id, ?_⟩⟩, ⟨.inl h.fD, hs.lt⟩, fun k hk => ?_, fun k hk => hk.2⟩, fun k hk => hk.1⟩, ht⟩
  · rcases hk with hk | hk
    · exact hs.idx.bM hk
    · exact hs.row.lt k hk
  · rcases hk.1 with e | e
    · exact h.newF k e
    · exact Nat.le_trans h.below.size e

theorem NextSt.below (h : NextSt W F D B w L' last' w1) : Below W.heap.size W w1 := by
  obtain ⟨⟨F', h1, _⟩, _⟩ := h
  exact h1.below
end
end Go.Proofs.YtpmffneohcbhbaaDoor.Sto
