/- Parts of the proof, joined: (*Index).Put, walked.; The index beside a list of entries: what each call does to it, in plain Lean; then the index's contracts, told by the list alone.; rillref.Subject, Filter, walked; and these and subject's as calls that keep. -/
import Derived.Test.YtbgchhgdlceceaaGreatDoorPlansOwnUptoM13
namespace Go.Proofs.YtbgchhgdlceceaaGreatDoor.Idx
open Go.RowKit Heap
open Subj (Tok ML pieces StrsAt strAt)

/-- A round of the loop begins. -/
structure PSt (W : World) (M : Nat → Prop) (x N : Nat) (H : Hp) (cnt : Nat) (l : List Tok) (k c : Nat) (w wr : World) : Prop where
  ex : ∃ H' M' vf', Next W M x (N + k) cnt w H' wr ∧ IdxAt W M' x H' vf' cnt wr ∧ (∀ j, M' j → M j ∨ w.heap.size ≤ j) ∧ Go H' x (l.take k) c ∧ (∃ nd, H' c = some nd) ∧ SameDen H H' x

section
variable {W w : World} {M : Nat → Prop} {x : Nat} {H : Hp} {vf : Nat → Value} {cnt N : Nat}

theorem Next.mono {H' : Hp} {w' : World} {N2 : Nat} (h : Next W M x N cnt w H' w') (hN : N ≤ N2) : Next W M x N2 cnt w H' w' := { h with good := h.good.mono hN }

end
end Go.Proofs.YtbgchhgdlceceaaGreatDoor.Idx

namespace Go.Proofs.YtbgchhgdlceceaaGreatDoor.Shf
open Go.RowKit Heap Idx
open Subj (Tok ML pieces)

section
variable {H H' : Hp} {x : Nat} {L : Ents}

end


/-- The index x in memory, of the blocks M, tells the list L. -/
structure XAt (W : World) (M : Nat → Prop) (x N : Nat) (L : Ents) (w : World) : Prop where
  few : L.length ≤ 100
  ex : ∃ (H : Hp) (vf : Nat → Value), Idx.Good N H x ∧ IdxAt W M x H vf L.length w ∧ Rel H x L

/-- An index that has come of another one. -/
def NextX (W : World) (M : Nat → Prop) (x N : Nat) (w : World) (L' : Ents) (w' : World) : Prop :=
  (∃ M', XAt W M' x N L' w' ∧ ∀ k, M' k → M k ∨ w.heap.size ≤ k) ∧ Heap.Touch M w w'

section
variable {W w w1 : World} {M : Nat → Prop} {x N N' : Nat} {L L' : Ents}

theorem XAt.below (h : XAt W M x N L w) : Below W.heap.size W w := by
  obtain ⟨H, vf, _, h2, _⟩ := h.ex
  exact h2.below
theorem XAt.sorted (h : XAt W M x N L w) : SortedE L := by
  obtain ⟨H, vf, _, _, h3⟩ := h.ex
  exact h3.sorted
theorem XAt.bM (h : XAt W M x N L w) {k : Nat} (hk : M k) : k < w.heap.size := by
  obtain ⟨H, vf, _, h2, _⟩ := h.ex
  exact h2.bM k hk
theorem XAt.newM (h : XAt W M x N L w) {k : Nat} (hk : M k) : W.heap.size ≤ k := by
  obtain ⟨H, vf, _, h2, _⟩ := h.ex
  exact h2.newM k hk
theorem XAt.kept (h : XAt W M x N L w) (hb : Below W.heap.size W w1) (hsz : w.heap.size ≤ w1.heap.size) (hs : Same M w w1) : XAt W M x N L w1 := by
  obtain ⟨H, vf, h1, h2, h3⟩ := h.ex
  exact ⟨h.few, H, vf, h1, h2.kept hb hsz hs, h3⟩
theorem XAt.next (h : XAt W M x N L w) (hb : Below w.heap.size w w1) : XAt W M x N L w1 := by
  obtain ⟨H, vf, h1, h2, h3⟩ := h.ex
  exact ⟨h.few, H, vf, h1, h2.next hb, h3⟩
theorem XAt.mono (h : XAt W M x N L w) (hN : N ≤ N') : XAt W M x N' L w := by
  obtain ⟨H, vf, h1, h2, h3⟩ := h.ex
  exact ⟨h.few, H, vf, h1.mono hN, h2, h3⟩

theorem NextX.below (h : NextX W M x N w L' w1) : Below W.heap.size W w1 := by
  obtain ⟨⟨M', h1, _⟩, _⟩ := h
  exact h1.below

theorem x_new (hb : Below W.heap.size W w) : XAt W (fun k => k = w.heap.size) w.heap.size 0 [] (w.alloc (.cells #[.string ⟨#[]⟩, .slice none 0 0, .bool false, .int .i64 0, .int .i64 0] 222)) :=
  ⟨by simp, newH w.heap.size, _, good_new _, idx_new hb, ⟨fun ts n => ⟨fun hd => absurd hd (den_new _ ts n), fun ⟨s, hs, _⟩ => by cases hs⟩, List.Pairwise.nil⟩⟩
end
end Go.Proofs.YtbgchhgdlceceaaGreatDoor.Shf

namespace Go.Proofs.YtbgchhgdlceceaaGreatDoor.Subj
open Go.RowKit

end Go.Proofs.YtbgchhgdlceceaaGreatDoor.Subj
