/- Parts of the proof, joined: The reference's chest: Apply, walked.; A store and the reference's chest side by side in memory. -/
import Derived.Test.YtbgchhgdlceceaaGreatDoorPlansOwnUptoM38
namespace Go.Proofs.YtbgchhgdlceceaaGreatDoor.Sto
open Go.RowKit Heap
open Subj (Tok ML pieces takes)
open Rec (Rc recErr far)
open Idx (Ents ptrV)

section
variable {W w w1 : World} {C : Nat} {v v2 : Value} {L L2 : List Rc} {last : Int} {I : Ents}

theorem ChAt.put (h : ChAt W C v L last w) (ht : Heap.Touch (own v) w w1) (hr : Row w1 33 6 v2 L2.length (recsV L2)) (ho : ∀ k, own v2 k → own v k ∨ w.heap.size ≤ k) :
    ChAt W C v2 L2 last (w1.setCell ⟨C, 0, none⟩ v2) ∧ Heap.Touch (fun k => k = C ∨ own v k) w (w1.setCell ⟨C, 0, none⟩ v2) := by
  have hC := heap_lt h.cell
  have hc1 := (ht.block C hC fun e => (h.mine C e).2 rfl).trans h.cell
  have htt : Heap.Touch (fun k => k = C ∨ own v k) w (w1.setCell ⟨C, 0, none⟩ v2) := (ht.mono fun _ _ e => .inr e).setCell (p := ⟨C, 0, none⟩) (.inl (.inl rfl)) _
  have hm : ∀ k, own v2 k → W.heap.size ≤ k ∧ k ≠ C := fun k hk => by
    rcases ho k hk with e | e
    · exact h.mine k e
    · exact ⟨Nat.le_trans h.below.size e, by omega⟩
  refine ⟨⟨?_, ?_, h.old, hm, ?_⟩, htt⟩
  · exact heap_setCell_same _ _ _ _ _ _ hc1
  · exact hr.kept fun k hk _ => heap_setCell_other _ _ _ _ (hm k hk).2
  · exact h.below.trans (htt.below h.below.size fun k hk => by
      rcases hk with rfl | hk
      · exact h.old
      · exact (h.mine k hk).1)

end
end Go.Proofs.YtbgchhgdlceceaaGreatDoor.Sto

namespace Go.Proofs.YtbgchhgdlceceaaGreatDoor.Sto
open Go.RowKit Heap
open Subj (Tok ML pieces takes)
open Rec (Rc recErr far)
open Idx (Ents ptrV)

theorem dist_sub {A B : List Rc} (h : ∀ s ∈ subjs A, s ∈ subjs B) : dist A ≤ dist B := nodup_le (nodup_subjs A) h

theorem dist_after {L : List Rc} {last : Int} {r : Rc} (h : dist L ≤ 100) : dist (after L last r).1 ≤ 100 := by
  unfold after
  split
  · rename_i h0
    have hz := try_zero h0
    show dist (leftS L r) ≤ 100
    by_cases hk : r.kind = 1
    · have h1 := (hz.2.1 hk).2.2
      have e : leftS L r = L ++ [r] := by unfold leftS; rw [if_pos hk]
      rw [e]
      by_cases hc : cntR L r.subj = 0
      · have h2 : dist (L ++ [r]) ≤ (r.subj :: subjs L).length := nodup_le (nodup_subjs _) fun s hs => by
          obtain ⟨x, hx, hxs⟩ := mem_subjs.1 hs
          rcases List.mem_append.1 hx with hx | hx
          · exact List.mem_cons.2 (.inr (mem_subjs.2 ⟨x, hx, hxs⟩))
          · simp at hx; subst hx; exact List.mem_cons.2 (.inl hxs.symm)
        have h3 : dist L ≠ 100 := h1.resolve_left fun h => h hc
        rw [List.length_cons] at h2
        unfold dist at h h2 h3 ⊢
        omega
      · refine Nat.le_trans (dist_sub fun s hs => ?_) h
        obtain ⟨x, hx, hxs⟩ := mem_subjs.1 hs
        rcases List.mem_append.1 hx with hx | hx
        · exact mem_subjs.2 ⟨x, hx, hxs⟩
        · simp at hx; subst hx; rw [← hxs]; exact mem_subjs.2 (cnt_ne.1 hc)
    · refine Nat.le_trans (dist_sub fun s hs => ?_) h
      obtain ⟨x, hx, hxs⟩ := mem_subjs.1 hs
      refine mem_subjs.2 ⟨x, ?_, hxs⟩
      unfold leftS at hx
      rw [if_neg hk] at hx
      split at hx
      · exact (List.mem_filter.1 hx).1
      · split at hx
        · exact (List.mem_filter.1 hx).1
        · exact hx
  · exact h

/-- A store at D, a chest at C. -/
structure BothAt (W : World) (F : Nat → Prop) (D B C : Nat) (v : Value) (L : List Rc) (last : Int) (L2 : List Rc) (last2 : Int) (w : World) : Prop where
  st : StoreAt W F D B L last w
  ch : ChAt W C v L2 last2 w
  fC : ¬ F C
  fv : ∀ k, own v k → ¬ F k

section
variable {W w w1 : World} {F : Nat → Prop} {D B B' C : Nat} {v : Value} {L L2 L' : List Rc} {last last2 last' : Int}

theorem BothAt.next (h : BothAt W F D B C v L last L2 last2 w) (hb : Below w.heap.size w w1) : BothAt W F D B C v L last L2 last2 w1 := ⟨h.st.next hb, h.ch.next hb, h.fC, h.fv⟩

theorem ChAt.touch (h : ChAt W C v L last w) (ht : Heap.Touch F w w1) (hF : ∀ k, F k → W.heap.size ≤ k) (fC : ¬ F C) (fv : ∀ k, own v k → ¬ F k) : ChAt W C v L last w1 :=
  ⟨(ht.block C (heap_lt h.cell) fC).trans h.cell, h.row.kept fun k hk hlt => ht.block k hlt (fv k hk), h.old, h.mine, h.below.trans (ht.below h.below.size hF)⟩

theorem BothAt.store (h : BothAt W F D B C v L last L2 last2 w) (hn : NextSt W F D B' w L' last' w1) : ∃ F', BothAt W F' D B' C v L' last' L2 last2 w1 ∧ ∀ k, F' k → F k ∨ w.heap.size ≤ k := by
  obtain ⟨⟨F', hS, hF⟩, ht⟩ := hn
  refine ⟨F', ⟨hS, h.ch.touch ht h.st.newF h.fC h.fv, fun hk => ?_, fun k hk hk2 => ?_⟩, hF⟩
  · rcases hF C hk with e | e
    · exact h.fC e
    · have := heap_lt h.ch.cell; omega
  · rcases hF k hk2 with e | e
    · exact h.fv k hk e
    · have := h.ch.row.lt k hk; omega

theorem BothAt.below (h : BothAt W F D B C v L last L2 last2 w) : Below W.heap.size W w := h.ch.below
end
end Go.Proofs.YtbgchhgdlceceaaGreatDoor.Sto
