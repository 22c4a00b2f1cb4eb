/- Parts of the proof, joined: (*Index).Drop, Get, Count; New, walked.; slices.Insert of one element of 2 cells, walked. -/
import Derived.Test.YtbgchhgdlceceaaGreatDoorPlansOwnUptoM11
namespace Go.Proofs.YtbgchhgdlceceaaGreatDoor.Idx
open Go.RowKit Heap
open Subj (Tok ML pieces StrsAt strAt Strs)

section
variable {W w : World} {M : Nat → Prop} {x : Nat} {H : Hp} {vf : Nat → Value} {cnt N : Nat}

end

/-! ### New -/
def newH (x : Nat) : Hp := fun b => if b = x then some ⟨[], [], false, 0, []⟩ else none

theorem good_new (x : Nat) : Good 0 (newH x) x := by
  have key : ∀ b nd, newH x b = some nd → b = x ∧ nd = ⟨[], [], false, 0, []⟩ := by
    intro b nd h
    unfold newH at h
    split at h
    · rename_i e; cases h; exact ⟨e, rfl⟩
    · cases h
  refine ⟨⟨_, if_pos rfl, rfl⟩, fun b nd h => ?_, fun b nd h t ht => ?_, fun b nd k h hk => ?_, fun b nd h => ?_, fun b nd h => ?_⟩
  all_goals obtain ⟨rfl, rfl⟩ := key _ _ h
  · simp
  · simp at ht
  · simp at hk
  · exact List.Pairwise.nil
  · simp

theorem den_new (x : Nat) (ts : List Tok) (m : Int) : ¬ Den (newH x) x ts m := by
  rintro ⟨c, nd, g, e, h, _⟩
  unfold newH at e
  split at e
  · cases e; cases h
  · cases e

theorem idx_new {W w : World} (hb : Below W.heap.size W w) :
    IdxAt W (fun k => k = w.heap.size) w.heap.size (newH w.heap.size) (fun _ => .slice none 0 0) 0 (w.alloc (.cells #[.string ⟨#[]⟩, .slice none 0 0, .bool false, .int .i64 0, .int .i64 0] 222)) := by
  have key : ∀ b nd, newH w.heap.size b = some nd → b = w.heap.size ∧ nd = ⟨[], [], false, 0, []⟩ := by
    intro b nd h
    unfold newH at h
    split at h
    · rename_i e; cases h; exact ⟨e, rfl⟩
    · cases h
  refine ⟨hb.alloc hb.size _, fun k hk => by subst hk; exact hb.size, fun k hk => by subst hk; simp, fun b nd h => ?_, fun b nd h => ?_, fun b nd h => ?_, fun b nd c nc k h1 h2 _ _ => ?_⟩
  · obtain ⟨rfl, rfl⟩ := key _ _ h
    rw [heap_alloc_new]
    unfold nodeO
    rw [if_pos rfl]; rfl
  · obtain ⟨rfl, rfl⟩ := key _ _ h
    exact Row.nil _ _ _
  · obtain ⟨rfl, rfl⟩ := key _ _ h
    exact ⟨rfl, fun k hk => by simp [own, Value.ownBlock] at hk⟩
  · rw [(key _ _ h1).1, (key _ _ h2).1]

theorem new_any (w : World) : Calls Tryz.prog 69 #[] w fun e w' => e = .returned (ptrV w.heap.size) ∧ w' = w.alloc (.cells #[.string ⟨#[]⟩, .slice none 0 0, .bool false, .int .i64 0, .int .i64 0] 222) := by
  go_enter Tryz.func69, Tryz.ntmps69
  go_wp2
  go_ret
  exact ⟨rfl, rfl⟩
end Go.Proofs.YtbgchhgdlceceaaGreatDoor.Idx

namespace Go.Proofs.YtbgchhgdlceceaaGreatDoor.Shf.Ins
open Go.RowKit Heap

theorem setRow_other (w : World) (g k : Nat) (cs : Array Value) (h : k ≠ g) : (w.setRow g cs).heap[k]? = w.heap[k]? := by
  simp only [World.setRow, Array.getElem?_modify]
  rw [if_neg (fun e => h e.symm)]

section
variable {w : World} {n i vb : Nat} {xs N : List Value}

end
end Go.Proofs.YtbgchhgdlceceaaGreatDoor.Shf.Ins
