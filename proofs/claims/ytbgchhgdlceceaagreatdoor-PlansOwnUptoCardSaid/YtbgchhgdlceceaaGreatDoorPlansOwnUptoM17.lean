/- Parts of the proof, joined: (*Store).purge, walked.; How many subjects there are; what a store tells of a record, without its index. No program here.; A store as a whole: what is right of it, its blocks, what comes of it.; How many messages there are of each subject: the map in which the reference counts. -/
import Derived.Test.YtbgchhgdlceceaaGreatDoorPlansOwnUptoM16
import Derived.Maps.OwnSet
namespace Go.Proofs.YtbgchhgdlceceaaGreatDoor.Sto
open Go.RowKit Heap
open Subj (Tok ML pieces takes StrsAt)
open Rec (Rc recErr far recA rcOf err_len check_any)
open Idx (Ents ptrV split_dot)
open Shf (XAt NextX SortedE)

def lenOf (D : Nat) (w : World) : Nat := match w.cell? ⟨D, 0, none⟩ with
  | some (.slice _ n _) => n
  | _ => 0

section
variable {W w : World} {M : Nat → Prop} {x N D : Nat} {I : Ents} {v : Value} {L : List Rc} {bt last : Int}

theorem SAt.len (h : SAt W M x N I D v L bt last w) : lenOf D w = L.length := by
  obtain ⟨a, c, rfl⟩ := h.row.slice
  unfold lenOf
  rw [(fourS h.cell).1]

/-- In the midst of a purge. -/
def PSt (W w0 : World) (M : Nat → Prop) (x N D : Nat) (v : Value) (last : Int) (cur : List Rc) (w : World) : Prop :=
  ∃ M' I' v' N', SAt W M' x N' I' D v' cur (bytesR cur : Nat) last w ∧ Counts I' cur ∧ Step w0 w M M' v v' D ∧ N' + 8 * cur.length ≤ N

theorem PSt.next {w0 w1 : World} {cur : List Rc} (h : PSt W w0 M x N D v last cur w) (hb : Below w.heap.size w w1) (hD : D < w0.heap.size) : PSt W w0 M x N D v last cur w1 := by
  obtain ⟨M', I', v', N', h1, h2, h3, h4⟩ := h
  exact ⟨M', I', v', N', h1.next hb, h2, h3.trans (Step.below hb) hD, h4⟩

end
end Go.Proofs.YtbgchhgdlceceaaGreatDoor.Sto

namespace Go.Proofs.YtbgchhgdlceceaaGreatDoor.Sto
open Subj (Tok pieces takes)
open Rec (Rc recErr far)
open Idx (Ents before)
open Shf (SortedE)

/-- The subjects, each once. -/
def subjs : List Rc → List Tok
  | [] => []
  | r :: L => if r.subj ∈ subjs L then subjs L else r.subj :: subjs L

theorem mem_subjs : ∀ {L : List Rc} {s : Tok}, s ∈ subjs L ↔ ∃ r ∈ L, r.subj = s
  | [], s => by simp [subjs]
  | a :: L, s => by
    unfold subjs
    split
    · rename_i h
      rw [mem_subjs]
      constructor
      · rintro ⟨r, hr, e⟩; exact ⟨r, by simp [hr], e⟩
      · rintro ⟨r, hr, e⟩
        rcases List.mem_cons.1 hr with rfl | hr
        · rw [← e]; exact mem_subjs.1 h
        · exact ⟨r, hr, e⟩
    · rw [List.mem_cons, mem_subjs]
      constructor
      · rintro (rfl | ⟨r, hr, e⟩)
        · exact ⟨a, by simp, rfl⟩
        · exact ⟨r, by simp [hr], e⟩
      · rintro ⟨r, hr, e⟩
        rcases List.mem_cons.1 hr with rfl | hr
        · exact .inl e.symm
        · exact .inr ⟨r, hr, e⟩

theorem nodup_subjs : ∀ L : List Rc, (subjs L).Nodup
  | [] => List.nodup_nil
  | a :: L => by
    unfold subjs
    split
    · exact nodup_subjs L
    · rename_i h
      exact List.nodup_cons.2 ⟨h, nodup_subjs L⟩

theorem nodup_le {α : Type} [DecidableEq α] : ∀ {A B : List α}, A.Nodup → (∀ x ∈ A, x ∈ B) → A.length ≤ B.length
  | [], _, _, _ => Nat.zero_le _
  | a :: A, B, hn, h => by
    have ha := h a (by simp)
    have h1 := nodup_le (A := A) (B := B.erase a) (List.nodup_cons.1 hn).2 fun x hx => by
      have hne : x ≠ a := fun e => (List.nodup_cons.1 hn).1 (e ▸ hx)
      exact (List.mem_erase_of_ne hne).2 (h x (by simp [hx]))
    have h2 := List.length_erase_of_mem ha
    have h3 := List.length_pos_of_mem ha
    rw [List.length_cons]
    omega

theorem cnt_ne {L : List Rc} {s : Tok} : cntR L s ≠ 0 ↔ ∃ r ∈ L, r.subj = s := by
  unfold cntR
  rw [← Nat.pos_iff_ne_zero, List.countP_pos_iff]
  simp

def dist (L : List Rc) : Nat := (subjs L).length

/-- What is told of a record ahead of it. -/
def tryD (L : List Rc) (last : Int) (r : Rc) : Nat :=
  if recErr r ≠ 0 then recErr r
  else if r.kind = 1 then if r.seq ≤ last then 9 else if L.length = 200 ∨ (cntR L r.subj = 0 ∧ dist L = 100) then 8 else 0
  else if r.kind = 2 then if hasSeq L r.seq then 0 else 4
  else 0

/-- Behind a record. -/
def after (L : List Rc) (last : Int) (r : Rc) : List Rc × Int := if tryD L last r = 0 then (leftS L r, lastS last r) else (L, last)
end Go.Proofs.YtbgchhgdlceceaaGreatDoor.Sto

namespace Go.Proofs.YtbgchhgdlceceaaGreatDoor.Sto
open Go.RowKit Heap
open Subj (Tok ML pieces takes StrsAt)
open Rec (Rc recErr far)
open Idx (Ents ptrV)
open Shf (XAt NextX SortedE)

/-- The store at D in memory, of the blocks F. -/
structure StoreAt (W : World) (F : Nat → Prop) (D B : Nat) (L : List Rc) (last : Int) (w : World) : Prop where
  ex : ∃ M x N I v, SAt W M x N I D v L (bytesR L : Nat) last w ∧ Right L last I ∧ N + 8 * L.length ≤ B ∧ ∀ k, M k ∨ own v k → F k
  fD : F D
  newF : ∀ k, F k → W.heap.size ≤ k
  bF : ∀ k, F k → k < w.heap.size

/-- A store that has come of another one. -/
def NextSt (W : World) (F : Nat → Prop) (D B : Nat) (w : World) (L' : List Rc) (last' : Int) (w' : World) : Prop :=
  (∃ F', StoreAt W F' D B L' last' w' ∧ ∀ k, F' k → F k ∨ w.heap.size ≤ k) ∧ Heap.Touch F w w'

section
variable {W w w1 : World} {F : Nat → Prop} {D B B' : Nat} {L L' : List Rc} {last last' : Int}

theorem StoreAt.below (h : StoreAt W F D B L last w) : Below W.heap.size W w := by
  obtain ⟨M, x, N, I, v, h1, _⟩ := h.ex
  exact h1.idx.below

theorem StoreAt.right (h : StoreAt W F D B L last w) : ∃ I, Right L last I := by
  obtain ⟨M, x, N, I, v, _, h2, _⟩ := h.ex
  exact ⟨I, h2⟩

theorem StoreAt.mono (h : StoreAt W F D B L last w) (hB : B ≤ B') : StoreAt W F D B' L last w := by
  obtain ⟨M, x, N, I, v, h1, h2, h3, h4⟩ := h.ex
  exact ⟨⟨M, x, N, I, v, h1, h2, by omega, h4⟩, h.fD, h.newF, h.bF⟩

theorem StoreAt.kept (h : StoreAt W F D B L last w) (hb : Below W.heap.size W w1) (hsz : w.heap.size ≤ w1.heap.size) (hs : Same F w w1) : StoreAt W F D B L last w1 := by
  obtain ⟨M, x, N, I, v, h1, h2, h3, h4⟩ := h.ex
  refine ⟨⟨M, x, N, I, v, ⟨h1.idx.kept hb hsz fun k hk hlt => hs k (h4 k (.inl hk)) hlt, (hs D h.fD h1.lt).trans h1.cell, h1.row.kept fun k hk hlt => hs k (h4 k (.inr hk)) hlt, h1.mD, h1.oldD, h1.vM⟩, h2, h3, h4⟩, h.fD, h.newF, fun k hk => Nat.lt_of_lt_of_le (h.bF k hk) hsz⟩

theorem StoreAt.next (h : StoreAt W F D B L last w) (hb : Below w.heap.size w w1) : StoreAt W F D B L last w1 :=
  h.kept (h.below.trans (hb.mono h.below.size)) hb.size fun k _ hk => hb.block k hk

theorem NextSt.same (h : StoreAt W F D B L last w) (hb : Below w.heap.size w w1) (hB : B ≤ B') : NextSt W F D B' w L last w1 := ⟨⟨F, (h.next hb).mono hB, fun _ hk => .inl hk⟩, Heap.Touch.ofBelow hb⟩

/-- Steps joined into one. -/
theorem StoreAt.step (h : StoreAt W F D B L last w) {M M' : Nat → Prop} {v v' : Value} {x N' : Nat} {I' : Ents} (hMv : ∀ k, M k ∨ own v k → F k) (hs : SAt W M' x N' I' D v' L' (bytesR L' : Nat) last' w1) (hR : Right L' last' I') (hB : N' + 8 * L'.length ≤ B') (hst : Step w w1 M M' v v' D) : NextSt W F D B' w L' last' w1 := by
  have ht : Heap.Touch F w w1 := hst.touch.mono fun k _ hk => by
    rcases hk with hk | hk | rfl
    · exact hMv k (.inl hk)
    · exact hMv k (.inr hk)
    · exact h.fD
  refine ⟨⟨fun k => (F k ∨ w.heap.size ≤ k) ∧ k < w1.heap.size, ⟨⟨M', x, N', I', v', hs, hR, hB, fun k hk => ⟨(hst.new k hk).imp (hMv k) id, ?_⟩⟩, ⟨.inl h.fD, hs.lt⟩, fun k hk => ?_, fun k hk => hk.2⟩, fun k hk => hk.1⟩, ht⟩
  · rcases hk with hk | hk
    · exact hs.idx.bM hk
    · exact hs.row.lt k hk
  · rcases hk.1 with e | e
    · exact h.newF k e
    · exact Nat.le_trans h.below.size e

theorem NextSt.below (h : NextSt W F D B w L' last' w1) : Below W.heap.size W w1 := by
  obtain ⟨⟨F', h1, _⟩, _⟩ := h
  exact h1.below
end
end Go.Proofs.YtbgchhgdlceceaaGreatDoor.Sto

namespace Go.Proofs.YtbgchhgdlceceaaGreatDoor.Sto
open Go.RowKit
open Subj (Tok)
open Rec (Rc)
open Go.Maps Go.WideShapes

section
variable {H : Type} {D : DataW H} {L : List Rc}

end
end Go.Proofs.YtbgchhgdlceceaaGreatDoor.Sto
