/- Parts of the proof, joined: sameStore, walked.; The law StorePlays, walked: it returns true.; A vault in plain Lean: what was done is there behind a stop; made compact it is, too. No program here. -/
import Derived.Test.YtbgchhgdlceceaaGreatDoorPlansOwnUptoM39
namespace Go.Proofs.YtbgchhgdlceceaaGreatDoor.Sto
open Go.RowKit Heap
open Subj (Tok ML pieces takes)
open Rec (Rc recErr far)
open Idx (Ents ptrV entV)
open Shf (SortedE)

section
variable {W w : World} {F : Nat → Prop} {D B C : Nat} {v : Value} {L : List Rc} {last : Int}

end
end Go.Proofs.YtbgchhgdlceceaaGreatDoor.Sto

namespace Go.Proofs.YtbgchhgdlceceaaGreatDoor.Sto
open Go.RowKit Heap
open Subj (Tok ML pieces takes)
open Rec (Rc recErr far)
open Idx (Ents ptrV)

theorem dist_runS (l : List Rc) : dist (runS l).1 ≤ 100 := by
  unfold runS
  suffices h : ∀ (l : List Rc) (s : List Rc × Int), dist s.1 ≤ 100 → dist (l.foldl (fun s r => after s.1 s.2 r) s).1 ≤ 100 from h l ([], 0) (by decide)
  intro l
  induction l with
  | nil => intro s h; exact h
  | cons a l ih => intro s h; exact ih _ (dist_after h)

section
variable {w : World}

end
end Go.Proofs.YtbgchhgdlceceaaGreatDoor.Sto

namespace Go.Proofs.YtbgchhgdlceceaaGreatDoor.Vlt
open Dsk Log
open Rec (Rc recErr codedL far)
open Sto (tryD after runS Right leftS lastS dist cntR hasSeq)
open Idx (Ents)

/-- A vault: the disk's files, the messages, the last number. -/
structure Vt where
  A : List FileP
  L : List Rc
  last : Int

def crashV (K : Nat) (s : Vt) : Vt := ⟨(openD (crashD s.A K)).2, (runS (openD (crashD s.A K)).1).1, (runS (openD (crashD s.A K)).1).2⟩

theorem good_open : ∀ {A : List FileP} {l : List Rc}, Log.Good A l → (∀ r ∈ l, recErr r = 0) → openD A = (l, A)
  | [], l, h, _ => by
    have h : l = [] := h
    subst h; rfl
  | a :: r, l, ⟨g0, gs, e, h1, h2, h3⟩, hr => by
    have hsc := scan_all (g := g0) fun x hx => hr x (by rw [e]; exact List.mem_append_left _ hx)
    have ih := good_open h3 fun x hx => hr x (by rw [e]; exact List.mem_append_right _ hx)
    unfold openD
    rw [h1, hsc, ih]
    simp only
    rw [if_neg (by omega), e]

/-- All that was done is on the disk, whole and sure. -/
def Whole (N : Nat) (s : Vt) : Prop := ∃ all, Log.Good s.A all ∧ (∀ r ∈ all, recErr r = 0) ∧ runS all = (s.L, s.last) ∧ all.length ≤ N

theorem Whole.new : Whole 0 ⟨[], [], 0⟩ := ⟨[], rfl, (fun _ h => by cases h), rfl, Nat.le_refl _⟩
theorem Whole.mono {N M : Nat} {s : Vt} (h : Whole N s) (hN : N ≤ M) : Whole M s := by
  obtain ⟨all, h1, h2, h3, h4⟩ := h
  exact ⟨all, h1, h2, h3, Nat.le_trans h4 hN⟩

theorem Whole.crash {N : Nat} {s : Vt} (h : Whole N s) (K : Nat) : crashV K s = s := by
  obtain ⟨all, hg, hk, hr, _⟩ := h
  unfold crashV
  rw [hg.crash, good_open hg hk, hr]

theorem Whole.dist {N : Nat} {s : Vt} (h : Whole N s) : dist s.L ≤ 100 := by
  obtain ⟨all, _, _, hr, _⟩ := h
  have := Sto.dist_runS all
  rw [hr] at this
  exact this

end Go.Proofs.YtbgchhgdlceceaaGreatDoor.Vlt
