/- How many subjects there are; what a store tells of a record, without its index. No program here. -/
import Derived.Test.YtpmffneohcbhbaaDoorStoPlain
namespace Go.Proofs.YtpmffneohcbhbaaDoor.Sto
open Subj (Tok pieces takes)
open Rec (Rc recErr far)
open Idx (Ents idxL before before_irrefl)
open Shf (SortedE)

/-- The subjects, each once. -/
def subjs : List Rc → List Tok
  | [] => []
  | r :: L => if r.subj ∈ subjs L then subjs L else r.subj :: subjs L

theorem mem_subjs : ∀ {L : List Rc} {s : Tok}, s ∈ subjs L ↔ ∃ r ∈ L, r.subj = s
  | [], s => by simp [subjs]
  | a :: L, s => by
    unfold subjs
    split
    · rename_i h
      rw [mem_subjs]
      constructor
      · rintro ⟨r, hr, e⟩; exact ⟨r, by simp [hr], e⟩
      · rintro ⟨r, hr, e⟩
        rcases List.mem_cons.1 hr with rfl | hr
        · rw [← e]; exact mem_subjs.1 h
        · exact ⟨r, hr, e⟩
    · rw [List.mem_cons, mem_subjs]
      constructor
      · rintro (rfl | ⟨r, hr, e⟩)
        · exact ⟨a, by simp, rfl⟩
        · exact ⟨r, by simp [hr], e⟩
      · rintro ⟨r, hr, e⟩
        rcases List.mem_cons.1 hr with rfl | hr
        · exact .inl e.symm
        · exact .inr ⟨r, hr, e⟩

theorem nodup_subjs : ∀ L : List Rc, (subjs L).Nodup
  | [] => List.nodup_nil
  | a :: L => by
    unfold subjs
    split
    · exact nodup_subjs L
    · rename_i h
      exact List.nodup_cons.2 ⟨h, nodup_subjs L⟩

theorem nodup_le {α : Type} [DecidableEq α] : ∀ {A B : List α}, A.Nodup → (∀ x ∈ A, x ∈ B) → A.length ≤ B.length
  | [], _, _, _ => Nat.zero_le _
  | a :: A, B, hn, h => by
    have ha := h a (by simp)
    have h1 := nodup_le (A := A) (B := B.erase a) (List.nodup_cons.1 hn).2 fun x hx => by
      have hne : x ≠ a := fun e => (List.nodup_cons.1 hn).1 (e ▸ hx)
      exact (List.mem_erase_of_ne hne).2 (h x (by simp [hx]))
    have h2 := List.length_erase_of_mem ha
    have h3 := List.length_pos_of_mem ha
    rw [List.length_cons]
    omega

theorem nodup_len {α : Type} [DecidableEq α] {A B : List α} (ha : A.Nodup) (hb : B.Nodup) (h : ∀ x, x ∈ A ↔ x ∈ B) : A.length = B.length :=
  Nat.le_antisymm (nodup_le ha fun x hx => (h x).1 hx) (nodup_le hb fun x hx => (h x).2 hx)

theorem sorted_nodup {I : Ents} (h : SortedE I) : (I.map (·.1)).Nodup := by
  unfold SortedE at h
  rw [List.nodup_iff_pairwise_ne, List.pairwise_map]
  refine h.imp fun {a b} hab e => ?_
  rw [e, before_irrefl] at hab; cases hab

theorem cnt_ne {L : List Rc} {s : Tok} : cntR L s ≠ 0 ↔ ∃ r ∈ L, r.subj = s := by
  unfold cntR
  rw [← Nat.pos_iff_ne_zero, List.countP_pos_iff]
  simp

def dist (L : List Rc) : Nat := (subjs L).length

theorem counts_dist {I : Ents} {L : List Rc} (h : SortedE I) (hc : Counts I L) : I.length = dist L := by
  rw [← List.length_map (f := fun e : Tok × Int => e.1)]
  refine nodup_len (sorted_nodup h) (nodup_subjs L) fun s => ?_
  rw [mem_subjs, ← cnt_ne, List.mem_map]
  constructor
  · rintro ⟨e, he, rfl⟩
    exact ((hc e.1 e.2).1 he).2
  · intro h0
    exact ⟨(s, cntR L s), (hc _ _).2 ⟨rfl, h0⟩, rfl⟩

/-- What is told of a record ahead of it. -/
def tryD (L : List Rc) (last : Int) (r : Rc) : Nat :=
  if recErr r ≠ 0 then recErr r
  else if r.kind = 1 then if r.seq ≤ last then 9 else if L.length = 200 ∨ (cntR L r.subj = 0 ∧ dist L = 100) then 8 else 0
  else if r.kind = 2 then if hasSeq L r.seq then 0 else 4
  else 0

theorem tryS_D {I : Ents} {L : List Rc} (h : SortedE I) (hc : Counts I L) (last : Int) (r : Rc) : tryS L last I r = tryD L last r := by
  unfold tryS tryD
  rw [counts_dist h hc]

/-- Behind a record. -/
def after (L : List Rc) (last : Int) (r : Rc) : List Rc × Int := if tryD L last r = 0 then (leftS L r, lastS last r) else (L, last)
end Go.Proofs.YtpmffneohcbhbaaDoor.Sto
