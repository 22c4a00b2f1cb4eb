/- What IndexFinds keeps: the names that are there, beside the list that the index tells. No program here. -/
import Derived.Test.YtpmffneohcbhbaaDoorIdxList
namespace Go.Proofs.YtpmffneohcbhbaaDoor.Shf
open Subj (Tok pieces takes)
open Idx

structure Fnd (names : List Tok) (k : Nat) (L : Ents) (T : List Tok) : Prop where
  perm : (L.map (·.1)).Perm T
  name : ∀ e ∈ L, ∃ j : Nat, j < k ∧ e.2 = (j : Int) ∧ names[j]? = some e.1
  right : ∀ s ∈ T, Subj.err false s = 0
  few : T.length ≤ k

section
variable {names T : List Tok} {k : Nat} {L : Ents} {s : Tok}

theorem fnd_nil (names : List Tok) : Fnd names 0 [] [] := ⟨List.Perm.refl _, (fun _ h => by cases h), (fun _ h => by cases h), Nat.le_refl _⟩

theorem Fnd.len (h : Fnd names k L T) : L.length = T.length := by
  have := h.perm.length_eq
  simpa using this

theorem Fnd.mem (h : Fnd names k L T) (s : Tok) : s ∈ T ↔ ∃ e ∈ L, e.1 = s := by
  rw [← h.perm.mem_iff]
  simp only [List.mem_map]

theorem Fnd.idx (h : Fnd names k L T) (s : Tok) : s ∈ T ↔ 0 ≤ idxL L s := by
  rw [h.mem]
  rcases idxL_cases L s with ⟨e1, e2⟩ | ⟨j, p, e1, e2, e3, _⟩
  · exact ⟨fun ⟨e, he, h1⟩ => absurd h1 (e2 e he), fun h => by omega⟩
  · exact ⟨fun _ => by omega, fun _ => ⟨p, List.mem_of_getElem? e2, e3⟩⟩

theorem Fnd.grow (h : Fnd names k L T) : Fnd names (k + 1) L T :=
  ⟨h.perm, fun e he => (h.name e he).imp fun j hj => ⟨by omega, hj.2⟩, h.right, by have := h.few; omega⟩

/-- A name that is no subject. -/
theorem fnd_bad (h : Fnd names k L T) {er : Nat} (he : er ≠ 0) (v : Int) : Fnd names (k + 1) (putL er L s v).1 T ∧ (putL er L s v).2 = er := by
  rw [show putL er L s v = (L, er) from by unfold putL; rw [if_pos he]]
  exact ⟨h.grow, rfl⟩

/-- A name that is there. -/
theorem fnd_hit (h : Fnd names k L T) (hs : names[k]? = some s) (hT : s ∈ T) : Fnd names (k + 1) (putL 0 L s (k : Nat)).1 T ∧ (putL 0 L s (k : Nat)).2 = 0 := by
  have hi := (h.idx s).1 hT
  rcases idxL_cases L s with ⟨e1, e2⟩ | ⟨j, p, e1, e2, e3, _⟩
  · omega
  obtain ⟨hjl, ej⟩ := List.getElem?_eq_some_iff.1 e2
  rw [show putL 0 L s (k : Nat) = (setL L j s (k : Nat), 0) from by unfold putL; rw [if_neg (by simp), if_pos (by omega), e1]; rfl]
  have hm : (setL L j s (k : Nat)).map (·.1) = L.map (·.1) := by
    unfold setL
    rw [List.map_set]
    refine List.ext_getElem? fun m => ?_
    rw [List.getElem?_set]
    split
    · rename_i hm
      subst hm
      simp [hjl, ej, e3]
    · rfl
  refine ⟨⟨by rw [hm]; exact h.perm, fun e he => ?_, h.right, by have := h.few; omega⟩, rfl⟩
  unfold setL at he
  rcases List.mem_or_eq_of_mem_set he with h1 | rfl
  · exact (h.name e h1).imp fun j hj => ⟨by omega, hj.2⟩
  · exact ⟨k, by omega, rfl, hs⟩

/-- A new name. -/
theorem fnd_new (h : Fnd names k L T) (hs : names[k]? = some s) (hT : s ∉ T) (he : Subj.err false s = 0) (hk : k < 100) : Fnd names (k + 1) (putL 0 L s (k : Nat)).1 (T ++ [s]) ∧ (putL 0 L s (k : Nat)).2 = 0 := by
  have hi := mt (h.idx s).2 hT
  have hl := h.len
  have hf := h.few
  rw [show putL 0 L s (k : Nat) = (insL L s (k : Nat), 0) from by unfold putL; rw [if_neg (by simp), if_neg hi, if_neg (by omega)]]
  refine ⟨⟨?_, fun e he => ?_, fun t ht => ?_, by simp; omega⟩, rfl⟩
  · have h1 : ((insL L s (k : Nat)).map (·.1)).Perm (s :: L.map (·.1)) := by
      unfold insL
      rw [List.map_append, List.map_cons]
      refine List.perm_middle.trans ?_
      rw [← List.map_append, List.take_append_drop]
    refine h1.trans ((h.perm.cons s).trans ?_)
    exact (List.perm_append_comm (l₁ := [s]) (l₂ := T))
  · rcases mem_insL.1 he with rfl | h1
    · exact ⟨k, by omega, rfl, hs⟩
    · exact (h.name e h1).imp fun j hj => ⟨by omega, hj.2⟩
  · rcases List.mem_append.1 ht with h1 | h1
    · exact h.right t h1
    · simp at h1; subst h1; exact he

/-- A name is dropped. -/
theorem fnd_drop (h : Fnd names k L T) (hS : SortedE L) {i : Nat} (hi : T[i]? = some s) :
    Fnd names k (dropL 0 L s).1 (T.eraseIdx i) ∧ (dropL 0 L s).2 = 0 ∧ dropL 0 (dropL 0 L s).1 s = ((dropL 0 L s).1, 4) := by
  have hx := (h.idx s).1 (List.mem_of_getElem? hi)
  have hno : idxL (dropL 0 L s).1 s < 0 := by
    rcases idxL_cases (dropL 0 L s).1 s with ⟨e1, e2⟩ | ⟨j, p, e1, e2, e3, _⟩
    · omega
    · exact absurd e3 ((mem_dropL hS p).1 (List.mem_of_getElem? e2)).2
  rcases idxL_cases L s with ⟨e1, e2⟩ | ⟨j, p, e1, e2, e3, _⟩
  · omega
  have hd : dropL 0 L s = (delL L j, 0) := by unfold dropL; rw [if_neg (by simp), if_neg (by omega), e1]; rfl
  obtain ⟨hjl, ej⟩ := List.getElem?_eq_some_iff.1 e2
  obtain ⟨hil, ei⟩ := List.getElem?_eq_some_iff.1 hi
  refine ⟨?_, by rw [hd], by generalize dropL 0 L s = z at *; unfold dropL; rw [if_neg (by simp), if_pos hno]⟩
  rw [hd]
  refine ⟨?_, fun e he => h.name e ?_, fun t ht => h.right t (List.mem_of_mem_eraseIdx ht), ?_⟩
  · have h1 : (s :: (delL L j).map (·.1)).Perm (L.map (·.1)) := by
      have hL : L = L.take j ++ p :: L.drop (j + 1) := by rw [← ej, ← List.drop_eq_getElem_cons hjl, List.take_append_drop]
      conv => rhs; rw [hL]
      unfold delL
      rw [List.map_append, List.map_append, List.map_cons, e3]
      exact List.perm_middle.symm
    have h2 : (s :: T.eraseIdx i).Perm T := by
      have hT : T = T.take i ++ s :: T.drop (i + 1) := by rw [← ei, ← List.drop_eq_getElem_cons hil, List.take_append_drop]
      conv => rhs; rw [hT]
      rw [List.eraseIdx_eq_take_drop_succ]
      exact List.perm_middle.symm
    exact (List.perm_cons s).1 (h1.trans (h.perm.trans h2.symm))
  · unfold delL at he
    rcases List.mem_append.1 he with h1 | h1
    · exact List.mem_of_mem_take h1
    · exact List.mem_of_mem_drop h1
  · rw [List.length_eraseIdx]
    have := h.few
    split <;> omega

/-- What a filter finds is as much as what it takes of the names. -/
theorem fnd_count (h : Fnd names k L T) (f : Tok) : (findL L f).length = T.countP fun s => takes (pieces f) (pieces s) := by
  rw [← h.perm.countP_eq, List.countP_map, List.countP_eq_length_filter]
  rfl
end
end Go.Proofs.YtpmffneohcbhbaaDoor.Shf
