/- Parts of the proof, joined: (*Log).Rewrite, walked.; LogFront in plain Lean: what a log tells behind a stop. -/
import Derived.Test.YtidacfhdhdnidaaGreatDoorVaultPlaysUptoM16
namespace Go.Proofs.YtidacfhdhdnidaaGreatDoor.Log
open Go.RowKit Heap Dsk
open Subj (ML)
open Rec (Rc recErr recA rcOf codedL ml_alloc)
open Sto (recsV RecsAt Fits parts sixC)

/-! what it computes -/
theorem errL_take {rs : List Rc} {k : Nat} {p : Rc} (hp : rs[k]? = some p) (h : errL (rs.take k) = 0) : errL (rs.take (k + 1)) = recErr p ∧ (recErr p ≠ 0 → errL rs = recErr p) := by
  induction rs generalizing k with
  | nil => simp at hp
  | cons a l ih =>
    cases k with
    | zero =>
      simp only [List.getElem?_cons_zero, Option.some.injEq] at hp
      subst hp
      constructor
      · simp only [List.take_succ_cons, List.take_zero, errL]
        split
        · rfl
        · rename_i e; omega
      · intro e; simp only [errL]; rw [if_pos e]
    | succ k =>
      simp only [List.getElem?_cons_succ] at hp
      simp only [List.take_succ_cons, errL] at h ⊢
      by_cases ha : recErr a ≠ 0
      · rw [if_pos ha] at h; exact absurd h ha
      · rw [if_neg ha] at h
        rw [if_neg ha, if_neg ha]
        exact ih hp h

theorem textsL_take {rs : List Rc} {k : Nat} {p : Rc} (hp : rs[k]? = some p) : textsL (rs.take (k + 1)) = textsL (rs.take k) ++ codedL p := by
  unfold textsL
  rw [List.take_add_one, hp]
  simp

theorem getF_above {A : List FileP} {n : Int} (h : ∀ x ∈ A, x.n < n) : getF A n = none := by
  cases h2 : getF A n with
  | none => rfl
  | some p =>
    obtain ⟨e1, e2⟩ := getF_n h2
    have := h p e2
    omega

theorem insF_above : ∀ {A : List FileP} (q : FileP), (∀ x ∈ A, x.n < q.n) → insF A q = A ++ [q]
  | [], _, _ => rfl
  | a :: r, q, h => by
    have h1 := h a (by simp)
    unfold insF
    rw [if_neg (by omega), insF_above q fun x hx => h x (List.mem_cons_of_mem _ hx)]
    rfl

theorem getF_last {A : List FileP} (p : FileP) (h : ∀ x ∈ A, x.n < p.n) : getF (A ++ [p]) p.n = some p := by
  induction A with
  | nil => simp [getF]
  | cons a r ih =>
    have h1 := h a (by simp)
    simp only [List.cons_append, getF]
    rw [if_neg (by omega)]
    exact ih fun x hx => h x (List.mem_cons_of_mem _ hx)

theorem setF_last : ∀ {A : List FileP} (p q : FileP), (∀ x ∈ A, x.n < q.n) → p.n = q.n → setF (A ++ [p]) q = A ++ [q]
  | [], p, q, _, e => by simp [setF, e]
  | a :: r, p, q, h, e => by
    have h1 := h a (by simp)
    simp only [List.cons_append, setF]
    rw [if_neg (by omega), setF_last p q (fun x hx => h x (List.mem_cons_of_mem _ hx)) e]

theorem last_top {A : List FileP} (h : Sorted A) : ∀ x ∈ A, x.n ≤ (lastD A).1 := fun x hx => by
  unfold lastD
  cases hl : A.getLast? with
  | none => rw [last_none hl] at hx; cases hx
  | some p =>
    simp only
    obtain ⟨hm, hpos, hg⟩ := last_some hl
    obtain ⟨i, hi, rfl⟩ := List.mem_iff_getElem.1 hx
    obtain ⟨hj, e⟩ := List.getElem?_eq_some_iff.1 hg
    by_cases hie : i = A.length - 1
    · subst hie; rw [e]; exact Int.le_refl _
    · have := List.pairwise_iff_getElem.1 h i (A.length - 1) hi hj (by omega)
      rw [e] at this; omega

/-- What stands while the old ones go. -/
theorem rem_old {A : List FileP} (q : FileP) (hs : Sorted A) (hq : ∀ x ∈ A, x.n < q.n) {k : Nat} {p : FileP} (hp : A[k]? = some p) : removeD (A.take (k + 1) ++ [q]) p.n = (A.take k ++ [q], 0) := by
  have e : A.take (k + 1) = A.take k ++ [p] := by rw [List.take_add_one, hp]; rfl
  have hlt : ∀ x ∈ A.take k, x.n < p.n := pre_ne hs hp
  have hne : ∀ x ∈ A.take k, x.n ≠ p.n := fun x hx => by have := hlt x hx; omega
  have hqp := hq p (List.mem_of_getElem? hp)
  have e2 : A.take (k + 1) ++ [q] = A.take k ++ p :: [q] := by rw [e]; simp
  rw [e2]
  have hg : getF (A.take k ++ p :: [q]) p.n = some p := by
    refine getF_mem ?_ (by simp)
    rw [← e2]
    unfold Sorted
    rw [List.pairwise_append]
    exact ⟨hs.sublist (List.take_sublist _ _), by simp, fun x hx y hy => by simp at hy; subst hy; exact hq x (List.mem_of_mem_take hx)⟩
  unfold removeD
  rw [hg]
  simp only
  rw [delF_mid _ _ _ hne]

theorem rew_app {room : Int} {A : List FileP} {T : List UInt8} (hs : Sorted A) (h : (appD room A ((lastD A).1 + 1) T).2 = 0) :
    (appD room A ((lastD A).1 + 1) T).1 = A ++ [⟨(lastD A).1 + 1, T, 0⟩] ∧ syncD (A ++ [⟨(lastD A).1 + 1, T, 0⟩]) ((lastD A).1 + 1) = (A ++ [⟨(lastD A).1 + 1, T, T.length⟩], 0) := by
  have ht := last_top hs
  have hlt : ∀ x ∈ A, x.n < (lastD A).1 + 1 := fun x hx => by have := ht x hx; omega
  generalize (lastD A).1 + 1 = n at *
  constructor
  · unfold appD at h ⊢
    rw [getF_above hlt] at h ⊢
    split
    · rename_i e; rw [if_pos e] at h; cases h
    · rename_i e
      rw [if_neg e] at h
      split
      · rename_i e2; rw [if_pos e2] at h; cases h
      · rename_i e2
        rw [if_neg e2] at h
        simp only at h ⊢
        split
        · rename_i e3; rw [if_pos e3] at h; cases h
        · exact insF_above ⟨n, T, 0⟩ hlt
  · unfold syncD
    rw [getF_last ⟨n, T, 0⟩ hlt]
    simp only
    rw [setF_last ⟨n, T, 0⟩ ⟨n, T, T.length⟩ hlt rfl]
end Go.Proofs.YtidacfhdhdnidaaGreatDoor.Log

namespace Go.Proofs.YtidacfhdhdnidaaGreatDoor.Log
open Dsk Rec

theorem textsL_cons (r : Rc) (l : List Rc) : textsL (r :: l) = codedL r ++ textsL l := rfl
theorem textsL_append (a b : List Rc) : textsL (a ++ b) = textsL a ++ textsL b := by simp [textsL]

/-- A front of some records' texts: some of the records. -/
theorem scan_front : ∀ (g : List Rc) (t : Nat), (∀ r ∈ g, recErr r = 0) → ∃ c, c ≤ g.length ∧ scan ((textsL g).take t) = (g.take c, (textsL (g.take c)).length) ∧ ∀ k, k ≤ g.length → (textsL (g.take k)).length ≤ t → k ≤ c
  | [], t, _ => ⟨0, by simp, by simp [textsL, scan_nil], fun k hk _ => by simpa using hk⟩
  | r :: g, t, h => by
    have hr := h r (by simp)
    have hl := codedL_len hr
    by_cases hlt : t < (codedL r).length
    · refine ⟨0, by simp, ?_, fun k hk hle => ?_⟩
      · rw [textsL_cons, List.take_append_of_le_length (by omega)]
        have := decL_front hr t hlt
        rw [scan_bad (by rw [this]; simp)]
        simp [textsL]
      · cases k with
        | zero => omega
        | succ k =>
          rw [List.take_succ_cons, textsL_cons, List.length_append] at hle
          omega
    · obtain ⟨c, hc, hs, hm⟩ := scan_front g (t - (codedL r).length) fun x hx => h x (List.mem_cons_of_mem _ hx)
      refine ⟨c + 1, by simp; omega, ?_, fun k hk hle => ?_⟩
      · have e : (textsL (r :: g)).take t = codedL r ++ (textsL g).take (t - (codedL r).length) := by
          rw [textsL_cons, List.take_append]
          rw [List.take_of_length_le (by omega)]
        rw [e]
        have hd := decL_coded hr ((textsL g).take (t - (codedL r).length))
        rw [scan_step (by intro e2; have := congrArg List.length e2; rw [List.length_append, List.length_nil] at this; omega) (by rw [hd]), hd]
        simp only [List.drop_left]
        rw [hs]
        simp only [List.take_succ_cons, textsL_cons, List.length_append]
      · cases k with
        | zero => omega
        | succ k =>
          rw [List.take_succ_cons, textsL_cons, List.length_append] at hle
          simp only [List.length_cons] at hk
          have := hm k (by omega) (by omega)
          omega

theorem scan_all {g : List Rc} (h : ∀ r ∈ g, recErr r = 0) : scan (textsL g) = (g, (textsL g).length) := by
  obtain ⟨c, hc, hs, hm⟩ := scan_front g (textsL g).length h
  have := hm g.length (Nat.le_refl _) (by rw [List.take_length]; exact Nat.le_refl _)
  obtain rfl : c = g.length := by omega
  rw [List.take_length, List.take_of_length_le (Nat.le_refl _)] at hs
  exact hs

/-- Blocks that are whole and sure, of these records. -/
def Good : List FileP → List Rc → Prop
  | [], l => l = []
  | p :: r, l => ∃ g gs, l = g ++ gs ∧ p.text = textsL g ∧ p.sure = p.text.length ∧ Good r gs

theorem Good.snoc {g : List Rc} {p : FileP} (hp : p.text = textsL g) (hs : p.sure = p.text.length) : ∀ {A : List FileP} {l : List Rc}, Good A l → Good (A ++ [p]) (l ++ g)
  | [], l, h => by
    have h : l = [] := h
    subst h
    exact ⟨g, [], by simp, hp, hs, rfl⟩
  | a :: r, l, ⟨g0, gs, e, h1, h2, h3⟩ => ⟨g0, gs ++ g, by rw [e, List.append_assoc], h1, h2, h3.snoc hp hs⟩

theorem Good.crash {K : Nat} : ∀ {A : List FileP} {l : List Rc}, Good A l → crashD A K = A
  | [], _, _ => rfl
  | a :: r, l, ⟨g0, gs, e, h1, h2, h3⟩ => by
    have := h3.crash (K := K)
    unfold crashD at this ⊢
    rw [List.map_cons, this]
    congr 1
    obtain ⟨n, t, s⟩ := a
    simp only at h2
    subst h2
    unfold keptF
    simp

/-- What always is so of the log's blocks: all that was appended, and how many of these are sure. -/
structure Inv (A : List FileP) (all : List Rc) (sure : Nat) : Prop where
  ok : ∀ r ∈ all, recErr r = 0
  parts : ∃ pre p gp gl c, A = pre ++ [p] ∧ all = gp ++ gl ∧ Good pre gp ∧ p.text = textsL gl ∧ c ≤ gl.length ∧ (textsL (gl.take c)).length ≤ p.sure ∧ sure ≤ gp.length + c

theorem Inv.start (n : Int) : Inv [⟨n, [], 0⟩] [] 0 := ⟨fun _ h => (by cases h), [], _, [], [], 0, rfl, rfl, rfl, rfl, Nat.le_refl _, by simp [textsL], Nat.le_refl _⟩

theorem Inv.add {A : List FileP} {all : List Rc} {sure : Nat} {room size : Int} {r : Rc} (h : Inv A all sure) (hs : Sorted A) :
    ((logD room size A r).2 = 0 → Inv (logD room size A r).1 (all ++ [r]) sure) ∧ ((logD room size A r).2 ≠ 0 → Inv (logD room size A r).1 all sure) := by
  unfold logD
  by_cases her : recErr r ≠ 0
  · rw [if_pos her]
    exact ⟨fun e => absurd e her, fun _ => h⟩
  · rw [if_neg her]
    have hok2 : ∀ x ∈ all ++ [r], recErr x = 0 := fun x hx => by
      rcases List.mem_append.1 hx with hx | hx
      · exact h.ok x hx
      · simp at hx; subst hx; omega
    obtain ⟨pre, p, gp, gl, c, rfl, rfl, hg, ht, hc, hcs, hsu⟩ := h.parts
    have hlt : ∀ x ∈ pre, x.n < p.n := fun x hx => by
      have := List.pairwise_append.1 hs
      exact this.2.2 x hx p (by simp)
    have hok := h.ok
    unfold putD
    rw [List.getLast?_append]
    simp only [List.getLast?_singleton, Option.some_or]
    by_cases hroll : 0 < p.text.length ∧ size < p.text.length + (codedL r).length
    · rw [if_pos hroll]
      have e : (syncD (pre ++ [p]) p.n).1 = pre ++ [⟨p.n, p.text, p.text.length⟩] := by
        unfold syncD
        rw [getF_last p hlt]
        simp only
        exact setF_last p ⟨p.n, p.text, p.text.length⟩ hlt rfl
      rw [e]
      have hlt2 : ∀ x ∈ pre ++ [(⟨p.n, p.text, p.text.length⟩ : FileP)], x.n < p.n + 1 := fun x hx => by
        rcases List.mem_append.1 hx with hx | hx
        · have := hlt x hx; omega
        · simp at hx; subst hx; simp only; omega
      have hstay : Inv (pre ++ [⟨p.n, p.text, p.text.length⟩]) (gp ++ gl) sure := ⟨hok, pre, _, gp, gl, c, rfl, rfl, hg, ht, hc, by
        simp only
        rw [ht]
        conv => rhs; rw [← List.take_append_drop c gl, textsL_append, List.length_append]
        omega, hsu⟩
      have hgrow : Inv ((pre ++ [⟨p.n, p.text, p.text.length⟩]) ++ [⟨p.n + 1, codedL r, 0⟩]) ((gp ++ gl) ++ [r]) sure :=
        ⟨hok2, _, _, gp ++ gl, [r], 0, rfl, rfl, Good.snoc (p := ⟨p.n, p.text, p.text.length⟩) ht rfl hg, by simp [textsL], by simp, by simp [textsL], by rw [List.length_append]; omega⟩
      unfold appD
      rw [getF_above hlt2]
      split
      · exact ⟨fun e => (by cases e), fun _ => hstay⟩
      · split
        · exact ⟨fun e => (by cases e), fun _ => hstay⟩
        · simp only
          split
          · exact ⟨fun e => (by cases e), fun _ => hstay⟩
          · refine ⟨fun _ => ?_, fun e => absurd rfl e⟩
            simp only
            rw [insF_above ⟨p.n + 1, codedL r, 0⟩ hlt2]
            exact hgrow
    · rw [if_neg hroll]
      unfold appD
      rw [getF_last p hlt]
      split
      · exact ⟨fun e => (by cases e), fun _ => h⟩
      · split
        · exact ⟨fun e => (by cases e), fun _ => h⟩
        · simp only
          refine ⟨fun _ => ?_, fun e => absurd rfl e⟩
          rw [setF_last p ⟨p.n, p.text ++ codedL r, p.sure⟩ hlt rfl]
          refine ⟨hok2, pre, _, gp, gl ++ [r], c, rfl, by rw [List.append_assoc], hg, by simp only; rw [ht, textsL_append]; simp [textsL], by rw [List.length_append]; omega, ?_, hsu⟩
          rw [List.take_append_of_le_length hc]
          exact hcs

end Go.Proofs.YtidacfhdhdnidaaGreatDoor.Log
