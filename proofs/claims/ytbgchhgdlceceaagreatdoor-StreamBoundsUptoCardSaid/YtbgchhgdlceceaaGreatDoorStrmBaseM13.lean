/- Parts of the proof, joined: What a walk of the tree tells; the tree against a list of entries. No program here.; A store in plain Lean: messages by rising numbers; an index counts their subjects. No program here. -/
import Derived.Test.YtbgchhgdlceceaaGreatDoorStrmBaseM12
namespace Go.Proofs.YtbgchhgdlceceaaGreatDoor.Idx
open Subj (Tok pieces takes)

/-- What is told below a node, with so many levels to go. -/
def walkP (H : Hp) : Nat → Nat → List Tok → List (List Tok × Int)
  | _, b, [] => match H b with
    | some nd => if nd.has then [(nd.path, nd.n)] else []
    | none => []
  | 0, _, _ :: _ => []
  | d + 1, b, f :: fs => match H b with
    | some nd => nd.kids.flatMap fun k => if f = [62] then walkP H d k [] ++ walkP H d k (f :: fs) else if f = [42] ∨ f = tokH H k then walkP H d k fs else []
    | none => []

theorem walkP_nil {H : Hp} {d b : Nat} {nd : NodeP} (hb : H b = some nd) : walkP H d b [] = if nd.has then [(nd.path, nd.n)] else [] := by
  unfold walkP; rw [hb]
theorem walkP_zero {H : Hp} {b : Nat} {f : Tok} {fs : List Tok} : walkP H 0 b (f :: fs) = [] := by unfold walkP; rfl
theorem walkP_succ {H : Hp} {d b : Nat} {nd : NodeP} {f : Tok} {fs : List Tok} (hb : H b = some nd) :
    walkP H (d + 1) b (f :: fs) = nd.kids.flatMap fun k => if f = [62] then walkP H d k [] ++ walkP H d k (f :: fs) else if f = [42] ∨ f = tokH H k then walkP H d k fs else [] := by
  conv => lhs; unfold walkP
  rw [hb]

theorem takes_gt (fs s : List Tok) : takes ([62] :: fs) s = !s.isEmpty := by unfold takes; simp
theorem takes_cons {f : Tok} (fs : List Tok) (hf : f ≠ [62]) (x : Tok) (s : List Tok) : takes (f :: fs) (x :: s) = ((f == [42] || f == x) && takes fs s) := by
  conv => lhs; unfold takes
  rw [if_neg (by simpa using hf)]
theorem takes_cons_nil {f : Tok} (fs : List Tok) : takes (f :: fs) [] = false := by
  unfold takes; split <;> simp

section
variable {N : Nat} {H : Hp} {r : Nat}

theorem den_nil {b : Nat} {nd : NodeP} {n : Int} (hb : H b = some nd) : Den H b [] n ↔ nd.has = true ∧ nd.n = n := by
  constructor
  · rintro ⟨c, x, g, e, h1, h2⟩
    cases g
    rw [hb] at e; cases e
    exact ⟨h1, h2⟩
  · rintro ⟨h1, h2⟩
    exact ⟨b, nd, .nil b, hb, h1, h2⟩

theorem den_cons {b : Nat} {nd : NodeP} {t : Tok} {ts : List Tok} {n : Int} (hb : H b = some nd) : Den H b (t :: ts) n ↔ ∃ k ∈ nd.kids, tokH H k = t ∧ Den H k ts n := by
  constructor
  · rintro ⟨c, x, g, e, h1, h2⟩
    cases g with
    | cons s g =>
      obtain ⟨y, e2, h3, h4⟩ := s
      rw [hb] at e2; cases e2
      exact ⟨_, h3, h4, c, x, g, e, h1, h2⟩
  · rintro ⟨k, hk, ht, c, x, g, e, h1, h2⟩
    exact ⟨c, x, .cons ⟨nd, hb, hk, ht⟩ g, e, h1, h2⟩

theorem walk_sound (h : Good N H r) : ∀ (d : Nat) {b : Nat} {nd : NodeP} {f : List Tok} {e : List Tok × Int}, H b = some nd → e ∈ walkP H d b f → ∃ rest, e.1 = nd.path ++ rest ∧ takes f rest = true ∧ Den H b rest e.2
  | d, b, nd, [], e, hb, he => by
    rw [walkP_nil hb] at he
    split at he
    · rename_i hh
      simp at he
      subst he
      exact ⟨[], by simp, rfl, (den_nil hb).2 ⟨hh, rfl⟩⟩
    · simp at he
  | 0, b, nd, f :: fs, e, hb, he => by rw [walkP_zero] at he; simp at he
  | d + 1, b, nd, f :: fs, e, hb, he => by
    rw [walkP_succ hb, List.mem_flatMap] at he
    obtain ⟨k, hk, he⟩ := he
    obtain ⟨kd, hkd, hp⟩ := h.kid _ _ _ hb hk
    have build : ∀ (g : List Tok), e ∈ walkP H d k g → ∃ rest, e.1 = nd.path ++ (kd.tok :: rest) ∧ takes g rest = true ∧ Den H b (kd.tok :: rest) e.2 := fun g hg => by
      obtain ⟨rest, h1, h2, h3⟩ := walk_sound h d hkd hg
      exact ⟨rest, by rw [h1, hp]; simp, h2, (den_cons hb).2 ⟨k, hk, tokH_some hkd, h3⟩⟩
    split at he
    · rename_i e62
      subst e62
      rcases List.mem_append.1 he with he | he
      · obtain ⟨rest, h1, h2, h3⟩ := build _ he
        exact ⟨_, h1, by rw [takes_gt]; rfl, h3⟩
      · obtain ⟨rest, h1, h2, h3⟩ := build _ he
        exact ⟨_, h1, by rw [takes_gt]; rfl, h3⟩
    · rename_i e62
      split at he
      · rename_i e42
        obtain ⟨rest, h1, h2, h3⟩ := build _ he
        refine ⟨_, h1, ?_, h3⟩
        rw [takes_cons fs e62, h2]
        rw [tokH_some hkd] at e42
        rcases e42 with rfl | rfl <;> simp
      · simp at he

theorem walk_full (h : Good N H r) : ∀ (d : Nat) {b : Nat} {nd : NodeP} {f rest : List Tok} {n : Int}, H b = some nd → rest.length ≤ d → takes f rest = true → Den H b rest n → (nd.path ++ rest, n) ∈ walkP H d b f
  | d, b, nd, [], rest, n, hb, hd, ht, hn => by
    have : rest = [] := by cases rest with | nil => rfl | cons a r => simp [takes] at ht
    subst this
    obtain ⟨h1, h2⟩ := (den_nil hb).1 hn
    rw [walkP_nil hb, if_pos h1, h2]; simp
  | d, b, nd, f :: fs, [], n, hb, hd, ht, hn => by rw [takes_cons_nil] at ht; cases ht
  | 0, b, nd, f :: fs, x :: rest, n, hb, hd, ht, hn => by simp at hd
  | d + 1, b, nd, f :: fs, x :: rest, n, hb, hd, ht, hn => by
    obtain ⟨k, hk, hx, hn⟩ := (den_cons hb).1 hn
    obtain ⟨kd, hkd, hp⟩ := h.kid _ _ _ hb hk
    rw [tokH_some hkd] at hx
    rw [walkP_succ hb, List.mem_flatMap]
    refine ⟨k, hk, ?_⟩
    have e : nd.path ++ x :: rest = kd.path ++ rest := by rw [hp, hx]; simp
    rw [e]
    have hd' : rest.length ≤ d := by simpa using hd
    by_cases e62 : f = [62]
    · subst e62
      rw [if_pos rfl, List.mem_append]
      cases rest with
      | nil => exact .inl (walk_full h d hkd (by simp) rfl hn)
      | cons y rest => exact .inr (walk_full h d hkd hd' (by rw [takes_gt]; rfl) hn)
    · rw [if_neg e62]
      rw [takes_cons fs e62] at ht
      simp only [Bool.and_eq_true, Bool.or_eq_true, beq_iff_eq] at ht
      rw [if_pos (by rw [tokH_some hkd, hx]; exact ht.1)]
      exact walk_full h d hkd hd' ht.2 hn

theorem before_kids (p x y : List Tok) (a b : Tok) (h : cb a b < 0) : before (p ++ a :: x) (p ++ b :: y) = true := by
  rw [before_app]
  have e : a ≠ b := fun e => by subst e; have := cb_refl a; omega
  unfold before
  rw [if_neg e]; simpa using h

theorem walk_rises (h : Good N H r) : ∀ (d : Nat) {b : Nat} {nd : NodeP} {f : List Tok}, H b = some nd → (walkP H d b f).Pairwise fun x y => before x.1 y.1 = true
  | d, b, nd, [], hb => by
    rw [walkP_nil hb]
    split
    · exact List.pairwise_singleton _ _
    · exact List.Pairwise.nil
  | 0, b, nd, f :: fs, hb => by rw [walkP_zero]; exact List.Pairwise.nil
  | d + 1, b, nd, f :: fs, hb => by
    rw [walkP_succ hb]
    have hs := h.sorted _ _ hb
    have hkid := fun k hk => h.kid _ _ k hb hk
    revert hs hkid
    generalize nd.kids = ks
    intro hs hkid
    induction ks with
    | nil => exact List.Pairwise.nil
    | cons k ks ih =>
      rw [List.pairwise_cons] at hs
      rw [List.flatMap_cons, List.pairwise_append]
      have inside : ∀ j ∈ k :: ks, ∀ e ∈ (if f = [62] then walkP H d j [] ++ walkP H d j (f :: fs) else if f = [42] ∨ f = tokH H j then walkP H d j fs else []), ∃ rest, e.1 = nd.path ++ (tokH H j :: rest) := by
        intro j hj e he
        obtain ⟨kd, hkd, hp⟩ := hkid j hj
        have build : ∀ g, e ∈ walkP H d j g → ∃ rest, e.1 = nd.path ++ (tokH H j :: rest) := fun g hg => by
          obtain ⟨rest, h1, _⟩ := walk_sound h d hkd hg
          exact ⟨rest, by rw [h1, hp, tokH_some hkd]; simp⟩
        split at he
        · rcases List.mem_append.1 he with he | he
          · exact build _ he
          · exact build _ he
        · split at he
          · exact build _ he
          · simp at he
      refine ⟨?_, ih hs.2 (fun j hj => hkid j (by simp [hj])), fun x hx y hy => ?_⟩
      · obtain ⟨kd, hkd, hp⟩ := hkid k (by simp)
        split
        · rw [List.pairwise_append]
          refine ⟨walk_rises h d hkd, walk_rises h d hkd, fun x hx y hy => ?_⟩
          obtain ⟨r1, h1, h2, _⟩ := walk_sound h d hkd hx
          obtain ⟨r2, h3, h4, _⟩ := walk_sound h d hkd hy
          have : r1 = [] := by cases r1 with | nil => rfl | cons a r => simp [takes] at h2
          subst this
          cases r2 with
          | nil => rw [takes_cons_nil] at h4; cases h4
          | cons a r2 => rw [h1, h3, before_app]; rfl
        · split
          · exact walk_rises h d hkd
          · exact List.Pairwise.nil
      · obtain ⟨j, hj, hy⟩ := List.mem_flatMap.1 hy
        obtain ⟨r1, h1⟩ := inside k (by simp) x hx
        obtain ⟨r2, h2⟩ := inside j (by simp [hj]) y hy
        rw [h1, h2]
        exact before_kids _ _ _ _ _ (hs.1 j hj)
end

/-! ### Texts -/
def joinT : List Tok → Tok
  | [] => []
  | [t] => t
  | t :: u :: ts => t ++ 46 :: joinT (u :: ts)

theorem joinT_cons (t : Tok) {ts : List Tok} (h : ts ≠ []) : joinT (t :: ts) = t ++ 46 :: joinT ts := by
  cases ts with
  | nil => exact absurd rfl h
  | cons u ts => rfl

theorem join_pieces : ∀ s : List UInt8, joinT (pieces s) = s
  | [] => rfl
  | b :: l => by
    have ih := join_pieces l
    unfold pieces
    by_cases h : b = 46
    · rw [if_pos h, joinT_cons _ (Subj.pieces_ne l), ih, h]; rfl
    · rw [if_neg h]
      cases hp : pieces l with
      | nil => exact absurd hp (Subj.pieces_ne l)
      | cons p ps =>
        rw [hp] at ih
        cases ps with
        | nil => show b :: p = b :: l; rw [show p = l from ih]
        | cons q qs =>
          show (b :: p) ++ 46 :: joinT (q :: qs) = b :: l
          rw [← ih]; rfl

theorem pieces_inj {s t : List UInt8} (h : pieces s = pieces t) : s = t := by rw [← join_pieces s, ← join_pieces t, h]

theorem joinT_snoc : ∀ (p : List Tok) (t : Tok), p ≠ [] → joinT (p ++ [t]) = joinT p ++ 46 :: t
  | [a], t, _ => rfl
  | a :: b :: p, t, _ => by
    show a ++ 46 :: joinT (b :: p ++ [t]) = (a ++ 46 :: joinT (b :: p)) ++ 46 :: t
    rw [joinT_snoc (b :: p) t (by simp)]; simp

theorem joinT_ne {p : List Tok} (h : p ≠ []) (ht : ∀ t ∈ p, t ≠ []) : joinT p ≠ [] := by
  match p, h with
  | [a], _ => exact ht a (by simp)
  | a :: b :: p, _ => show a ++ 46 :: joinT (b :: p) ≠ []; simp

theorem joinT_len : ∀ (p : List Tok), (∀ t ∈ p, t.length ≤ 16) → (joinT p).length ≤ 17 * p.length
  | [], _ => by simp [joinT]
  | [a], h => by have := h a (by simp); simp [joinT]; omega
  | a :: b :: p, h => by
    have h1 := h a (by simp)
    have h2 := joinT_len (b :: p) (fun t ht => h t (by simp [ht]))
    show (a ++ 46 :: joinT (b :: p)).length ≤ _
    simp only [List.length_append, List.length_cons] at h2 ⊢
    omega

/-! ### The list -/
abbrev Ents := List (Tok × Int)

structure Rel (H : Hp) (r : Nat) (L : Ents) : Prop where
  den : ∀ ts n, Den H r ts n ↔ ∃ s, (s, n) ∈ L ∧ pieces s = ts
  sorted : L.Pairwise fun x y => before (pieces x.1) (pieces y.1) = true

/-- Where a subject stands. -/
def idxL : Ents → Tok → Int
  | [], _ => -1
  | p :: r, s => if p.1 = s then 0 else if idxL r s = -1 then -1 else idxL r s + 1

theorem idxL_cases : ∀ (A : Ents) (s : Tok), (idxL A s = -1 ∧ ∀ y ∈ A, y.1 ≠ s) ∨ ∃ (k : Nat) (p : Tok × Int), idxL A s = (k : Int) ∧ A[k]? = some p ∧ p.1 = s ∧ ∀ y ∈ A.take k, y.1 ≠ s
  | [], n => .inl ⟨rfl, fun y h => by cases h⟩
  | a :: r, n => by
    unfold idxL
    by_cases e : a.1 = n
    · rw [if_pos e]
      exact .inr ⟨0, a, rfl, rfl, e, fun y h => by simp at h⟩
    · rw [if_neg e]
      rcases idxL_cases r n with ⟨h1, h2⟩ | ⟨k, p, h1, h2, h3, h5⟩
      · rw [if_pos h1]
        refine .inl ⟨rfl, fun y hy => ?_⟩
        rcases List.mem_cons.1 hy with rfl | hy
        · exact e
        · exact h2 y hy
      · rw [if_neg (by omega), h1]
        refine .inr ⟨k + 1, p, by omega, by simpa using h2, h3, fun y hy => ?_⟩
        rw [List.take_succ_cons] at hy
        rcases List.mem_cons.1 hy with rfl | hy
        · exact e
        · exact h5 y hy

/-- How many stand ahead. -/
def cntL (L : Ents) (s : Tok) : Nat := (L.takeWhile fun x => before (pieces x.1) (pieces s)).length

theorem cntL_le (L : Ents) (s : Tok) : cntL L s ≤ L.length := (List.takeWhile_sublist _).length_le

theorem takeWhile_split {α : Type} (p : α → Bool) : ∀ l : List α, l.take (l.takeWhile p).length = l.takeWhile p ∧ l.drop (l.takeWhile p).length = l.dropWhile p
  | [] => ⟨rfl, rfl⟩
  | a :: l => by
    cases h : p a with
    | true =>
      rw [List.takeWhile_cons_of_pos h, List.dropWhile_cons_of_pos h]
      have ih := takeWhile_split p l
      simp [ih.1, ih.2]
    | false =>
      rw [List.takeWhile_cons_of_neg (by simp [h]), List.dropWhile_cons_of_neg (by simp [h])]
      simp

def setL (L : Ents) (k : Nat) (s : Tok) (n : Int) : Ents := L.set k (s, n)
def insL (L : Ents) (s : Tok) (n : Int) : Ents := L.take (cntL L s) ++ (s, n) :: L.drop (cntL L s)
def delL (L : Ents) (k : Nat) : Ents := L.take k ++ L.drop (k + 1)

section
variable {H H' : Hp} {r : Nat} {L : Ents} {s : Tok} {n : Int}

theorem Rel.mem (h : Rel H r L) : Den H r (pieces s) n ↔ (s, n) ∈ L := by
  rw [h.den]
  constructor
  · rintro ⟨t, h1, h2⟩; rw [← pieces_inj h2]; exact h1
  · intro h1; exact ⟨s, h1, rfl⟩

theorem Rel.uniq (h : Rel H r L) {k : Nat} {p : Tok × Int} (hk : L[k]? = some p) {q : Tok × Int} (hq : q ∈ L) (e : q.1 = p.1) : q = p := by
  obtain ⟨j, hj, rfl⟩ := List.mem_iff_getElem.1 hq
  obtain ⟨hkl, rfl⟩ := List.getElem?_eq_some_iff.1 hk
  have hs := List.pairwise_iff_getElem.1 h.sorted
  rcases Nat.lt_trichotomy j k with hl | rfl | hl
  · have := hs j k hj hkl hl
    rw [e, before_irrefl] at this; cases this
  · rfl
  · have := hs k j hkl hj hl
    rw [e, before_irrefl] at this; cases this

theorem mem_set_iff {k : Nat} {p x : Tok × Int} (v : Tok × Int) (hk : L[k]? = some p) (hu : ∀ q ∈ L, q.1 = p.1 → q = p) (hv : v.1 = p.1) (hs : L.Pairwise fun x y => before (pieces x.1) (pieces y.1) = true) : x ∈ L.set k v ↔ x = v ∨ (x ∈ L ∧ x.1 ≠ p.1) := by
  obtain ⟨hkl, rfl⟩ := List.getElem?_eq_some_iff.1 hk
  constructor
  · intro hx
    obtain ⟨j, hj, e⟩ := List.mem_iff_getElem.1 hx
    rw [List.getElem_set] at e
    rw [List.length_set] at hj
    split at e
    · exact .inl e.symm
    · rename_i hne
      right
      subst e
      refine ⟨List.getElem_mem _, fun e2 => ?_⟩
      have hp := List.pairwise_iff_getElem.1 hs
      rcases Nat.lt_trichotomy j k with hl | rfl | hl
      · have := hp j k hj hkl hl
        rw [e2, before_irrefl] at this; cases this
      · exact hne rfl
      · have := hp k j hkl hj hl
        rw [e2, before_irrefl] at this; cases this
  · rintro (rfl | ⟨hx, hne⟩)
    · exact List.mem_iff_getElem.2 ⟨k, by rw [List.length_set]; exact hkl, by simp⟩
    · obtain ⟨j, hj, rfl⟩ := List.mem_iff_getElem.1 hx
      have hjk : k ≠ j := fun e => by subst e; exact hne rfl
      exact List.mem_iff_getElem.2 ⟨j, by rw [List.length_set]; exact hj, by rw [List.getElem_set_ne hjk]⟩

theorem rel_set (h : Rel H r L) {k : Nat} {p : Tok × Int} (hk : L[k]? = some p) (hp : p.1 = s)
    (hd : ∀ ts m, Den H' r ts m ↔ (ts = pieces s ∧ m = n) ∨ (ts ≠ pieces s ∧ Den H r ts m)) : Rel H' r (setL L k s n) := by
  have hmem := fun x => mem_set_iff (x := x) (s, n) hk (fun q hq e => h.uniq hk hq e) hp.symm h.sorted
  refine ⟨fun ts m => ?_, ?_⟩
  · rw [hd, h.den]
    unfold setL
    constructor
    · rintro (⟨rfl, rfl⟩ | ⟨h1, t, h2, rfl⟩)
      · exact ⟨s, (hmem _).2 (.inl rfl), rfl⟩
      · exact ⟨t, (hmem _).2 (.inr ⟨h2, fun e => h1 (by rw [show t = s from e.trans hp])⟩), rfl⟩
    · rintro ⟨t, h1, rfl⟩
      rcases (hmem _).1 h1 with e | ⟨h2, h3⟩
      · cases e; exact .inl ⟨rfl, rfl⟩
      · exact .inr ⟨fun e => h3 (by rw [hp]; exact pieces_inj e), t, h2, rfl⟩
  · unfold setL
    have : (L.set k (s, n)).map (·.1) = L.map (·.1) := by
      rw [List.map_set]
      apply List.ext_getElem?
      intro j
      rw [List.getElem?_set]
      split
      · rename_i e
        subst e
        split
        · rw [List.getElem?_map, hk, ← hp]; rfl
        · rename_i h3; rw [List.length_map] at h3; rw [List.getElem?_eq_none (by simpa using h3)]
      · rfl
    have h2 := h.sorted
    have conv := fun l : Ents => List.pairwise_map (R := fun a b : Tok => before (pieces a) (pieces b) = true) (f := fun x : Tok × Int => x.1) (l := l)
    exact (conv _).1 (this ▸ (conv _).2 h2)

theorem insL_len (L : Ents) (s : Tok) (n : Int) : (insL L s n).length = L.length + 1 := by
  have := cntL_le L s
  simp [insL]; omega

theorem insL_sorted (hs : L.Pairwise fun x y => before (pieces x.1) (pieces y.1) = true) (hn : ∀ y ∈ L, y.1 ≠ s) : (insL L s n).Pairwise fun x y => before (pieces x.1) (pieces y.1) = true := by
  unfold insL cntL
  obtain ⟨e1, e2⟩ := takeWhile_split (fun x : Tok × Int => before (pieces x.1) (pieces s)) L
  rw [e1, e2]
  have h1 : ∀ y ∈ L.takeWhile (fun x => before (pieces x.1) (pieces s)), before (pieces y.1) (pieces s) = true := fun y hy => by
    have := List.all_takeWhile (p := fun x : Tok × Int => before (pieces x.1) (pieces s)) (l := L)
    exact List.all_eq_true.1 this y hy
  have hs2 := hs
  rw [← List.takeWhile_append_dropWhile (p := fun x : Tok × Int => before (pieces x.1) (pieces s)) (l := L), List.pairwise_append] at hs2
  have h2 : ∀ y ∈ L.dropWhile (fun x => before (pieces x.1) (pieces s)), before (pieces s) (pieces y.1) = true := by
    have hsub : ∀ y ∈ L.dropWhile (fun x => before (pieces x.1) (pieces s)), y ∈ L := fun y hy => (List.dropWhile_sublist _).subset hy
    have hhead := List.head?_dropWhile_not (fun x : Tok × Int => before (pieces x.1) (pieces s)) L
    have hp := hs2.2.1
    revert hsub hhead hp
    generalize L.dropWhile (fun x => before (pieces x.1) (pieces s)) = D
    intro hsub hhead hp
    cases D with
    | nil => intro y hy; cases hy
    | cons a D =>
      simp only [List.head?_cons] at hhead
      have ha : before (pieces s) (pieces a.1) = true := by
        rcases before_total (pieces s) (pieces a.1) with e | e | e
        · exact absurd (pieces_inj e).symm (hn a (hsub a (by simp)))
        · exact e
        · rw [e] at hhead; simp at hhead
      rw [List.pairwise_cons] at hp
      intro y hy
      rcases List.mem_cons.1 hy with rfl | hy
      · exact ha
      · exact before_trans ha (hp.1 y hy)
  rw [List.pairwise_append, List.pairwise_cons]
  refine ⟨hs2.1, ⟨h2, hs2.2.1⟩, fun x hx y hy => ?_⟩
  rcases List.mem_cons.1 hy with rfl | hy
  · exact h1 x hx
  · exact hs2.2.2 x hx y hy

theorem mem_insL {x : Tok × Int} : x ∈ insL L s n ↔ x = (s, n) ∨ x ∈ L := by
  unfold insL
  rw [List.mem_append, List.mem_cons]
  constructor
  · rintro (h | h | h)
    · exact .inr (List.mem_of_mem_take h)
    · exact .inl h
    · exact .inr (List.mem_of_mem_drop h)
  · rintro (h | h)
    · exact .inr (.inl h)
    · rw [← List.take_append_drop (cntL L s) L, List.mem_append] at h
      rcases h with h | h
      · exact .inl h
      · exact .inr (.inr h)

theorem rel_ins (h : Rel H r L) (hn : ∀ y ∈ L, y.1 ≠ s) (hd : ∀ ts m, Den H' r ts m ↔ (ts = pieces s ∧ m = n) ∨ (ts ≠ pieces s ∧ Den H r ts m)) : Rel H' r (insL L s n) := by
  refine ⟨fun ts m => ?_, insL_sorted h.sorted hn⟩
  rw [hd, h.den]
  constructor
  · rintro (⟨rfl, rfl⟩ | ⟨h1, t, h2, rfl⟩)
    · exact ⟨s, mem_insL.2 (.inl rfl), rfl⟩
    · exact ⟨t, mem_insL.2 (.inr h2), rfl⟩
  · rintro ⟨t, h1, rfl⟩
    rcases mem_insL.1 h1 with e | h2
    · cases e; exact .inl ⟨rfl, rfl⟩
    · exact .inr ⟨fun e => hn _ h2 (pieces_inj e), t, h2, rfl⟩

theorem rel_del (h : Rel H r L) {k : Nat} {p : Tok × Int} (hk : L[k]? = some p) (hp : p.1 = s)
    (hd : ∀ ts m, Den H' r ts m ↔ ts ≠ pieces s ∧ Den H r ts m) : Rel H' r (delL L k) := by
  obtain ⟨hkl, e⟩ := List.getElem?_eq_some_iff.1 hk
  have hL : L = L.take k ++ p :: L.drop (k + 1) := by
    rw [← e, ← List.drop_eq_getElem_cons hkl, List.take_append_drop]
  have hs := h.sorted
  rw [hL, List.pairwise_append, List.pairwise_cons] at hs
  have hmem : ∀ x, x ∈ delL L k ↔ x ∈ L ∧ x.1 ≠ s := by
    intro x
    unfold delL
    rw [List.mem_append]
    constructor
    · rintro (hx | hx)
      · refine ⟨List.mem_of_mem_take hx, fun e2 => ?_⟩
        have := hs.2.2 x hx p (by simp)
        rw [e2, hp, before_irrefl] at this; cases this
      · refine ⟨List.mem_of_mem_drop hx, fun e2 => ?_⟩
        have := hs.2.1.1 x hx
        rw [e2, hp, before_irrefl] at this; cases this
    · rintro ⟨hx, hne⟩
      rw [hL, List.mem_append, List.mem_cons] at hx
      rcases hx with hx | rfl | hx
      · exact .inl hx
      · exact absurd hp hne
      · exact .inr hx
  refine ⟨fun ts m => ?_, ?_⟩
  · rw [hd, h.den]
    constructor
    · rintro ⟨h1, t, h2, rfl⟩
      exact ⟨t, (hmem _).2 ⟨h2, fun e2 => h1 (by rw [show t = s from e2])⟩, rfl⟩
    · rintro ⟨t, h1, rfl⟩
      obtain ⟨h2, h3⟩ := (hmem _).1 h1
      exact ⟨fun e2 => h3 (pieces_inj e2), t, h2, rfl⟩
  · unfold delL
    rw [List.pairwise_append]
    exact ⟨hs.1, hs.2.1.2, fun x hx y hy => hs.2.2 x hx y (by simp [hy])⟩

/-- What is found. -/
def findL (L : Ents) (f : Tok) : Ents := L.filter fun x => takes (pieces f) (pieces x.1)
def toldL (l : List (List Tok × Int)) : Ents := l.map fun x => (joinT x.1, x.2)

theorem find_same {N : Nat} (hG : Good N H r) (h : Rel H r L) (f : Tok) : toldL (walkP H 8 r (pieces f)) = findL L f := by
  obtain ⟨nd, hr, hpath⟩ := hG.root
  have hsound : ∀ e ∈ walkP H 8 r (pieces f), ∃ s, e.1 = pieces s ∧ (s, e.2) ∈ L ∧ takes (pieces f) (pieces s) = true := fun e he => by
    obtain ⟨rest, h1, h2, h3⟩ := walk_sound hG 8 hr he
    rw [hpath] at h1
    obtain ⟨s, h4, h5⟩ := (h.den _ _).1 h3
    exact ⟨s, by rw [h1, ← h5]; rfl, h4, by rw [h5]; exact h2⟩
  refine rising_ext (lt := fun x y => before (pieces x.1) (pieces y.1) = true) (fun a => by simp [before_irrefl]) (fun a b c => before_trans) ?_ ?_ fun e => ?_
  · unfold toldL
    rw [List.pairwise_map]
    refine (walk_rises hG 8 hr).imp_of_mem fun {a b} ha hb hab => ?_
    obtain ⟨s, h1, _⟩ := hsound a ha
    obtain ⟨t, h2, _⟩ := hsound b hb
    show before (pieces (joinT a.1)) (pieces (joinT b.1)) = true
    rw [h1, h2, join_pieces, join_pieces, ← h1, ← h2]; exact hab
  · exact h.sorted.sublist List.filter_sublist
  · unfold toldL findL
    rw [List.mem_map, List.mem_filter]
    constructor
    · rintro ⟨x, hx, rfl⟩
      obtain ⟨s, h1, h2, h3⟩ := hsound x hx
      show (joinT x.1, x.2) ∈ L ∧ takes (pieces f) (pieces (joinT x.1)) = true
      rw [h1, join_pieces]; exact ⟨h2, h3⟩
    · rintro ⟨h1, h2⟩
      obtain ⟨s, n⟩ := e
      refine ⟨(pieces s, n), ?_, by show (joinT (pieces s), n) = _; rw [join_pieces]⟩
      have h3 := (h.mem (s := s) (n := n)).2 h1
      have h4 : (pieces s).length ≤ 8 := by
        obtain ⟨c, x, g, e, _⟩ := h3
        rw [← hG.path_root g e]; exact hG.short _ _ e
      have := walk_full hG 8 hr h4 h2 h3
      rw [hpath] at this; exact this
end
end Go.Proofs.YtbgchhgdlceceaaGreatDoor.Idx

/-! ### What Get, Drop and Put tell, and leave -/
namespace Go.Proofs.YtbgchhgdlceceaaGreatDoor.Shf
open Subj (Tok pieces)
open Idx
/-- What Get tells. -/
def getL (er : Nat) (L : Ents) (s : Tok) : Int × Nat := if er ≠ 0 then (0, er) else if idxL L s < 0 then (0, 4) else ((L.getD (idxL L s).toNat ([], 0)).2, 0)
def dropL (er : Nat) (L : Ents) (s : Tok) : Ents × Nat := if er ≠ 0 then (L, er) else if idxL L s < 0 then (L, 4) else (delL L (idxL L s).toNat, 0)
def putL (er : Nat) (L : Ents) (s : Tok) (n : Int) : Ents × Nat := if er ≠ 0 then (L, er) else if 0 ≤ idxL L s then (setL L (idxL L s).toNat s n, 0) else if L.length = 100 then (L, 8) else (insL L s n, 0)

/-- The index's list, in its order. -/
def SortedE (I : Ents) : Prop := I.Pairwise fun x y => before (pieces x.1) (pieces y.1) = true

section
variable {I : Ents} {s : Tok} {v : Int}

theorem sorted_uniq (h : SortedE I) {k : Nat} {p : Tok × Int} (hk : I[k]? = some p) {q : Tok × Int} (hq : q ∈ I) (e : q.1 = p.1) : q = p := by
  obtain ⟨j, hj, rfl⟩ := List.mem_iff_getElem.1 hq
  obtain ⟨hkl, rfl⟩ := List.getElem?_eq_some_iff.1 hk
  have hs := List.pairwise_iff_getElem.1 h
  rcases Nat.lt_trichotomy j k with hl | rfl | hl
  · have := hs j k hj hkl hl
    rw [e, before_irrefl] at this; cases this
  · rfl
  · have := hs k j hkl hj hl
    rw [e, before_irrefl] at this; cases this

theorem mem_putL (h : SortedE I) (hn : 0 ≤ idxL I s ∨ I.length ≠ 100) (x : Tok × Int) : x ∈ (putL 0 I s v).1 ↔ x = (s, v) ∨ (x ∈ I ∧ x.1 ≠ s) := by
  unfold putL
  rw [if_neg (by simp)]
  rcases idxL_cases I s with ⟨e1, e2⟩ | ⟨k, p, e1, e2, e3, _⟩
  · rw [if_neg (by omega), if_neg (by omega), mem_insL]
    exact ⟨fun h => h.imp id fun h => ⟨h, e2 x h⟩, fun h => h.imp id (·.1)⟩
  · rw [if_pos (by omega), e1]
    unfold setL
    show x ∈ I.set k (s, v) ↔ _
    rw [mem_set_iff (s, v) e2 (fun q hq e => sorted_uniq h e2 hq e) e3.symm h, e3]

theorem mem_dropL (h : SortedE I) (x : Tok × Int) : x ∈ (dropL 0 I s).1 ↔ x ∈ I ∧ x.1 ≠ s := by
  unfold dropL
  rw [if_neg (by simp)]
  rcases idxL_cases I s with ⟨e1, e2⟩ | ⟨k, p, e1, e2, e3, _⟩
  · rw [if_pos (by omega)]
    exact ⟨fun h => ⟨h, e2 x h⟩, (·.1)⟩
  · rw [if_neg (by omega), e1]
    obtain ⟨hkl, e⟩ := List.getElem?_eq_some_iff.1 e2
    have hL : I = I.take k ++ p :: I.drop (k + 1) := by rw [← e, ← List.drop_eq_getElem_cons hkl, List.take_append_drop]
    have hs := h
    unfold SortedE at hs
    rw [hL, List.pairwise_append, List.pairwise_cons] at hs
    show x ∈ delL I k ↔ _
    unfold delL
    rw [List.mem_append]
    constructor
    · rintro (hx | hx)
      · refine ⟨List.mem_of_mem_take hx, fun e2 => ?_⟩
        have := hs.2.2 x hx p (by simp)
        rw [e2, e3, before_irrefl] at this; cases this
      · refine ⟨List.mem_of_mem_drop hx, fun e2 => ?_⟩
        have := hs.2.1.1 x hx
        rw [e2, e3, before_irrefl] at this; cases this
    · rintro ⟨hx, hne⟩
      rw [hL, List.mem_append, List.mem_cons] at hx
      rcases hx with hx | rfl | hx
      · exact .inl hx
      · exact absurd e3 hne
      · exact .inr hx
end
end Go.Proofs.YtbgchhgdlceceaaGreatDoor.Shf

namespace Go.Proofs.YtbgchhgdlceceaaGreatDoor.Sto
open Subj (Tok pieces takes)
open Rec (Rc recErr far)
open Idx (Ents idxL idxL_cases setL insL delL mem_insL mem_set_iff before before_irrefl)
open Shf (getL dropL putL SortedE mem_putL mem_dropL)

def sizeR (r : Rc) : Nat := r.subj.length + r.head.length + r.data.length
def bytesR (L : List Rc) : Nat := (L.map sizeR).sum
def cntR (L : List Rc) (s : Tok) : Nat := L.countP fun r => r.subj == s

/-- It counts. -/
def Counts (I : Ents) (L : List Rc) : Prop := ∀ s n, (s, n) ∈ I ↔ n = (cntR L s : Int) ∧ cntR L s ≠ 0

section
variable {I I' : Ents} {L : List Rc} {s : Tok} {v : Int}

theorem counts_idx (hc : Counts I L) (s : Tok) : idxL I s < 0 ↔ cntR L s = 0 := by
  rcases idxL_cases I s with ⟨e1, e2⟩ | ⟨k, p, e1, e2, e3, _⟩
  · refine ⟨fun _ => Classical.byContradiction fun h => e2 _ ((hc s _).2 ⟨rfl, h⟩) rfl, fun _ => by omega⟩
  · refine ⟨fun h => by omega, fun h => ?_⟩
    have := (hc p.1 p.2).1 (List.mem_of_getElem? e2)
    rw [e3] at this
    exact absurd h this.2

theorem counts_get (_h : SortedE I) (hc : Counts I L) (s : Tok) : getL 0 I s = if cntR L s = 0 then (0, 4) else ((cntR L s : Int), 0) := by
  unfold getL
  rw [if_neg (by simp)]
  rcases idxL_cases I s with ⟨e1, e2⟩ | ⟨k, p, e1, e2, e3, _⟩
  · have := (counts_idx hc s).1 (by omega)
    rw [if_pos (by omega), if_pos this]
  · have h1 := (hc p.1 p.2).1 (List.mem_of_getElem? e2)
    rw [e3] at h1
    rw [if_neg (by omega), if_neg h1.2, e1]
    simp [List.getD, e2, h1.1]

theorem cnt_append (L : List Rc) (r : Rc) (s : Tok) : cntR (L ++ [r]) s = cntR L s + if r.subj = s then 1 else 0 := by
  unfold cntR
  rw [List.countP_append]
  by_cases h : r.subj = s <;> simp [h]

/-- One more of its subject. -/
theorem counts_add (h : SortedE I) (hc : Counts I L) (r : Rc) (hn : cntR L r.subj ≠ 0 ∨ I.length ≠ 100) : Counts (putL 0 I r.subj ((cntR L r.subj : Int) + 1)).1 (L ++ [r]) := fun s n => by
  rw [mem_putL h (hn.imp (fun h1 => by
    have := mt (counts_idx hc r.subj).1 h1; omega) id), cnt_append]
  by_cases e : r.subj = s
  · subst e
    simp only [ne_eq, not_true_eq_false, and_false, or_false, Prod.mk.injEq, true_and, if_true]
    exact ⟨fun h => ⟨by rw [h]; omega, by omega⟩, fun h => by rw [h.1]; omega⟩
  · simp only [Prod.mk.injEq, e, if_false, Nat.add_zero, ne_eq]
    have e' : s ≠ r.subj := fun h => e h.symm
    simp only [e', false_and, false_or, not_false_eq_true, and_true]
    exact hc s n

theorem cnt_del {k : Nat} {r : Rc} (hk : L[k]? = some r) (s : Tok) : cntR L s = cntR (L.eraseIdx k) s + if r.subj = s then 1 else 0 := by
  obtain ⟨hkl, e⟩ := List.getElem?_eq_some_iff.1 hk
  have hL : L = L.take k ++ r :: L.drop (k + 1) := by rw [← e, ← List.drop_eq_getElem_cons hkl, List.take_append_drop]
  have hD : L.eraseIdx k = L.take k ++ L.drop (k + 1) := List.eraseIdx_eq_take_drop_succ L k
  unfold cntR
  rw [hD]
  conv => lhs; rw [hL]
  rw [List.countP_append, List.countP_append, List.countP_cons]
  by_cases h : r.subj = s <;> simp [h]; omega

/-- One less of its subject. -/
theorem counts_sub (h : SortedE I) (hc : Counts I L) {k : Nat} {r : Rc} (hk : L[k]? = some r) :
    Counts (if cntR L r.subj = 1 then (dropL 0 I r.subj).1 else (putL 0 I r.subj ((cntR L r.subj : Int) - 1)).1) (L.eraseIdx k) := fun s n => by
  have hd := cnt_del hk s
  have hd' := cnt_del hk r.subj
  rw [if_pos rfl] at hd'
  by_cases e1 : cntR L r.subj = 1
  · rw [if_pos e1, mem_dropL h]
    by_cases e : r.subj = s
    · subst e
      simp only [ne_eq, not_true_eq_false, and_false, false_iff]
      omega
    · rw [if_neg e] at hd
      have e' : s ≠ r.subj := fun h => e h.symm
      simp only [ne_eq, e', not_false_eq_true, and_true]
      rw [hc s n, hd]; simp
  · rw [if_neg e1, mem_putL h (.inl (by
      have := mt (counts_idx hc r.subj).1 (by omega); omega))]
    by_cases e : r.subj = s
    · subst e
      simp only [ne_eq, not_true_eq_false, and_false, or_false, Prod.mk.injEq, true_and]
      exact ⟨fun h => ⟨by rw [h]; omega, by omega⟩, fun h => by rw [h.1]; omega⟩
    · rw [if_neg e] at hd
      have e' : s ≠ r.subj := fun h => e h.symm
      simp only [Prod.mk.injEq, e', false_and, false_or, ne_eq, not_false_eq_true, and_true]
      rw [hc s n, hd]; simp
end

/-- What a store holds. -/
structure Right (L : List Rc) (last : Int) (I : Ents) : Prop where
  rise : L.Pairwise fun a b => a.seq < b.seq
  top : ∀ r ∈ L, r.seq ≤ last
  good : ∀ r ∈ L, recErr r = 0 ∧ r.kind = 1
  few : L.length ≤ 200
  range : 0 ≤ last ∧ last ≤ far
  sorted : SortedE I
  count : Counts I L

def hasSeq (L : List Rc) (q : Int) : Bool := L.any fun r => r.seq == q

/-- What is told of a record ahead of it. -/
def tryS (L : List Rc) (last : Int) (I : Ents) (r : Rc) : Nat :=
  if recErr r ≠ 0 then recErr r
  else if r.kind = 1 then if r.seq ≤ last then 9 else if L.length = 200 ∨ (cntR L r.subj = 0 ∧ I.length = 100) then 8 else 0
  else if r.kind = 2 then if hasSeq L r.seq then 0 else 4
  else 0

/-- What is left of the messages. -/
def leftS (L : List Rc) (r : Rc) : List Rc :=
  if r.kind = 1 then L ++ [r]
  else if r.kind = 2 then L.filter fun x => x.seq != r.seq
  else if r.kind = 3 then L.filter fun x => !(decide (x.seq < r.seq) && takes (pieces r.subj) (pieces x.subj))
  else L

def lastS (last : Int) (r : Rc) : Int := if r.kind = 1 then r.seq else if r.kind = 4 then max last r.seq else last

theorem bytes_append (L : List Rc) (r : Rc) : bytesR (L ++ [r]) = bytesR L + sizeR r := by simp [bytesR]
theorem bytes_del {L : List Rc} {k : Nat} {r : Rc} (hk : L[k]? = some r) : bytesR L = bytesR (L.eraseIdx k) + sizeR r := by
  obtain ⟨hkl, e⟩ := List.getElem?_eq_some_iff.1 hk
  have hL : L = L.take k ++ r :: L.drop (k + 1) := by rw [← e, ← List.drop_eq_getElem_cons hkl, List.take_append_drop]
  have hD : L.eraseIdx k = L.take k ++ L.drop (k + 1) := List.eraseIdx_eq_take_drop_succ L k
  unfold bytesR
  rw [hD]
  conv => lhs; rw [hL]
  simp only [List.map_append, List.map_cons, List.sum_append, List.sum_cons]
  omega
end Go.Proofs.YtbgchhgdlceceaaGreatDoor.Sto
