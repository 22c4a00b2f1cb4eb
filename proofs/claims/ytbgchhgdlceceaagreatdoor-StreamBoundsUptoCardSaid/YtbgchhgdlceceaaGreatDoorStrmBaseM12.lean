/- Parts of the proof, joined: A tree of nodes by numbers, each with its path: found, put, dropped, walked. No program here. -/
import Derived.Test.YtbgchhgdlceceaaGreatDoorStrmBaseM11
import Derived.Lib.Bytealg
namespace Go.Proofs.YtbgchhgdlceceaaGreatDoor.Idx
open Subj (Tok)

abbrev cb := Lib.compareBytes

theorem cb_refl : ∀ a : Tok, cb a a = 0
  | [] => rfl
  | x :: a => by
    show Lib.compareBytes (x :: a) (x :: a) = 0
    unfold Lib.compareBytes
    rw [if_neg (UInt8.lt_irrefl x), if_neg (UInt8.lt_irrefl x)]
    exact cb_refl a

theorem cb_cases : ∀ a b : Tok, (cb a b = 0 ∧ a = b) ∨ (cb a b = -1 ∧ cb b a = 1) ∨ (cb a b = 1 ∧ cb b a = -1)
  | [], [] => .inl ⟨rfl, rfl⟩
  | [], _ :: _ => .inr (.inl ⟨rfl, rfl⟩)
  | _ :: _, [] => .inr (.inr ⟨rfl, rfl⟩)
  | x :: a, y :: b => by
    have ih := cb_cases a b
    show (Lib.compareBytes (x :: a) (y :: b) = 0 ∧ _) ∨ (Lib.compareBytes (x :: a) (y :: b) = -1 ∧ Lib.compareBytes (y :: b) (x :: a) = 1) ∨ (Lib.compareBytes (x :: a) (y :: b) = 1 ∧ Lib.compareBytes (y :: b) (x :: a) = -1)
    unfold Lib.compareBytes
    by_cases h : x < y
    · have h2 : ¬ y < x := fun h3 => UInt8.lt_irrefl x (UInt8.lt_trans h h3)
      simp [h, h2]
    · by_cases h2 : y < x
      · simp [h, h2]
      · have e : x = y := UInt8.le_antisymm (UInt8.not_lt.1 h2) (UInt8.not_lt.1 h)
        subst e
        simp only [if_neg h]
        rcases ih with ⟨e1, e2⟩ | ih | ih
        · exact .inl ⟨e1, by rw [e2]⟩
        · exact .inr (.inl ih)
        · exact .inr (.inr ih)

theorem cb_eq {a b : Tok} : cb a b = 0 ↔ a = b := by
  constructor
  · intro h
    rcases cb_cases a b with ⟨_, e⟩ | ⟨e, _⟩ | ⟨e, _⟩
    · exact e
    · omega
    · omega
  · rintro rfl; exact cb_refl a

theorem cb_lt_trans : ∀ {a b c : Tok}, cb a b < 0 → cb b c < 0 → cb a c < 0
  | [], [], _, h, _ => by simp [cb, Lib.compareBytes] at h
  | _ :: _, [], _, h, _ => by simp [cb, Lib.compareBytes] at h
  | [], _ :: _, [], _, h => by simp [cb, Lib.compareBytes] at h
  | _ :: _, _ :: _, [], _, h => by simp [cb, Lib.compareBytes] at h
  | [], _ :: _, _ :: _, _, _ => by simp [cb, Lib.compareBytes]
  | x :: a, y :: b, z :: c, h1, h2 => by
    simp only [cb, Lib.compareBytes] at h1 h2 ⊢
    split at h1
    · rename_i e1
      split at h2
      · rename_i e2
        rw [if_pos (UInt8.lt_trans e1 e2)]; omega
      · split at h2
        · omega
        · rename_i e2 e3
          have : y = z := UInt8.le_antisymm (UInt8.not_lt.1 e3) (UInt8.not_lt.1 e2)
          subst this
          rw [if_pos e1]; omega
    · split at h1
      · omega
      · rename_i e1 e1'
        have : x = y := UInt8.le_antisymm (UInt8.not_lt.1 e1') (UInt8.not_lt.1 e1)
        subst this
        split at h2
        · rename_i e2
          rw [if_pos e2]; omega
        · split at h2
          · omega
          · rename_i e2 e3
            rw [if_neg e2, if_neg e3]
            exact cb_lt_trans h1 h2

/-- Rows of tokens. -/
def before : List Tok → List Tok → Bool
  | _, [] => false
  | [], _ :: _ => true
  | a :: x, b :: y => if a = b then before x y else decide (cb a b < 0)

theorem before_irrefl : ∀ x : List Tok, before x x = false
  | [] => rfl
  | a :: x => by unfold before; rw [if_pos rfl]; exact before_irrefl x

theorem before_total : ∀ x y : List Tok, x = y ∨ before x y = true ∨ before y x = true
  | [], [] => .inl rfl
  | [], _ :: _ => .inr (.inl rfl)
  | _ :: _, [] => .inr (.inr rfl)
  | a :: x, b :: y => by
    unfold before
    by_cases e : a = b
    · subst e
      rw [if_pos rfl, if_pos rfl]
      rcases before_total x y with rfl | h | h
      · exact .inl rfl
      · exact .inr (.inl h)
      · exact .inr (.inr h)
    · rw [if_neg e, if_neg (Ne.symm e)]
      rcases cb_cases a b with ⟨_, e2⟩ | ⟨e2, _⟩ | ⟨_, e2⟩
      · exact absurd e2 e
      · exact .inr (.inl (by simp; omega))
      · exact .inr (.inr (by simp; omega))

theorem before_trans : ∀ {x y z : List Tok}, before x y = true → before y z = true → before x z = true
  | _, _, [], _, h => by simp [before] at h
  | _, [], _ :: _, h, _ => by simp [before] at h
  | [], _ :: _, _ :: _, _, _ => rfl
  | a :: x, b :: y, c :: z, h1, h2 => by
    unfold before at h1 h2 ⊢
    by_cases e : a = b
    · subst e
      rw [if_pos rfl] at h1
      by_cases e2 : a = c
      · subst e2
        rw [if_pos rfl] at h2 ⊢
        exact before_trans h1 h2
      · rw [if_neg e2] at h2 ⊢
        exact h2
    · rw [if_neg e] at h1
      by_cases e2 : b = c
      · subst e2
        rw [if_neg e]; exact h1
      · rw [if_neg e2] at h2
        have h3 := cb_lt_trans (by simpa using h1) (by simpa using h2)
        by_cases e3 : a = c
        · subst e3; have := cb_refl a; omega
        · rw [if_neg e3]; simpa using h3

theorem before_app (p : List Tok) (x y : List Tok) : before (p ++ x) (p ++ y) = before x y := by
  induction p with
  | nil => rfl
  | cons a p ih =>
    have : before (a :: (p ++ x)) (a :: (p ++ y)) = if a = a then before (p ++ x) (p ++ y) else decide (cb a a < 0) := by rw [before]
    show before (a :: (p ++ x)) (a :: (p ++ y)) = _
    rw [this, if_pos rfl, ih]

/-- Two rows that rise and hold the same are the same. -/
theorem rising_ext {α : Type} {lt : α → α → Prop} (hirr : ∀ a, ¬ lt a a) (htr : ∀ a b c, lt a b → lt b c → lt a c) : ∀ {l m : List α}, l.Pairwise lt → m.Pairwise lt → (∀ a, a ∈ l ↔ a ∈ m) → l = m
  | [], [], _, _, _ => rfl
  | [], b :: m, _, _, h => by have := (h b).2 (by simp); simp at this
  | a :: l, [], _, _, h => by have := (h a).1 (by simp); simp at this
  | a :: l, b :: m, hl, hm, h => by
    rw [List.pairwise_cons] at hl hm
    have hab : a = b := by
      rcases List.mem_cons.1 ((h a).1 (by simp)) with e | h1
      · exact e
      · rcases List.mem_cons.1 ((h b).2 (by simp)) with e | h2
        · exact e.symm
        · exact absurd (htr _ _ _ (hl.1 b h2) (hm.1 a h1)) (hirr a)
    subst hab
    rw [rising_ext hirr htr hl.2 hm.2 fun x => ⟨fun hx => by
        rcases List.mem_cons.1 ((h x).1 (by simp [hx])) with rfl | h2
        · exact absurd (hl.1 _ hx) (hirr _)
        · exact h2, fun hx => by
        rcases List.mem_cons.1 ((h x).2 (by simp [hx])) with rfl | h2
        · exact absurd (hm.1 _ hx) (hirr _)
        · exact h2⟩]

/-! ### The nodes -/
structure NodeP where
  tok : Tok
  kids : List Nat
  has : Bool
  n : Int
  path : List Tok

abbrev Hp := Nat → Option NodeP

def tokH (H : Hp) (k : Nat) : Tok := match H k with | some nd => nd.tok | none => []

def Step (H : Hp) (b : Nat) (t : Tok) (k : Nat) : Prop := ∃ nd, H b = some nd ∧ k ∈ nd.kids ∧ tokH H k = t

inductive Go (H : Hp) : Nat → List Tok → Nat → Prop
  | nil (b : Nat) : Go H b [] b
  | cons {b k c : Nat} {t : Tok} {ts : List Tok} : Step H b t k → Go H k ts c → Go H b (t :: ts) c

def Den (H : Hp) (b : Nat) (ts : List Tok) (n : Int) : Prop := ∃ c nd, Go H b ts c ∧ H c = some nd ∧ nd.has = true ∧ nd.n = n

structure Good (N : Nat) (H : Hp) (r : Nat) : Prop where
  root : ∃ nd, H r = some nd ∧ nd.path = []
  short : ∀ b nd, H b = some nd → nd.path.length ≤ 8
  toks : ∀ b nd, H b = some nd → ∀ t ∈ nd.path, t ≠ [] ∧ t.length ≤ 16
  kid : ∀ b nd k, H b = some nd → k ∈ nd.kids → ∃ kd, H k = some kd ∧ kd.path = nd.path ++ [kd.tok]
  sorted : ∀ b nd, H b = some nd → nd.kids.Pairwise fun k k' => cb (tokH H k) (tokH H k') < 0
  few : ∀ b nd, H b = some nd → nd.kids.length ≤ N

theorem tokH_some {H : Hp} {k : Nat} {nd : NodeP} (h : H k = some nd) : tokH H k = nd.tok := by unfold tokH; rw [h]

theorem go_app {H : Hp} : ∀ {b c d : Nat} {p q : List Tok}, Go H b p c → Go H c q d → Go H b (p ++ q) d
  | _, _, _, _, _, .nil _, h => h
  | _, _, _, _, _, .cons s g, h => .cons s (go_app g h)

theorem go_split {H : Hp} : ∀ {p q : List Tok} {b d : Nat}, Go H b (p ++ q) d → ∃ c, Go H b p c ∧ Go H c q d
  | [], _, b, _, h => ⟨b, .nil b, h⟩
  | t :: p, q, b, d, h => by
    cases h with
    | cons s g =>
      obtain ⟨c, h1, h2⟩ := go_split g
      exact ⟨c, .cons s h1, h2⟩

theorem go_one {H : Hp} {b k : Nat} {t : Tok} (h : Step H b t k) : Go H b [t] k := .cons h (.nil k)

namespace Good
variable {N : Nat} {H : Hp} {r : Nat}

theorem mono {M : Nat} (h : Good N H r) (hM : N ≤ M) : Good M H r := { h with few := fun b nd e => Nat.le_trans (h.few b nd e) hM }

theorem some_go (h : Good N H r) : ∀ {b c : Nat} {ts : List Tok}, Go H b ts c → (∃ nd, H b = some nd) → ∃ nd, H c = some nd
  | _, _, _, .nil _, hb => hb
  | _, _, _, .cons s g, _ => by
    obtain ⟨nd, h1, h2, _⟩ := s
    obtain ⟨kd, h3, _⟩ := h.kid _ _ _ h1 h2
    exact h.some_go g ⟨kd, h3⟩

theorem path_go (h : Good N H r) : ∀ {b c : Nat} {ts : List Tok} {nd nc : NodeP}, Go H b ts c → H b = some nd → H c = some nc → nc.path = nd.path ++ ts
  | _, _, _, nd, nc, .nil _, hb, hc => by rw [hb] at hc; cases hc; simp
  | _, _, _, nd, nc, .cons (t := t) s g, hb, hc => by
    obtain ⟨nd', h1, h2, h3⟩ := s
    rw [hb] at h1
    cases h1
    obtain ⟨kd, h4, h5⟩ := h.kid _ _ _ hb h2
    have h6 := h.path_go g h4 hc
    rw [tokH_some h4] at h3
    rw [h6, h5, h3]; simp

theorem path_root (h : Good N H r) {c : Nat} {ts : List Tok} {nc : NodeP} (g : Go H r ts c) (hc : H c = some nc) : nc.path = ts := by
  obtain ⟨nd, h1, h2⟩ := h.root
  have := h.path_go g h1 hc
  rw [this, h2]; rfl

theorem step_det (h : Good N H r) {b k k' : Nat} {t : Tok} (h1 : Step H b t k) (h2 : Step H b t k') : k = k' := by
  obtain ⟨nd, e1, m1, t1⟩ := h1
  obtain ⟨nd', e2, m2, t2⟩ := h2
  rw [e1] at e2
  cases e2
  have hs := h.sorted _ _ e1
  obtain ⟨i, hi, rfl⟩ := List.mem_iff_getElem.1 m1
  obtain ⟨j, hj, rfl⟩ := List.mem_iff_getElem.1 m2
  rcases Nat.lt_trichotomy i j with hlt | rfl | hlt
  · have := List.pairwise_iff_getElem.1 hs i j hi hj hlt
    rw [t1, t2, cb_refl] at this; omega
  · rfl
  · have := List.pairwise_iff_getElem.1 hs j i hj hi hlt
    rw [t1, t2, cb_refl] at this; omega

theorem go_det (h : Good N H r) : ∀ {b c c' : Nat} {ts : List Tok}, Go H b ts c → Go H b ts c' → c = c'
  | _, _, _, _, .nil _, .nil _ => rfl
  | _, _, _, _, .cons s g, .cons s' g' => by
    have := h.step_det s s'
    subst this
    exact h.go_det g g'

end Good

def upd (H : Hp) (c : Nat) (nd : NodeP) : Hp := fun x => if x = c then some nd else H x

theorem upd_at (H : Hp) (c : Nat) (nd : NodeP) : upd H c nd c = some nd := if_pos rfl
theorem upd_ne (H : Hp) {c x : Nat} (nd : NodeP) (h : x ≠ c) : upd H c nd x = H x := if_neg h

/-! ### What a node has is set -/
section
variable {N : Nat} {H : Hp} {r c : Nat} {nd : NodeP}

theorem tok_set (hc : H c = some nd) (b : Bool) (n : Int) (k : Nat) : tokH (upd H c { nd with has := b, n := n }) k = tokH H k := by
  unfold tokH upd
  by_cases e : k = c
  · subst e; rw [if_pos rfl, hc]
  · rw [if_neg e]

theorem step_set (hc : H c = some nd) (v : Bool) (n : Int) {b k : Nat} {t : Tok} : Step (upd H c { nd with has := v, n := n }) b t k ↔ Step H b t k := by
  unfold Step
  simp only [tok_set hc]
  by_cases e : b = c
  · subst e
    rw [upd_at, hc]
    constructor
    · rintro ⟨x, h1, h2⟩; cases h1; exact ⟨nd, rfl, h2⟩
    · rintro ⟨x, h1, h2⟩; cases h1; exact ⟨_, rfl, h2⟩
  · rw [upd_ne _ _ e]

theorem go_set (hc : H c = some nd) (v : Bool) (n : Int) : ∀ {b d : Nat} {ts : List Tok}, Go (upd H c { nd with has := v, n := n }) b ts d ↔ Go H b ts d := by
  intro b d ts
  constructor
  · intro h
    induction h with
    | nil b => exact .nil b
    | cons s _ ih => exact .cons ((step_set hc v n).1 s) ih
  · intro h
    induction h with
    | nil b => exact .nil b
    | cons s _ ih => exact .cons ((step_set hc v n).2 s) ih

theorem good_set (h : Good N H r) (hc : H c = some nd) (v : Bool) (n : Int) : Good N (upd H c { nd with has := v, n := n }) r := by
  have key : ∀ b x, upd H c { nd with has := v, n := n } b = some x → ∃ y, H b = some y ∧ y.path = x.path ∧ y.kids = x.kids ∧ y.tok = x.tok := by
    intro b x hx
    by_cases e : b = c
    · subst e; rw [upd_at] at hx; cases hx; exact ⟨nd, hc, rfl, rfl, rfl⟩
    · rw [upd_ne _ _ e] at hx; exact ⟨x, hx, rfl, rfl, rfl⟩
  have back : ∀ b y, H b = some y → ∃ x, upd H c { nd with has := v, n := n } b = some x ∧ y.path = x.path ∧ y.tok = x.tok := by
    intro b y hy
    by_cases e : b = c
    · subst e; rw [hc] at hy; cases hy; exact ⟨_, upd_at _ _ _, rfl, rfl⟩
    · exact ⟨y, (upd_ne _ _ e).trans hy, rfl, rfl⟩
  refine ⟨?_, fun b x hx => ?_, fun b x hx => ?_, fun b x k hx hk => ?_, fun b x hx => ?_, fun b x hx => ?_⟩
  · obtain ⟨y, h1, h2⟩ := h.root
    obtain ⟨x, h3, h4, _⟩ := back _ _ h1
    exact ⟨x, h3, h4 ▸ h2⟩
  · obtain ⟨y, h1, h2, _⟩ := key b x hx
    rw [← h2]; exact h.short _ _ h1
  · obtain ⟨y, h1, h2, _⟩ := key b x hx
    rw [← h2]; exact h.toks _ _ h1
  · obtain ⟨y, h1, h2, h3, _⟩ := key b x hx
    obtain ⟨kd, h4, h5⟩ := h.kid _ _ k h1 (h3 ▸ hk)
    obtain ⟨kx, h6, h7, h8⟩ := back _ _ h4
    exact ⟨kx, h6, by rw [← h7, h5, h2, h8]⟩
  · obtain ⟨y, h1, _, h3, _⟩ := key b x hx
    simp only [tok_set hc]
    rw [← h3]; exact h.sorted _ _ h1
  · obtain ⟨y, h1, _, h3, _⟩ := key b x hx
    rw [← h3]; exact h.few _ _ h1

/-- What is told then. -/
theorem den_set (h : Good N H r) (hc : H c = some nd) (v : Bool) (n : Int) {p ts : List Tok} {m : Int} (hg : Go H r p c) :
    Den (upd H c { nd with has := v, n := n }) r ts m ↔ (ts = p ∧ v = true ∧ m = n) ∨ (ts ≠ p ∧ Den H r ts m) := by
  constructor
  · rintro ⟨d, x, g, e, h1, h2⟩
    have g' := (go_set hc v n).1 g
    by_cases hd : d = c
    · subst hd
      rw [upd_at] at e
      cases e
      have e1 := h.path_root g' hc
      have e2 := h.path_root hg hc
      exact .inl ⟨e1.symm.trans e2, h1, h2.symm⟩
    · rw [upd_ne _ _ hd] at e
      exact .inr ⟨fun e3 => hd (by subst e3; exact h.go_det g' hg), d, x, g', e, h1, h2⟩
  · rintro (⟨rfl, rfl, rfl⟩ | ⟨hne, d, x, g, e, h1, h2⟩)
    · exact ⟨c, _, (go_set hc _ _).2 hg, upd_at _ _ _, rfl, rfl⟩
    · have hd : d ≠ c := fun e3 => by
        subst e3
        exact hne ((h.path_root g hc).symm.trans (h.path_root hg hc))
      exact ⟨d, x, (go_set hc v n).2 g, (upd_ne _ _ hd).trans e, h1, h2⟩
end

/-! ### A new node -/
section
variable {N : Nat} {H : Hp} {r c k i : Nat} {nd : NodeP} {t : Tok}

def insH (H : Hp) (c : Nat) (nd : NodeP) (i k : Nat) (t : Tok) : Hp :=
  upd (upd H c { nd with kids := nd.kids.take i ++ k :: nd.kids.drop i }) k ⟨t, [], false, 0, nd.path ++ [t]⟩

theorem insH_k : insH H c nd i k t k = some ⟨t, [], false, 0, nd.path ++ [t]⟩ := upd_at _ _ _
theorem insH_c (hk : k ≠ c) : insH H c nd i k t c = some { nd with kids := nd.kids.take i ++ k :: nd.kids.drop i } := by
  unfold insH; rw [upd_ne _ _ (Ne.symm hk), upd_at]
theorem insH_ne {x : Nat} (h1 : x ≠ k) (h2 : x ≠ c) : insH H c nd i k t x = H x := by
  unfold insH; rw [upd_ne _ _ h1, upd_ne _ _ h2]

theorem insH_back (hc : H c = some nd) (hk : H k = none) {x : Nat} {y : NodeP} (hx : H x = some y) : ∃ z, insH H c nd i k t x = some z ∧ z.path = y.path ∧ z.tok = y.tok ∧ z.has = y.has ∧ z.n = y.n ∧ ∀ j ∈ y.kids, j ∈ z.kids := by
  have h1 : x ≠ k := fun e => by subst e; rw [hk] at hx; cases hx
  by_cases h2 : x = c
  · subst h2
    rw [hc] at hx; cases hx
    refine ⟨_, insH_c (Ne.symm h1), rfl, rfl, rfl, rfl, fun j hj => ?_⟩
    rw [← List.take_append_drop i nd.kids] at hj
    simp only [List.mem_append, List.mem_cons] at hj ⊢
    rcases hj with hj | hj
    · exact .inl hj
    · exact .inr (.inr hj)
  · exact ⟨y, (insH_ne h1 h2).trans hx, rfl, rfl, rfl, rfl, fun _ hj => hj⟩

theorem tok_ins (hc : H c = some nd) (_hk : H k = none) {x : Nat} (hx : x ≠ k) : tokH (insH H c nd i k t) x = tokH H x := by
  unfold tokH
  by_cases h2 : x = c
  · subst h2; rw [insH_c (Ne.symm hx), hc]
  · rw [insH_ne hx h2]

theorem tok_ins_k : tokH (insH H c nd i k t) k = t := by unfold tokH; rw [insH_k]

theorem go_ins (h : Good N H r) (hc : H c = some nd) (hk : H k = none) {b d : Nat} {ts : List Tok} (hb : ∃ y, H b = some y) (g : Go H b ts d) : Go (insH H c nd i k t) b ts d := by
  induction g with
  | nil b => exact .nil b
  | cons s g ih =>
    obtain ⟨y, h1, h2, h3⟩ := s
    obtain ⟨kd, h4, _⟩ := h.kid _ _ _ h1 h2
    obtain ⟨z, h5, _, _, _, _, h6⟩ := insH_back (i := i) (t := t) hc hk h1
    refine .cons ⟨z, h5, h6 _ h2, ?_⟩ (ih ⟨kd, h4⟩)
    rw [tok_ins hc hk (fun e => by subst e; rw [hk] at h4; cases h4)]; exact h3

theorem go_ins_new (h : Good N H r) (hc : H c = some nd) (hk : H k = none) {p : List Tok} (hg : Go H r p c) : Go (insH H c nd i k t) r (p ++ [t]) k := by
  have hne : k ≠ c := fun e => by subst e; rw [hk] at hc; cases hc
  obtain ⟨y, hr, _⟩ := h.root
  exact go_app (go_ins h hc hk ⟨y, hr⟩ hg) (go_one ⟨_, insH_c hne, by simp, tok_ins_k⟩)

theorem go_ins_inv (h : Good N H r) (hc : H c = some nd) (hk : H k = none) {b d : Nat} {ts : List Tok} (g : Go (insH H c nd i k t) b ts d) : (∃ y, H b = some y) → d = k ∨ Go H b ts d := by
  have hne : k ≠ c := fun e => by subst e; rw [hk] at hc; cases hc
  induction g with
  | nil b => exact fun _ => .inr (.nil b)
  | @cons b j d u us s g ih =>
    rintro ⟨y, hy⟩
    obtain ⟨z, h1, h2, h3⟩ := s
    by_cases hj : j = k
    · subst hj
      left
      cases g with
      | nil => rfl
      | cons s' _ =>
        obtain ⟨z', h4, h5, _⟩ := s'
        rw [insH_k] at h4
        cases h4
        simp at h5
    · have hjy : j ∈ y.kids := by
        by_cases h4 : b = c
        · subst h4
          rw [hc] at hy; cases hy
          rw [insH_c hne] at h1; cases h1
          simp only [List.mem_append, List.mem_cons] at h2
          rw [← List.take_append_drop i nd.kids, List.mem_append]
          rcases h2 with h2 | h2 | h2
          · exact .inl h2
          · exact absurd h2 hj
          · exact .inr h2
        · have hbk : b ≠ k := fun e => by subst e; rw [hk] at hy; cases hy
          rw [insH_ne hbk h4, hy] at h1; cases h1; exact h2
      obtain ⟨kd, h5, _⟩ := h.kid _ _ _ hy hjy
      rcases ih ⟨kd, h5⟩ with e | g'
      · exact .inl e
      · exact .inr (.cons ⟨y, hy, hjy, by rw [tok_ins hc hk hj] at h3; exact h3⟩ g')

theorem den_ins (h : Good N H r) (hc : H c = some nd) (hk : H k = none) {ts : List Tok} {m : Int} : Den (insH H c nd i k t) r ts m ↔ Den H r ts m := by
  obtain ⟨y, hr, _⟩ := h.root
  constructor
  · rintro ⟨d, x, g, e, h1, h2⟩
    rcases go_ins_inv h hc hk g ⟨y, hr⟩ with rfl | g'
    · rw [insH_k] at e; cases e; cases h1
    · obtain ⟨x', hx'⟩ := h.some_go g' ⟨y, hr⟩
      obtain ⟨z, h3, _, _, h4, h5, _⟩ := insH_back (i := i) (t := t) hc hk hx'
      rw [e] at h3; cases h3
      exact ⟨d, x', g', hx', h4 ▸ h1, h5 ▸ h2⟩
  · rintro ⟨d, x, g, e, h1, h2⟩
    obtain ⟨z, h3, _, _, h4, h5, _⟩ := insH_back (i := i) (t := t) hc hk e
    exact ⟨d, z, go_ins h hc hk ⟨y, hr⟩ g, h3, h4.trans h1, h5.trans h2⟩

theorem good_ins (h : Good N H r) (hc : H c = some nd) (hk : H k = none) (hkc : ∀ b x, H b = some x → k ∉ x.kids) (hp : nd.path.length < 8) (ht : t ≠ [] ∧ t.length ≤ 16)
    (h1 : ∀ x ∈ nd.kids.take i, cb (tokH H x) t < 0) (h2 : ∀ x ∈ nd.kids.drop i, cb t (tokH H x) < 0) : Good (N + 1) (insH H c nd i k t) r := by
  have hne : k ≠ c := fun e => by subst e; rw [hk] at hc; cases hc
  have key : ∀ b x, insH H c nd i k t b = some x → b = k ∧ x = ⟨t, [], false, 0, nd.path ++ [t]⟩ ∨ b = c ∧ x = { nd with kids := nd.kids.take i ++ k :: nd.kids.drop i } ∨ b ≠ k ∧ b ≠ c ∧ H b = some x := by
    intro b x hx
    by_cases e1 : b = k
    · subst e1; rw [insH_k] at hx; cases hx; exact .inl ⟨rfl, rfl⟩
    · by_cases e2 : b = c
      · subst e2; rw [insH_c hne] at hx; cases hx; exact .inr (.inl ⟨rfl, rfl⟩)
      · rw [insH_ne e1 e2] at hx; exact .inr (.inr ⟨e1, e2, hx⟩)
  have notk : ∀ x b y, H b = some y → x ∈ y.kids → x ≠ k := fun x b y hb hx e => hkc b y hb (e ▸ hx)
  refine ⟨?_, fun b x hx => ?_, fun b x hx u hu => ?_, fun b x j hx hj => ?_, fun b x hx => ?_, fun b x hx => ?_⟩
  · obtain ⟨y, h3, h4⟩ := h.root
    obtain ⟨z, h5, h6, _⟩ := insH_back (i := i) (t := t) hc hk h3
    exact ⟨z, h5, h6.trans h4⟩
  · rcases key b x hx with ⟨_, rfl⟩ | ⟨_, rfl⟩ | ⟨_, _, h3⟩
    · simp; omega
    · exact h.short c nd hc
    · exact h.short _ _ h3
  · rcases key b x hx with ⟨_, rfl⟩ | ⟨_, rfl⟩ | ⟨_, _, h3⟩
    · simp only [List.mem_append, List.mem_singleton] at hu
      rcases hu with hu | rfl
      · exact h.toks c nd hc u hu
      · exact ht
    · exact h.toks c nd hc u hu
    · exact h.toks _ _ h3 u hu
  · have old : ∀ b y, H b = some y → j ∈ y.kids → ∃ kd, insH H c nd i k t j = some kd ∧ kd.path = y.path ++ [kd.tok] := fun b y hy hj => by
      obtain ⟨kd, h4, h5⟩ := h.kid _ _ _ hy hj
      obtain ⟨z, h6, h7, h8, _⟩ := insH_back (i := i) (t := t) hc hk h4
      exact ⟨z, h6, by rw [h7, h8, h5]⟩
    rcases key b x hx with ⟨_, rfl⟩ | ⟨_, rfl⟩ | ⟨_, _, h3⟩
    · simp at hj
    · simp only [List.mem_append, List.mem_cons] at hj
      rcases hj with hj | rfl | hj
      · exact old c nd hc (List.mem_of_mem_take hj)
      · exact ⟨_, insH_k, rfl⟩
      · exact old c nd hc (List.mem_of_mem_drop hj)
    · exact old b x h3 hj
  · rcases key b x hx with ⟨_, rfl⟩ | ⟨_, rfl⟩ | ⟨_, _, h3⟩
    · exact List.Pairwise.nil
    · have hs := h.sorted _ _ hc
      rw [← List.take_append_drop i nd.kids, List.pairwise_append] at hs
      have e : ∀ x, x ∈ nd.kids.take i ∨ x ∈ nd.kids.drop i → tokH (insH H c nd i k t) x = tokH H x := fun x hx => tok_ins hc hk (notk x c nd hc (by rcases hx with hx | hx; exact List.mem_of_mem_take hx; exact List.mem_of_mem_drop hx))
      rw [List.pairwise_append, List.pairwise_cons]
      refine ⟨hs.1.imp_of_mem fun ha hb hab => by rw [e _ (.inl ha), e _ (.inl hb)]; exact hab, ⟨fun y hy => by rw [tok_ins_k, e _ (.inr hy)]; exact h2 y hy, hs.2.1.imp_of_mem fun ha hb hab => by rw [e _ (.inr ha), e _ (.inr hb)]; exact hab⟩, fun y hy z hz => ?_⟩
      rcases List.mem_cons.1 hz with rfl | hz
      · rw [tok_ins_k, e _ (.inl hy)]; exact h1 y hy
      · rw [e _ (.inl hy), e _ (.inr hz)]; exact hs.2.2 y hy z hz
    · exact (h.sorted _ _ h3).imp_of_mem fun ha hb hab => by rw [tok_ins hc hk (notk _ _ _ h3 ha), tok_ins hc hk (notk _ _ _ h3 hb)]; exact hab
  · rcases key b x hx with ⟨_, rfl⟩ | ⟨_, rfl⟩ | ⟨_, _, h3⟩
    · simp
    · have := h.few _ _ hc
      simp only [List.length_append, List.length_cons, List.length_take, List.length_drop]
      omega
    · have := h.few _ _ h3; omega
end

/-! ### A kid that is of no use is struck -/
section
variable {N : Nat} {H : Hp} {r c k i : Nat} {nd kd : NodeP}

def delH (H : Hp) (c : Nat) (nd : NodeP) (i : Nat) : Hp := upd H c { nd with kids := nd.kids.eraseIdx i }

theorem tok_del (hc : H c = some nd) (x : Nat) : tokH (delH H c nd i) x = tokH H x := by
  unfold tokH delH upd
  by_cases e : x = c
  · subst e; rw [if_pos rfl, hc]
  · rw [if_neg e]

theorem go_del_inv (hc : H c = some nd) {b d : Nat} {ts : List Tok} (g : Go (delH H c nd i) b ts d) : Go H b ts d := by
  induction g with
  | nil b => exact .nil b
  | @cons b j d u us s g ih =>
    obtain ⟨z, h1, h2, h3⟩ := s
    rw [tok_del hc] at h3
    refine .cons ?_ ih
    by_cases h4 : b = c
    · subst h4
      unfold delH at h1
      rw [upd_at] at h1; cases h1
      exact ⟨nd, hc, List.mem_of_mem_eraseIdx h2, h3⟩
    · unfold delH at h1
      rw [upd_ne _ _ h4] at h1
      exact ⟨z, h1, h2, h3⟩

theorem go_del (hc : H c = some nd) (hi : nd.kids[i]? = some k) (hk : H k = some kd) (hkk : kd.kids = []) {b d : Nat} {ts : List Tok} (g : Go H b ts d) : d = k ∨ Go (delH H c nd i) b ts d := by
  induction g with
  | nil b => exact .inr (.nil b)
  | @cons b j d u us s g ih =>
    rcases ih with e | ih
    · exact .inl e
    · obtain ⟨z, h1, h2, h3⟩ := s
      by_cases h4 : b = c
      · subst h4
        rw [hc] at h1; cases h1
        by_cases hj : j = k
        · subst hj
          left
          cases g with
          | nil => rfl
          | cons s' _ =>
            obtain ⟨z', h5, h6, _⟩ := s'
            rw [hk] at h5; cases h5
            rw [hkk] at h6; simp at h6
        · right
          refine .cons ⟨_, upd_at _ _ _, ?_, (tok_del hc j).trans h3⟩ ih
          show j ∈ nd.kids.eraseIdx i
          rw [List.mem_eraseIdx_iff_getElem?]
          obtain ⟨m, hm, e⟩ := List.mem_iff_getElem.1 h2
          refine ⟨m, fun e2 => hj ?_, by rw [List.getElem?_eq_getElem hm, e]⟩
          subst e2
          rw [List.getElem?_eq_getElem hm, e] at hi
          cases hi; rfl
      · exact .inr (.cons ⟨z, (upd_ne _ _ h4).trans h1, h2, (tok_del hc j).trans h3⟩ ih)

theorem good_del (h : Good N H r) (hc : H c = some nd) : Good N (delH H c nd i) r := by
  have key : ∀ b x, delH H c nd i b = some x → b = c ∧ x = { nd with kids := nd.kids.eraseIdx i } ∨ b ≠ c ∧ H b = some x := by
    intro b x hx
    by_cases e2 : b = c
    · subst e2; unfold delH at hx; rw [upd_at] at hx; cases hx; exact .inl ⟨rfl, rfl⟩
    · unfold delH at hx; rw [upd_ne _ _ e2] at hx; exact .inr ⟨e2, hx⟩
  have back : ∀ x y, H x = some y → ∃ z, delH H c nd i x = some z ∧ z.path = y.path ∧ z.tok = y.tok := by
    intro x y hy
    by_cases e : x = c
    · subst e; rw [hc] at hy; cases hy; exact ⟨_, upd_at _ _ _, rfl, rfl⟩
    · exact ⟨y, (upd_ne _ _ e).trans hy, rfl, rfl⟩
  refine ⟨?_, fun b x hx => ?_, fun b x hx u hu => ?_, fun b x j hx hj => ?_, fun b x hx => ?_, fun b x hx => ?_⟩
  · obtain ⟨y, h3, h4⟩ := h.root
    obtain ⟨z, h5, h6, _⟩ := back _ _ h3
    exact ⟨z, h5, h6.trans h4⟩
  · rcases key b x hx with ⟨_, rfl⟩ | ⟨_, h3⟩
    · exact h.short c nd hc
    · exact h.short _ _ h3
  · rcases key b x hx with ⟨_, rfl⟩ | ⟨_, h3⟩
    · exact h.toks c nd hc u hu
    · exact h.toks _ _ h3 u hu
  · have old : ∀ b y, H b = some y → j ∈ y.kids → ∃ kd, delH H c nd i j = some kd ∧ kd.path = y.path ++ [kd.tok] := fun b y hy hj => by
      obtain ⟨kd, h4, h5⟩ := h.kid _ _ _ hy hj
      obtain ⟨z, h6, h7, h8⟩ := back _ _ h4
      exact ⟨z, h6, by rw [h7, h8, h5]⟩
    rcases key b x hx with ⟨_, rfl⟩ | ⟨_, h3⟩
    · exact old c nd hc (List.mem_of_mem_eraseIdx hj)
    · exact old b x h3 hj
  · simp only [tok_del hc]
    rcases key b x hx with ⟨_, rfl⟩ | ⟨_, h3⟩
    · exact (h.sorted _ _ hc).sublist (List.eraseIdx_sublist _ _)
    · exact h.sorted _ _ h3
  · rcases key b x hx with ⟨_, rfl⟩ | ⟨_, h3⟩
    · have := h.few _ _ hc
      have h4 := (List.eraseIdx_sublist nd.kids i).length_le
      show (nd.kids.eraseIdx i).length ≤ N
      omega
    · exact h.few _ _ h3

theorem den_del (hc : H c = some nd) (hi : nd.kids[i]? = some k) (hk : H k = some kd) (hkk : kd.kids = []) (hkh : kd.has = false) (hkc : k ≠ c) {b : Nat} {ts : List Tok} {m : Int} : Den (delH H c nd i) b ts m ↔ Den H b ts m := by
  constructor
  · rintro ⟨d, x, g, e, h1, h2⟩
    have g' := go_del_inv hc g
    by_cases hd : d = c
    · subst hd; unfold delH at e; rw [upd_at] at e; cases e; exact ⟨d, nd, g', hc, h1, h2⟩
    · unfold delH at e; rw [upd_ne _ _ hd] at e; exact ⟨d, x, g', e, h1, h2⟩
  · rintro ⟨d, x, g, e, h1, h2⟩
    rcases go_del hc hi hk hkk g with rfl | g'
    · rw [hk] at e; cases e; rw [hkh] at h1; cases h1
    · by_cases hd : d = c
      · subst hd; rw [hc] at e; cases e; exact ⟨d, _, g', upd_at _ _ _, h1, h2⟩
      · exact ⟨d, x, g', (upd_ne _ _ hd).trans e, h1, h2⟩
end
end Go.Proofs.YtbgchhgdlceceaaGreatDoor.Idx
