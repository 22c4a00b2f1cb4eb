/- Parts of the proof, joined: A tree of nodes by numbers, each with its path: found, put, dropped, walked. No program here.; What a walk of the tree tells; the tree against a list of entries. No program here.; The tree of nodes in memory. -/
import Derived.Test.YtapmhpnkpjgefaaDoorConsumerRulesUptoM2
import Derived.Test.YtapmhpnkpjgefaaDoorConsumerRulesUptoM6
import Derived.Lib.Bytealg
import Derived.Deep.QuietTactic
import Derived.BigQuiet
namespace Go.Proofs.YtapmhpnkpjgefaaDoor.Idx
open Subj (Tok)

abbrev cb := Lib.compareBytes

theorem cb_refl : ∀ a : Subj.Tok, cb a a = 0
  | [] => rfl
  | x :: a => by
    show Lib.compareBytes (x :: a) (x :: a) = 0
    unfold Lib.compareBytes
    rw [if_neg (UInt8.lt_irrefl x), if_neg (UInt8.lt_irrefl x)]
    exact cb_refl a

theorem cb_cases : ∀ a b : Subj.Tok, (cb a b = 0 ∧ a = b) ∨ (cb a b = -1 ∧ cb b a = 1) ∨ (cb a b = 1 ∧ cb b a = -1)
  | [], [] => .inl ⟨rfl, rfl⟩
  | [], _ :: _ => .inr (.inl ⟨rfl, rfl⟩)
  | _ :: _, [] => .inr (.inr ⟨rfl, rfl⟩)
  | x :: a, y :: b => by
    have ih := cb_cases a b
    show (Lib.compareBytes (x :: a) (y :: b) = 0 ∧ _) ∨ (Lib.compareBytes (x :: a) (y :: b) = -1 ∧ Lib.compareBytes (y :: b) (x :: a) = 1) ∨ (Lib.compareBytes (x :: a) (y :: b) = 1 ∧ Lib.compareBytes (y :: b) (x :: a) = -1)
    unfold Lib.compareBytes
    by_cases h : x < y
    · have h2 : ¬ y < x := fun h3 => UInt8.lt_irrefl x (UInt8.lt_trans h h3)
      simp [h, h2]
    · by_cases h2 : y < x
      · simp [h, h2]
      · have e : x = y := UInt8.le_antisymm (UInt8.not_lt.1 h2) (UInt8.not_lt.1 h)
        subst e
        simp only [if_neg h]
        rcases ih with ⟨e1, e2⟩ | ih | ih
        · exact .inl ⟨e1, by rw [e2]⟩
        · exact .inr (.inl ih)
        · exact .inr (.inr ih)

theorem cb_eq {a b : Subj.Tok} : cb a b = 0 ↔ a = b := by
  constructor
  · intro h
    rcases cb_cases a b with ⟨_, e⟩ | ⟨e, _⟩ | ⟨e, _⟩
    · exact e
    · omega
    · omega
  · rintro rfl; exact cb_refl a

theorem cb_lt_trans : ∀ {a b c : Subj.Tok}, cb a b < 0 → cb b c < 0 → cb a c < 0
  | [], [], _, h, _ => by simp [cb, Lib.compareBytes] at h
  | _ :: _, [], _, h, _ => by simp [cb, Lib.compareBytes] at h
  | [], _ :: _, [], _, h => by simp [cb, Lib.compareBytes] at h
  | _ :: _, _ :: _, [], _, h => by simp [cb, Lib.compareBytes] at h
  | [], _ :: _, _ :: _, _, _ => by simp [cb, Lib.compareBytes]
  | x :: a, y :: b, z :: c, h1, h2 => by
    simp only [cb, Lib.compareBytes] at h1 h2 ⊢
    split at h1
    · rename_i e1
      split at h2
      · rename_i e2
        rw [if_pos (UInt8.lt_trans e1 e2)]; omega
      · split at h2
        · omega
        · rename_i e2 e3
          have : y = z := UInt8.le_antisymm (UInt8.not_lt.1 e3) (UInt8.not_lt.1 e2)
          subst this
          rw [if_pos e1]; omega
    · split at h1
      · omega
      · rename_i e1 e1'
        have : x = y := UInt8.le_antisymm (UInt8.not_lt.1 e1') (UInt8.not_lt.1 e1)
        subst this
        split at h2
        · rename_i e2
          rw [if_pos e2]; omega
        · split at h2
          · omega
          · rename_i e2 e3
            rw [if_neg e2, if_neg e3]
            exact cb_lt_trans h1 h2

/-- Rows of tokens. -/
def before : List Subj.Tok → List Subj.Tok → Bool
  | _, [] => false
  | [], _ :: _ => true
  | a :: x, b :: y => if a = b then before x y else decide (cb a b < 0)

theorem before_irrefl : ∀ x : List Subj.Tok, before x x = false
  | [] => rfl
  | a :: x => by unfold before; rw [if_pos rfl]; exact before_irrefl x

theorem before_total : ∀ x y : List Subj.Tok, x = y ∨ before x y = true ∨ before y x = true
  | [], [] => .inl rfl
  | [], _ :: _ => .inr (.inl rfl)
  | _ :: _, [] => .inr (.inr rfl)
  | a :: x, b :: y => by
    unfold before
    by_cases e : a = b
    · subst e
      rw [if_pos rfl, if_pos rfl]
      rcases before_total x y with rfl | h | h
      · exact .inl rfl
      · exact .inr (.inl h)
      · exact .inr (.inr h)
    · rw [if_neg e, if_neg (Ne.symm e)]
      rcases cb_cases a b with ⟨_, e2⟩ | ⟨e2, _⟩ | ⟨_, e2⟩
      · exact absurd e2 e
      · exact .inr (.inl (by simp; omega))
      · exact .inr (.inr (by simp; omega))

theorem before_trans : ∀ {x y z : List Subj.Tok}, before x y = true → before y z = true → before x z = true
  | _, _, [], _, h => by simp [before] at h
  | _, [], _ :: _, h, _ => by simp [before] at h
  | [], _ :: _, _ :: _, _, _ => rfl
  | a :: x, b :: y, c :: z, h1, h2 => by
    unfold before at h1 h2 ⊢
    by_cases e : a = b
    · subst e
      rw [if_pos rfl] at h1
      by_cases e2 : a = c
      · subst e2
        rw [if_pos rfl] at h2 ⊢
        exact before_trans h1 h2
      · rw [if_neg e2] at h2 ⊢
        exact h2
    · rw [if_neg e] at h1
      by_cases e2 : b = c
      · subst e2
        rw [if_neg e]; exact h1
      · rw [if_neg e2] at h2
        have h3 := cb_lt_trans (by simpa using h1) (by simpa using h2)
        by_cases e3 : a = c
        · subst e3; have := cb_refl a; omega
        · rw [if_neg e3]; simpa using h3

/-! ### The nodes -/
structure NodeP where
  tok : Subj.Tok
  kids : List Nat
  has : Bool
  n : Int
  path : List Subj.Tok

abbrev Hp := Nat → Option NodeP

def tokH (H : Hp) (k : Nat) : Subj.Tok := match H k with | some nd => nd.tok | none => []

def Step (H : Hp) (b : Nat) (t : Subj.Tok) (k : Nat) : Prop := ∃ nd, H b = some nd ∧ k ∈ nd.kids ∧ tokH H k = t

inductive Go (H : Hp) : Nat → List Subj.Tok → Nat → Prop
  | nil (b : Nat) : Go H b [] b
  | cons {b k c : Nat} {t : Subj.Tok} {ts : List Subj.Tok} : Step H b t k → Go H k ts c → Go H b (t :: ts) c

def Den (H : Hp) (b : Nat) (ts : List Subj.Tok) (n : Int) : Prop := ∃ c nd, Go H b ts c ∧ H c = some nd ∧ nd.has = true ∧ nd.n = n

structure Good (N : Nat) (H : Hp) (r : Nat) : Prop where
  root : ∃ nd, H r = some nd ∧ nd.path = []
  short : ∀ b nd, H b = some nd → nd.path.length ≤ 8
  toks : ∀ b nd, H b = some nd → ∀ t ∈ nd.path, t ≠ [] ∧ t.length ≤ 16
  kid : ∀ b nd k, H b = some nd → k ∈ nd.kids → ∃ kd, H k = some kd ∧ kd.path = nd.path ++ [kd.tok]
  sorted : ∀ b nd, H b = some nd → nd.kids.Pairwise fun k k' => cb (tokH H k) (tokH H k') < 0
  few : ∀ b nd, H b = some nd → nd.kids.length ≤ N

theorem tokH_some {H : Hp} {k : Nat} {nd : NodeP} (h : H k = some nd) : tokH H k = nd.tok := by unfold tokH; rw [h]

theorem go_app {H : Hp} : ∀ {b c d : Nat} {p q : List Subj.Tok}, Go H b p c → Go H c q d → Go H b (p ++ q) d
  | _, _, _, _, _, .nil _, h => h
  | _, _, _, _, _, .cons s g, h => .cons s (go_app g h)

theorem go_split {H : Hp} : ∀ {p q : List Subj.Tok} {b d : Nat}, Go H b (p ++ q) d → ∃ c, Go H b p c ∧ Go H c q d
  | [], _, b, _, h => ⟨b, .nil b, h⟩
  | t :: p, q, b, d, h => by
    cases h with
    | cons s g =>
      obtain ⟨c, h1, h2⟩ := go_split g
      exact ⟨c, .cons s h1, h2⟩

theorem go_one {H : Hp} {b k : Nat} {t : Subj.Tok} (h : Step H b t k) : Go H b [t] k := .cons h (.nil k)

namespace Good
variable {N : Nat} {H : Hp} {r : Nat}

theorem mono {M : Nat} (h : Good N H r) (hM : N ≤ M) : Good M H r := { h with few := fun b nd e => Nat.le_trans (h.few b nd e) hM }

theorem some_go (h : Good N H r) : ∀ {b c : Nat} {ts : List Subj.Tok}, Go H b ts c → (∃ nd, H b = some nd) → ∃ nd, H c = some nd
  | _, _, _, .nil _, hb => hb
  | _, _, _, .cons s g, _ => by
    obtain ⟨nd, h1, h2, _⟩ := s
    obtain ⟨kd, h3, _⟩ := h.kid _ _ _ h1 h2
    exact h.some_go g ⟨kd, h3⟩

theorem path_go (h : Good N H r) : ∀ {b c : Nat} {ts : List Subj.Tok} {nd nc : NodeP}, Go H b ts c → H b = some nd → H c = some nc → nc.path = nd.path ++ ts
  | _, _, _, nd, nc, .nil _, hb, hc => by rw [hb] at hc; cases hc; simp
  | _, _, _, nd, nc, .cons (t := t) s g, hb, hc => by
    obtain ⟨nd', h1, h2, h3⟩ := s
    rw [hb] at h1
    cases h1
    obtain ⟨kd, h4, h5⟩ := h.kid _ _ _ hb h2
    have h6 := h.path_go g h4 hc
    rw [tokH_some h4] at h3
    rw [h6, h5, h3]; simp

theorem path_root (h : Good N H r) {c : Nat} {ts : List Subj.Tok} {nc : NodeP} (g : Go H r ts c) (hc : H c = some nc) : nc.path = ts := by
  obtain ⟨nd, h1, h2⟩ := h.root
  have := h.path_go g h1 hc
  rw [this, h2]; rfl

theorem step_det (h : Good N H r) {b k k' : Nat} {t : Subj.Tok} (h1 : Step H b t k) (h2 : Step H b t k') : k = k' := by
  obtain ⟨nd, e1, m1, t1⟩ := h1
  obtain ⟨nd', e2, m2, t2⟩ := h2
  rw [e1] at e2
  cases e2
  have hs := h.sorted _ _ e1
  obtain ⟨i, hi, rfl⟩ := List.mem_iff_getElem.1 m1
  obtain ⟨j, hj, rfl⟩ := List.mem_iff_getElem.1 m2
  rcases Nat.lt_trichotomy i j with hlt | rfl | hlt
  · have := List.pairwise_iff_getElem.1 hs i j hi hj hlt
    rw [t1, t2, cb_refl] at this; omega
  · rfl
  · have := List.pairwise_iff_getElem.1 hs j i hj hi hlt
    rw [t1, t2, cb_refl] at this; omega

theorem go_det (h : Good N H r) : ∀ {b c c' : Nat} {ts : List Subj.Tok}, Go H b ts c → Go H b ts c' → c = c'
  | _, _, _, _, .nil _, .nil _ => rfl
  | _, _, _, _, .cons s g, .cons s' g' => by
    have := h.step_det s s'
    subst this
    exact h.go_det g g'

end Good

def upd (H : Hp) (c : Nat) (nd : NodeP) : Hp := fun x => if x = c then some nd else H x

theorem upd_at (H : Hp) (c : Nat) (nd : NodeP) : upd H c nd c = some nd := if_pos rfl
theorem upd_ne (H : Hp) {c x : Nat} (nd : NodeP) (h : x ≠ c) : upd H c nd x = H x := if_neg h

/-! ### What a node has is set -/
section
variable {N : Nat} {H : Hp} {r c : Nat} {nd : NodeP}

theorem tok_set (hc : H c = some nd) (b : Bool) (n : Int) (k : Nat) : tokH (upd H c { nd with has := b, n := n }) k = tokH H k := by
  unfold tokH upd
  by_cases e : k = c
  · subst e; rw [if_pos rfl, hc]
  · rw [if_neg e]

theorem step_set (hc : H c = some nd) (v : Bool) (n : Int) {b k : Nat} {t : Subj.Tok} : Step (upd H c { nd with has := v, n := n }) b t k ↔ Step H b t k := by
  unfold Step
  simp only [tok_set hc]
  by_cases e : b = c
  · subst e
    rw [upd_at, hc]
    constructor
    · rintro ⟨x, h1, h2⟩; cases h1; exact ⟨nd, rfl, h2⟩
    · rintro ⟨x, h1, h2⟩; cases h1; exact ⟨_, rfl, h2⟩
  · rw [upd_ne _ _ e]

theorem go_set (hc : H c = some nd) (v : Bool) (n : Int) : ∀ {b d : Nat} {ts : List Subj.Tok}, Go (upd H c { nd with has := v, n := n }) b ts d ↔ Go H b ts d := by
  intro b d ts
  constructor
  · intro h
    induction h with
    | nil b => exact .nil b
    | cons s _ ih => exact .cons ((step_set hc v n).1 s) ih
  · intro h
    induction h with
    | nil b => exact .nil b
    | cons s _ ih => exact .cons ((step_set hc v n).2 s) ih

theorem good_set (h : Good N H r) (hc : H c = some nd) (v : Bool) (n : Int) : Good N (upd H c { nd with has := v, n := n }) r := by
  have key : ∀ b x, upd H c { nd with has := v, n := n } b = some x → ∃ y, H b = some y ∧ y.path = x.path ∧ y.kids = x.kids ∧ y.tok = x.tok := by
    intro b x hx
    by_cases e : b = c
    · subst e; rw [upd_at] at hx; cases hx; exact ⟨nd, hc, rfl, rfl, rfl⟩
    · rw [upd_ne _ _ e] at hx; exact ⟨x, hx, rfl, rfl, rfl⟩
  have back : ∀ b y, H b = some y → ∃ x, upd H c { nd with has := v, n := n } b = some x ∧ y.path = x.path ∧ y.tok = x.tok := by
    intro b y hy
    by_cases e : b = c
    · subst e; rw [hc] at hy; cases hy; exact ⟨_, upd_at _ _ _, rfl, rfl⟩
    · exact ⟨y, (upd_ne _ _ e).trans hy, rfl, rfl⟩
  refine ⟨?_, fun b x hx => ?_, fun b x hx => ?_, fun b x k hx hk => ?_, fun b x hx => ?_, fun b x hx => ?_⟩
  · obtain ⟨y, h1, h2⟩ := h.root
    obtain ⟨x, h3, h4, _⟩ := back _ _ h1
    exact ⟨x, h3, h4 ▸ h2⟩
  · obtain ⟨y, h1, h2, _⟩ := key b x hx
    rw [← h2]; exact h.short _ _ h1
  · obtain ⟨y, h1, h2, _⟩ := key b x hx
    rw [← h2]; exact h.toks _ _ h1
  · obtain ⟨y, h1, h2, h3, _⟩ := key b x hx
    obtain ⟨kd, h4, h5⟩ := h.kid _ _ k h1 (h3 ▸ hk)
    obtain ⟨kx, h6, h7, h8⟩ := back _ _ h4
    exact ⟨kx, h6, by rw [← h7, h5, h2, h8]⟩
  · obtain ⟨y, h1, _, h3, _⟩ := key b x hx
    simp only [tok_set hc]
    rw [← h3]; exact h.sorted _ _ h1
  · obtain ⟨y, h1, _, h3, _⟩ := key b x hx
    rw [← h3]; exact h.few _ _ h1

/-- What is told then. -/
theorem den_set (h : Good N H r) (hc : H c = some nd) (v : Bool) (n : Int) {p ts : List Subj.Tok} {m : Int} (hg : Go H r p c) :
    Den (upd H c { nd with has := v, n := n }) r ts m ↔ (ts = p ∧ v = true ∧ m = n) ∨ (ts ≠ p ∧ Den H r ts m) := by
  constructor
  · rintro ⟨d, x, g, e, h1, h2⟩
    have g' := (go_set hc v n).1 g
    by_cases hd : d = c
    · subst hd
      rw [upd_at] at e
      cases e
      have e1 := h.path_root g' hc
      have e2 := h.path_root hg hc
      exact .inl ⟨e1.symm.trans e2, h1, h2.symm⟩
    · rw [upd_ne _ _ hd] at e
      exact .inr ⟨fun e3 => hd (by subst e3; exact h.go_det g' hg), d, x, g', e, h1, h2⟩
  · rintro (⟨rfl, rfl, rfl⟩ | ⟨hne, d, x, g, e, h1, h2⟩)
    · exact ⟨c, _, (go_set hc _ _).2 hg, upd_at _ _ _, rfl, rfl⟩
    · have hd : d ≠ c := fun e3 => by
        subst e3
        exact hne ((h.path_root g hc).symm.trans (h.path_root hg hc))
      exact ⟨d, x, (go_set hc v n).2 g, (upd_ne _ _ hd).trans e, h1, h2⟩
end

/-! ### A new node -/
section
variable {N : Nat} {H : Hp} {r c k i : Nat} {nd : NodeP} {t : Subj.Tok}

def insH (H : Hp) (c : Nat) (nd : NodeP) (i k : Nat) (t : Subj.Tok) : Hp :=
  upd (upd H c { nd with kids := nd.kids.take i ++ k :: nd.kids.drop i }) k ⟨t, [], false, 0, nd.path ++ [t]⟩

theorem insH_k : insH H c nd i k t k = some ⟨t, [], false, 0, nd.path ++ [t]⟩ := upd_at _ _ _
theorem insH_c (hk : k ≠ c) : insH H c nd i k t c = some { nd with kids := nd.kids.take i ++ k :: nd.kids.drop i } := by
  unfold insH; rw [upd_ne _ _ (Ne.symm hk), upd_at]
theorem insH_ne {x : Nat} (h1 : x ≠ k) (h2 : x ≠ c) : insH H c nd i k t x = H x := by
  unfold insH; rw [upd_ne _ _ h1, upd_ne _ _ h2]

theorem insH_back (hc : H c = some nd) (hk : H k = none) {x : Nat} {y : NodeP} (hx : H x = some y) : ∃ z, insH H c nd i k t x = some z ∧ z.path = y.path ∧ z.tok = y.tok ∧ z.has = y.has ∧ z.n = y.n ∧ ∀ j ∈ y.kids, j ∈ z.kids := by
  have h1 : x ≠ k := fun e => by subst e; rw [hk] at hx; cases hx
  by_cases h2 : x = c
  · subst h2
    rw [hc] at hx; cases hx
    refine ⟨_, insH_c (Ne.symm h1), rfl, rfl, rfl, rfl, fun j hj => ?_⟩
    rw [← List.take_append_drop i nd.kids] at hj
    simp only [List.mem_append, List.mem_cons] at hj ⊢
    rcases hj with hj | hj
    · exact .inl hj
    · exact .inr (.inr hj)
  · exact ⟨y, (insH_ne h1 h2).trans hx, rfl, rfl, rfl, rfl, fun _ hj => hj⟩

theorem tok_ins (hc : H c = some nd) (_hk : H k = none) {x : Nat} (hx : x ≠ k) : tokH (insH H c nd i k t) x = tokH H x := by
  unfold tokH
  by_cases h2 : x = c
  · subst h2; rw [insH_c (Ne.symm hx), hc]
  · rw [insH_ne hx h2]

theorem tok_ins_k : tokH (insH H c nd i k t) k = t := by unfold tokH; rw [insH_k]

theorem go_ins (h : Good N H r) (hc : H c = some nd) (hk : H k = none) {b d : Nat} {ts : List Subj.Tok} (hb : ∃ y, H b = some y) (g : Go H b ts d) : Go (insH H c nd i k t) b ts d := by
  induction g with
  | nil b => exact .nil b
  | cons s g ih =>
    obtain ⟨y, h1, h2, h3⟩ := s
    obtain ⟨kd, h4, _⟩ := h.kid _ _ _ h1 h2
    obtain ⟨z, h5, _, _, _, _, h6⟩ := insH_back (i := i) (t := t) hc hk h1
    refine .cons ⟨z, h5, h6 _ h2, ?_⟩ (ih ⟨kd, h4⟩)
    rw [tok_ins hc hk (fun e => by subst e; rw [hk] at h4; cases h4)]; exact h3

theorem go_ins_new (h : Good N H r) (hc : H c = some nd) (hk : H k = none) {p : List Subj.Tok} (hg : Go H r p c) : Go (insH H c nd i k t) r (p ++ [t]) k := by
  have hne : k ≠ c := fun e => by subst e; rw [hk] at hc; cases hc
  obtain ⟨y, hr, _⟩ := h.root
  exact go_app (go_ins h hc hk ⟨y, hr⟩ hg) (go_one ⟨_, insH_c hne, by simp, tok_ins_k⟩)

theorem go_ins_inv (h : Good N H r) (hc : H c = some nd) (hk : H k = none) {b d : Nat} {ts : List Subj.Tok} (g : Go (insH H c nd i k t) b ts d) : (∃ y, H b = some y) → d = k ∨ Go H b ts d := by
  have hne : k ≠ c := fun e => by subst e; rw [hk] at hc; cases hc
  induction g with
  | nil b => exact fun _ => .inr (.nil b)
  | @cons b j d u us s g ih =>
    rintro ⟨y, hy⟩
    obtain ⟨z, h1, h2, h3⟩ := s
    by_cases hj : j = k
    · subst hj
      left
      cases g with
      | nil => rfl
      | cons s' _ =>
        obtain ⟨z', h4, h5, _⟩ := s'
        rw [insH_k] at h4
        cases h4
        simp at h5
    · have hjy : j ∈ y.kids := by
        by_cases h4 : b = c
        · subst h4
          rw [hc] at hy; cases hy
          rw [insH_c hne] at h1; cases h1
          simp only [List.mem_append, List.mem_cons] at h2
          rw [← List.take_append_drop i nd.kids, List.mem_append]
          rcases h2 with h2 | h2 | h2
          · exact .inl h2
          · exact absurd h2 hj
          · exact .inr h2
        · have hbk : b ≠ k := fun e => by subst e; rw [hk] at hy; cases hy
          rw [insH_ne hbk h4, hy] at h1; cases h1; exact h2
      obtain ⟨kd, h5, _⟩ := h.kid _ _ _ hy hjy
      rcases ih ⟨kd, h5⟩ with e | g'
      · exact .inl e
      · exact .inr (.cons ⟨y, hy, hjy, by rw [tok_ins hc hk hj] at h3; exact h3⟩ g')

theorem den_ins (h : Good N H r) (hc : H c = some nd) (hk : H k = none) {ts : List Subj.Tok} {m : Int} : Den (insH H c nd i k t) r ts m ↔ Den H r ts m := by
  obtain ⟨y, hr, _⟩ := h.root
  constructor
  · rintro ⟨d, x, g, e, h1, h2⟩
    rcases go_ins_inv h hc hk g ⟨y, hr⟩ with rfl | g'
    · rw [insH_k] at e; cases e; cases h1
    · obtain ⟨x', hx'⟩ := h.some_go g' ⟨y, hr⟩
      obtain ⟨z, h3, _, _, h4, h5, _⟩ := insH_back (i := i) (t := t) hc hk hx'
      rw [e] at h3; cases h3
      exact ⟨d, x', g', hx', h4 ▸ h1, h5 ▸ h2⟩
  · rintro ⟨d, x, g, e, h1, h2⟩
    obtain ⟨z, h3, _, _, h4, h5, _⟩ := insH_back (i := i) (t := t) hc hk e
    exact ⟨d, z, go_ins h hc hk ⟨y, hr⟩ g, h3, h4.trans h1, h5.trans h2⟩

theorem good_ins (h : Good N H r) (hc : H c = some nd) (hk : H k = none) (hkc : ∀ b x, H b = some x → k ∉ x.kids) (hp : nd.path.length < 8) (ht : t ≠ [] ∧ t.length ≤ 16)
    (h1 : ∀ x ∈ nd.kids.take i, cb (tokH H x) t < 0) (h2 : ∀ x ∈ nd.kids.drop i, cb t (tokH H x) < 0) : Good (N + 1) (insH H c nd i k t) r := by
  have hne : k ≠ c := fun e => by subst e; rw [hk] at hc; cases hc
  have key : ∀ b x, insH H c nd i k t b = some x → b = k ∧ x = ⟨t, [], false, 0, nd.path ++ [t]⟩ ∨ b = c ∧ x = { nd with kids := nd.kids.take i ++ k :: nd.kids.drop i } ∨ b ≠ k ∧ b ≠ c ∧ H b = some x := by
    intro b x hx
    by_cases e1 : b = k
    · subst e1; rw [insH_k] at hx; cases hx; exact .inl ⟨rfl, rfl⟩
    · by_cases e2 : b = c
      · subst e2; rw [insH_c hne] at hx; cases hx; exact .inr (.inl ⟨rfl, rfl⟩)
      · rw [insH_ne e1 e2] at hx; exact .inr (.inr ⟨e1, e2, hx⟩)
  have notk : ∀ x b y, H b = some y → x ∈ y.kids → x ≠ k := fun x b y hb hx e => hkc b y hb (e ▸ hx)
  refine ⟨?_, fun b x hx => ?_, fun b x hx u hu => ?_, fun b x j hx hj => ?_, fun b x hx => ?_, fun b x hx => ?_⟩
  · obtain ⟨y, h3, h4⟩ := h.root
    obtain ⟨z, h5, h6, _⟩ := insH_back (i := i) (t := t) hc hk h3
    exact ⟨z, h5, h6.trans h4⟩
  · rcases key b x hx with ⟨_, rfl⟩ | ⟨_, rfl⟩ | ⟨_, _, h3⟩
    · simp; omega
    · exact h.short c nd hc
    · exact h.short _ _ h3
  · rcases key b x hx with ⟨_, rfl⟩ | ⟨_, rfl⟩ | ⟨_, _, h3⟩
    · simp only [List.mem_append, List.mem_singleton] at hu
      rcases hu with hu | rfl
      · exact h.toks c nd hc u hu
      · exact ht
    · exact h.toks c nd hc u hu
    · exact h.toks _ _ h3 u hu
  · have old : ∀ b y, H b = some y → j ∈ y.kids → ∃ kd, insH H c nd i k t j = some kd ∧ kd.path = y.path ++ [kd.tok] := fun b y hy hj => by
      obtain ⟨kd, h4, h5⟩ := h.kid _ _ _ hy hj
      obtain ⟨z, h6, h7, h8, _⟩ := insH_back (i := i) (t := t) hc hk h4
      exact ⟨z, h6, by rw [h7, h8, h5]⟩
    rcases key b x hx with ⟨_, rfl⟩ | ⟨_, rfl⟩ | ⟨_, _, h3⟩
    · simp at hj
    · simp only [List.mem_append, List.mem_cons] at hj
      rcases hj with hj | rfl | hj
      · exact old c nd hc (List.mem_of_mem_take hj)
      · exact ⟨_, insH_k, rfl⟩
      · exact old c nd hc (List.mem_of_mem_drop hj)
    · exact old b x h3 hj
  · rcases key b x hx with ⟨_, rfl⟩ | ⟨_, rfl⟩ | ⟨_, _, h3⟩
    · exact List.Pairwise.nil
    · have hs := h.sorted _ _ hc
      rw [← List.take_append_drop i nd.kids, List.pairwise_append] at hs
      have e : ∀ x, x ∈ nd.kids.take i ∨ x ∈ nd.kids.drop i → tokH (insH H c nd i k t) x = tokH H x := fun x hx => tok_ins hc hk (notk x c nd hc (by rcases hx with hx | hx; exact List.mem_of_mem_take hx; exact List.mem_of_mem_drop hx))
      rw [List.pairwise_append, List.pairwise_cons]
      refine ⟨hs.1.imp_of_mem fun ha hb hab => by rw [e _ (.inl ha), e _ (.inl hb)]; exact hab, ⟨fun y hy => by rw [tok_ins_k, e _ (.inr hy)]; exact h2 y hy, hs.2.1.imp_of_mem fun ha hb hab => by rw [e _ (.inr ha), e _ (.inr hb)]; exact hab⟩, fun y hy z hz => ?_⟩
      rcases List.mem_cons.1 hz with rfl | hz
      · rw [tok_ins_k, e _ (.inl hy)]; exact h1 y hy
      · rw [e _ (.inl hy), e _ (.inr hz)]; exact hs.2.2 y hy z hz
    · exact (h.sorted _ _ h3).imp_of_mem fun ha hb hab => by rw [tok_ins hc hk (notk _ _ _ h3 ha), tok_ins hc hk (notk _ _ _ h3 hb)]; exact hab
  · rcases key b x hx with ⟨_, rfl⟩ | ⟨_, rfl⟩ | ⟨_, _, h3⟩
    · simp
    · have := h.few _ _ hc
      simp only [List.length_append, List.length_cons, List.length_take, List.length_drop]
      omega
    · have := h.few _ _ h3; omega
end

/-! ### A kid that is of no use is struck -/
section
variable {N : Nat} {H : Hp} {r c k i : Nat} {nd kd : NodeP}

def delH (H : Hp) (c : Nat) (nd : NodeP) (i : Nat) : Hp := upd H c { nd with kids := nd.kids.eraseIdx i }

theorem tok_del (hc : H c = some nd) (x : Nat) : tokH (delH H c nd i) x = tokH H x := by
  unfold tokH delH upd
  by_cases e : x = c
  · subst e; rw [if_pos rfl, hc]
  · rw [if_neg e]

theorem go_del_inv (hc : H c = some nd) {b d : Nat} {ts : List Subj.Tok} (g : Go (delH H c nd i) b ts d) : Go H b ts d := by
  induction g with
  | nil b => exact .nil b
  | @cons b j d u us s g ih =>
    obtain ⟨z, h1, h2, h3⟩ := s
    rw [tok_del hc] at h3
    refine .cons ?_ ih
    by_cases h4 : b = c
    · subst h4
      unfold delH at h1
      rw [upd_at] at h1; cases h1
      exact ⟨nd, hc, List.mem_of_mem_eraseIdx h2, h3⟩
    · unfold delH at h1
      rw [upd_ne _ _ h4] at h1
      exact ⟨z, h1, h2, h3⟩

theorem go_del (hc : H c = some nd) (hi : nd.kids[i]? = some k) (hk : H k = some kd) (hkk : kd.kids = []) {b d : Nat} {ts : List Subj.Tok} (g : Go H b ts d) : d = k ∨ Go (delH H c nd i) b ts d := by
  induction g with
  | nil b => exact .inr (.nil b)
  | @cons b j d u us s g ih =>
    rcases ih with e | ih
    · exact .inl e
    · obtain ⟨z, h1, h2, h3⟩ := s
      by_cases h4 : b = c
      · subst h4
        rw [hc] at h1; cases h1
        by_cases hj : j = k
        · subst hj
          left
          cases g with
          | nil => rfl
          | cons s' _ =>
            obtain ⟨z', h5, h6, _⟩ := s'
            rw [hk] at h5; cases h5
            rw [hkk] at h6; simp at h6
        · right
          refine .cons ⟨_, upd_at _ _ _, ?_, (tok_del hc j).trans h3⟩ ih
          show j ∈ nd.kids.eraseIdx i
          rw [List.mem_eraseIdx_iff_getElem?]
          obtain ⟨m, hm, e⟩ := List.mem_iff_getElem.1 h2
          refine ⟨m, fun e2 => hj ?_, by rw [List.getElem?_eq_getElem hm, e]⟩
          subst e2
          rw [List.getElem?_eq_getElem hm, e] at hi
          cases hi; rfl
      · exact .inr (.cons ⟨z, (upd_ne _ _ h4).trans h1, h2, (tok_del hc j).trans h3⟩ ih)

theorem good_del (h : Good N H r) (hc : H c = some nd) : Good N (delH H c nd i) r := by
  have key : ∀ b x, delH H c nd i b = some x → b = c ∧ x = { nd with kids := nd.kids.eraseIdx i } ∨ b ≠ c ∧ H b = some x := by
    intro b x hx
    by_cases e2 : b = c
    · subst e2; unfold delH at hx; rw [upd_at] at hx; cases hx; exact .inl ⟨rfl, rfl⟩
    · unfold delH at hx; rw [upd_ne _ _ e2] at hx; exact .inr ⟨e2, hx⟩
  have back : ∀ x y, H x = some y → ∃ z, delH H c nd i x = some z ∧ z.path = y.path ∧ z.tok = y.tok := by
    intro x y hy
    by_cases e : x = c
    · subst e; rw [hc] at hy; cases hy; exact ⟨_, upd_at _ _ _, rfl, rfl⟩
    · exact ⟨y, (upd_ne _ _ e).trans hy, rfl, rfl⟩
  refine ⟨?_, fun b x hx => ?_, fun b x hx u hu => ?_, fun b x j hx hj => ?_, fun b x hx => ?_, fun b x hx => ?_⟩
  · obtain ⟨y, h3, h4⟩ := h.root
    obtain ⟨z, h5, h6, _⟩ := back _ _ h3
    exact ⟨z, h5, h6.trans h4⟩
  · rcases key b x hx with ⟨_, rfl⟩ | ⟨_, h3⟩
    · exact h.short c nd hc
    · exact h.short _ _ h3
  · rcases key b x hx with ⟨_, rfl⟩ | ⟨_, h3⟩
    · exact h.toks c nd hc u hu
    · exact h.toks _ _ h3 u hu
  · have old : ∀ b y, H b = some y → j ∈ y.kids → ∃ kd, delH H c nd i j = some kd ∧ kd.path = y.path ++ [kd.tok] := fun b y hy hj => by
      obtain ⟨kd, h4, h5⟩ := h.kid _ _ _ hy hj
      obtain ⟨z, h6, h7, h8⟩ := back _ _ h4
      exact ⟨z, h6, by rw [h7, h8, h5]⟩
    rcases key b x hx with ⟨_, rfl⟩ | ⟨_, h3⟩
    · exact old c nd hc (List.mem_of_mem_eraseIdx hj)
    · exact old b x h3 hj
  · simp only [tok_del hc]
    rcases key b x hx with ⟨_, rfl⟩ | ⟨_, h3⟩
    · exact (h.sorted _ _ hc).sublist (List.eraseIdx_sublist _ _)
    · exact h.sorted _ _ h3
  · rcases key b x hx with ⟨_, rfl⟩ | ⟨_, h3⟩
    · have := h.few _ _ hc
      have h4 := (List.eraseIdx_sublist nd.kids i).length_le
      show (nd.kids.eraseIdx i).length ≤ N
      omega
    · exact h.few _ _ h3

theorem den_del (hc : H c = some nd) (hi : nd.kids[i]? = some k) (hk : H k = some kd) (hkk : kd.kids = []) (hkh : kd.has = false) (hkc : k ≠ c) {b : Nat} {ts : List Subj.Tok} {m : Int} : Den (delH H c nd i) b ts m ↔ Den H b ts m := by
  constructor
  · rintro ⟨d, x, g, e, h1, h2⟩
    have g' := go_del_inv hc g
    by_cases hd : d = c
    · subst hd; unfold delH at e; rw [upd_at] at e; cases e; exact ⟨d, nd, g', hc, h1, h2⟩
    · unfold delH at e; rw [upd_ne _ _ hd] at e; exact ⟨d, x, g', e, h1, h2⟩
  · rintro ⟨d, x, g, e, h1, h2⟩
    rcases go_del hc hi hk hkk g with rfl | g'
    · rw [hk] at e; cases e; rw [hkh] at h1; cases h1
    · by_cases hd : d = c
      · subst hd; rw [hc] at e; cases e; exact ⟨d, _, g', upd_at _ _ _, h1, h2⟩
      · exact ⟨d, x, g', (upd_ne _ _ hd).trans e, h1, h2⟩
end
end Go.Proofs.YtapmhpnkpjgefaaDoor.Idx

namespace Go.Proofs.YtapmhpnkpjgefaaDoor.Idx
open Subj (Tok pieces takes)

section
variable {N : Nat} {H : Hp} {r : Nat}

end

/-! ### Texts -/
def joinT : List Subj.Tok → Subj.Tok
  | [] => []
  | [t] => t
  | t :: u :: ts => t ++ 46 :: joinT (u :: ts)

theorem joinT_cons (t : Subj.Tok) {ts : List Subj.Tok} (h : ts ≠ []) : joinT (t :: ts) = t ++ 46 :: joinT ts := by
  cases ts with
  | nil => exact absurd rfl h
  | cons u ts => rfl

theorem join_pieces : ∀ s : List UInt8, joinT (pieces s) = s
  | [] => rfl
  | b :: l => by
    have ih := join_pieces l
    unfold pieces
    by_cases h : b = 46
    · rw [if_pos h, joinT_cons _ (Subj.pieces_ne l), ih, h]; rfl
    · rw [if_neg h]
      cases hp : pieces l with
      | nil => exact absurd hp (Subj.pieces_ne l)
      | cons p ps =>
        rw [hp] at ih
        cases ps with
        | nil => show b :: p = b :: l; rw [show p = l from ih]
        | cons q qs =>
          show (b :: p) ++ 46 :: joinT (q :: qs) = b :: l
          rw [← ih]; rfl

theorem pieces_inj {s t : List UInt8} (h : pieces s = pieces t) : s = t := by rw [← join_pieces s, ← join_pieces t, h]

/-! ### The list -/
abbrev Ents := List (Subj.Tok × Int)

structure Rel (H : Hp) (r : Nat) (L : Ents) : Prop where
  den : ∀ ts n, Den H r ts n ↔ ∃ s, (s, n) ∈ L ∧ pieces s = ts
  sorted : L.Pairwise fun x y => before (pieces x.1) (pieces y.1) = true

/-- Where a subject stands. -/
def idxL : Ents → Subj.Tok → Int
  | [], _ => -1
  | p :: r, s => if p.1 = s then 0 else if idxL r s = -1 then -1 else idxL r s + 1

theorem idxL_cases : ∀ (A : Ents) (s : Subj.Tok), (idxL A s = -1 ∧ ∀ y ∈ A, y.1 ≠ s) ∨ ∃ (k : Nat) (p : Subj.Tok × Int), idxL A s = (k : Int) ∧ A[k]? = some p ∧ p.1 = s ∧ ∀ y ∈ A.take k, y.1 ≠ s
  | [], n => .inl ⟨rfl, fun y h => by cases h⟩
  | a :: r, n => by
    unfold idxL
    by_cases e : a.1 = n
    · rw [if_pos e]
      exact .inr ⟨0, a, rfl, rfl, e, fun y h => by simp at h⟩
    · rw [if_neg e]
      rcases idxL_cases r n with ⟨h1, h2⟩ | ⟨k, p, h1, h2, h3, h5⟩
      · rw [if_pos h1]
        refine .inl ⟨rfl, fun y hy => ?_⟩
        rcases List.mem_cons.1 hy with rfl | hy
        · exact e
        · exact h2 y hy
      · rw [if_neg (by omega), h1]
        refine .inr ⟨k + 1, p, by omega, by simpa using h2, h3, fun y hy => ?_⟩
        rw [List.take_succ_cons] at hy
        rcases List.mem_cons.1 hy with rfl | hy
        · exact e
        · exact h5 y hy

/-- How many stand ahead. -/
def cntL (L : Ents) (s : Subj.Tok) : Nat := (L.takeWhile fun x => before (pieces x.1) (pieces s)).length

theorem cntL_le (L : Ents) (s : Subj.Tok) : cntL L s ≤ L.length := (List.takeWhile_sublist _).length_le

theorem takeWhile_split {α : Type} (p : α → Bool) : ∀ l : List α, l.take (l.takeWhile p).length = l.takeWhile p ∧ l.drop (l.takeWhile p).length = l.dropWhile p
  | [] => ⟨rfl, rfl⟩
  | a :: l => by
    cases h : p a with
    | true =>
      rw [List.takeWhile_cons_of_pos h, List.dropWhile_cons_of_pos h]
      have ih := takeWhile_split p l
      simp [ih.1, ih.2]
    | false =>
      rw [List.takeWhile_cons_of_neg (by simp [h]), List.dropWhile_cons_of_neg (by simp [h])]
      simp

def setL (L : Ents) (k : Nat) (s : Subj.Tok) (n : Int) : Ents := L.set k (s, n)
def insL (L : Ents) (s : Subj.Tok) (n : Int) : Ents := L.take (cntL L s) ++ (s, n) :: L.drop (cntL L s)
def delL (L : Ents) (k : Nat) : Ents := L.take k ++ L.drop (k + 1)

section
variable {H H' : Hp} {r : Nat} {L : Ents} {s : Subj.Tok} {n : Int}

theorem Rel.mem (h : Rel H r L) : Den H r (pieces s) n ↔ (s, n) ∈ L := by
  rw [h.den]
  constructor
  · rintro ⟨t, h1, h2⟩; rw [← pieces_inj h2]; exact h1
  · intro h1; exact ⟨s, h1, rfl⟩

theorem Rel.uniq (h : Rel H r L) {k : Nat} {p : Subj.Tok × Int} (hk : L[k]? = some p) {q : Subj.Tok × Int} (hq : q ∈ L) (e : q.1 = p.1) : q = p := by
  obtain ⟨j, hj, rfl⟩ := List.mem_iff_getElem.1 hq
  obtain ⟨hkl, rfl⟩ := List.getElem?_eq_some_iff.1 hk
  have hs := List.pairwise_iff_getElem.1 h.sorted
  rcases Nat.lt_trichotomy j k with hl | rfl | hl
  · have := hs j k hj hkl hl
    rw [e, before_irrefl] at this; cases this
  · rfl
  · have := hs k j hkl hj hl
    rw [e, before_irrefl] at this; cases this

theorem mem_set_iff {k : Nat} {p x : Subj.Tok × Int} (v : Subj.Tok × Int) (hk : L[k]? = some p) (hu : ∀ q ∈ L, q.1 = p.1 → q = p) (hv : v.1 = p.1) (hs : L.Pairwise fun x y => before (pieces x.1) (pieces y.1) = true) : x ∈ L.set k v ↔ x = v ∨ (x ∈ L ∧ x.1 ≠ p.1) := by
  obtain ⟨hkl, rfl⟩ := List.getElem?_eq_some_iff.1 hk
  constructor
  · intro hx
    obtain ⟨j, hj, e⟩ := List.mem_iff_getElem.1 hx
    rw [List.getElem_set] at e
    rw [List.length_set] at hj
    split at e
    · exact .inl e.symm
    · rename_i hne
      right
      subst e
      refine ⟨List.getElem_mem _, fun e2 => ?_⟩
      have hp := List.pairwise_iff_getElem.1 hs
      rcases Nat.lt_trichotomy j k with hl | rfl | hl
      · have := hp j k hj hkl hl
        rw [e2, before_irrefl] at this; cases this
      · exact hne rfl
      · have := hp k j hkl hj hl
        rw [e2, before_irrefl] at this; cases this
  · rintro (rfl | ⟨hx, hne⟩)
    · exact List.mem_iff_getElem.2 ⟨k, by rw [List.length_set]; exact hkl, by simp⟩
    · obtain ⟨j, hj, rfl⟩ := List.mem_iff_getElem.1 hx
      have hjk : k ≠ j := fun e => by subst e; exact hne rfl
      exact List.mem_iff_getElem.2 ⟨j, by rw [List.length_set]; exact hj, by rw [List.getElem_set_ne hjk]⟩

theorem rel_set (h : Rel H r L) {k : Nat} {p : Subj.Tok × Int} (hk : L[k]? = some p) (hp : p.1 = s)
    (hd : ∀ ts m, Den H' r ts m ↔ (ts = pieces s ∧ m = n) ∨ (ts ≠ pieces s ∧ Den H r ts m)) : Rel H' r (setL L k s n) := by
  have hmem := fun x => mem_set_iff (x := x) (s, n) hk (fun q hq e => h.uniq hk hq e) hp.symm h.sorted
  refine ⟨fun ts m => ?_, ?_⟩
  · rw [hd, h.den]
    unfold setL
    constructor
    · rintro (⟨rfl, rfl⟩ | ⟨h1, t, h2, rfl⟩)
      · exact ⟨s, (hmem _).2 (.inl rfl), rfl⟩
      · exact ⟨t, (hmem _).2 (.inr ⟨h2, fun e => h1 (by rw [show t = s from e.trans hp])⟩), rfl⟩
    · rintro ⟨t, h1, rfl⟩
      rcases (hmem _).1 h1 with e | ⟨h2, h3⟩
      · cases e; exact .inl ⟨rfl, rfl⟩
      · exact .inr ⟨fun e => h3 (by rw [hp]; exact pieces_inj e), t, h2, rfl⟩
  · unfold setL
    have : (L.set k (s, n)).map (·.1) = L.map (·.1) := by
      rw [List.map_set]
      apply List.ext_getElem?
      intro j
      rw [List.getElem?_set]
      split
      · rename_i e
        subst e
        split
        · rw [List.getElem?_map, hk, ← hp]; rfl
        · rename_i h3; rw [List.length_map] at h3; rw [List.getElem?_eq_none (by simpa using h3)]
      · rfl
    have h2 := h.sorted
    have conv := fun l : Ents => List.pairwise_map (R := fun a b : Subj.Tok => before (pieces a) (pieces b) = true) (f := fun x : Subj.Tok × Int => x.1) (l := l)
    exact (conv _).1 (this ▸ (conv _).2 h2)

theorem insL_len (L : Ents) (s : Subj.Tok) (n : Int) : (insL L s n).length = L.length + 1 := by
  have := cntL_le L s
  simp [insL]; omega

theorem insL_sorted (hs : L.Pairwise fun x y => before (pieces x.1) (pieces y.1) = true) (hn : ∀ y ∈ L, y.1 ≠ s) : (insL L s n).Pairwise fun x y => before (pieces x.1) (pieces y.1) = true := by
  unfold insL cntL
  obtain ⟨e1, e2⟩ := takeWhile_split (fun x : Subj.Tok × Int => before (pieces x.1) (pieces s)) L
  rw [e1, e2]
  have h1 : ∀ y ∈ L.takeWhile (fun x => before (pieces x.1) (pieces s)), before (pieces y.1) (pieces s) = true := fun y hy => by
    have := List.all_takeWhile (p := fun x : Subj.Tok × Int => before (pieces x.1) (pieces s)) (l := L)
    exact List.all_eq_true.1 this y hy
  have hs2 := hs
  rw [← List.takeWhile_append_dropWhile (p := fun x : Subj.Tok × Int => before (pieces x.1) (pieces s)) (l := L), List.pairwise_append] at hs2
  have h2 : ∀ y ∈ L.dropWhile (fun x => before (pieces x.1) (pieces s)), before (pieces s) (pieces y.1) = true := by
    have hsub : ∀ y ∈ L.dropWhile (fun x => before (pieces x.1) (pieces s)), y ∈ L := fun y hy => (List.dropWhile_sublist _).subset hy
    have hhead := List.head?_dropWhile_not (fun x : Subj.Tok × Int => before (pieces x.1) (pieces s)) L
    have hp := hs2.2.1
    revert hsub hhead hp
    generalize L.dropWhile (fun x => before (pieces x.1) (pieces s)) = D
    intro hsub hhead hp
    cases D with
    | nil => intro y hy; cases hy
    | cons a D =>
      simp only [List.head?_cons] at hhead
      have ha : before (pieces s) (pieces a.1) = true := by
        rcases before_total (pieces s) (pieces a.1) with e | e | e
        · exact absurd (pieces_inj e).symm (hn a (hsub a (by simp)))
        · exact e
        · rw [e] at hhead; simp at hhead
      rw [List.pairwise_cons] at hp
      intro y hy
      rcases List.mem_cons.1 hy with rfl | hy
      · exact ha
      · exact before_trans ha (hp.1 y hy)
  rw [List.pairwise_append, List.pairwise_cons]
  refine ⟨hs2.1, ⟨h2, hs2.2.1⟩, fun x hx y hy => ?_⟩
  rcases List.mem_cons.1 hy with rfl | hy
  · exact h1 x hx
  · exact hs2.2.2 x hx y hy

theorem mem_insL {x : Subj.Tok × Int} : x ∈ insL L s n ↔ x = (s, n) ∨ x ∈ L := by
  unfold insL
  rw [List.mem_append, List.mem_cons]
  constructor
  · rintro (h | h | h)
    · exact .inr (List.mem_of_mem_take h)
    · exact .inl h
    · exact .inr (List.mem_of_mem_drop h)
  · rintro (h | h)
    · exact .inr (.inl h)
    · rw [← List.take_append_drop (cntL L s) L, List.mem_append] at h
      rcases h with h | h
      · exact .inl h
      · exact .inr (.inr h)

theorem rel_ins (h : Rel H r L) (hn : ∀ y ∈ L, y.1 ≠ s) (hd : ∀ ts m, Den H' r ts m ↔ (ts = pieces s ∧ m = n) ∨ (ts ≠ pieces s ∧ Den H r ts m)) : Rel H' r (insL L s n) := by
  refine ⟨fun ts m => ?_, insL_sorted h.sorted hn⟩
  rw [hd, h.den]
  constructor
  · rintro (⟨rfl, rfl⟩ | ⟨h1, t, h2, rfl⟩)
    · exact ⟨s, mem_insL.2 (.inl rfl), rfl⟩
    · exact ⟨t, mem_insL.2 (.inr h2), rfl⟩
  · rintro ⟨t, h1, rfl⟩
    rcases mem_insL.1 h1 with e | h2
    · cases e; exact .inl ⟨rfl, rfl⟩
    · exact .inr ⟨fun e => hn _ h2 (pieces_inj e), t, h2, rfl⟩

theorem rel_del (h : Rel H r L) {k : Nat} {p : Subj.Tok × Int} (hk : L[k]? = some p) (hp : p.1 = s)
    (hd : ∀ ts m, Den H' r ts m ↔ ts ≠ pieces s ∧ Den H r ts m) : Rel H' r (delL L k) := by
  obtain ⟨hkl, e⟩ := List.getElem?_eq_some_iff.1 hk
  have hL : L = L.take k ++ p :: L.drop (k + 1) := by
    rw [← e, ← List.drop_eq_getElem_cons hkl, List.take_append_drop]
  have hs := h.sorted
  rw [hL, List.pairwise_append, List.pairwise_cons] at hs
  have hmem : ∀ x, x ∈ delL L k ↔ x ∈ L ∧ x.1 ≠ s := by
    intro x
    unfold delL
    rw [List.mem_append]
    constructor
    · rintro (hx | hx)
      · refine ⟨List.mem_of_mem_take hx, fun e2 => ?_⟩
        have := hs.2.2 x hx p (by simp)
        rw [e2, hp, before_irrefl] at this; cases this
      · refine ⟨List.mem_of_mem_drop hx, fun e2 => ?_⟩
        have := hs.2.1.1 x hx
        rw [e2, hp, before_irrefl] at this; cases this
    · rintro ⟨hx, hne⟩
      rw [hL, List.mem_append, List.mem_cons] at hx
      rcases hx with hx | rfl | hx
      · exact .inl hx
      · exact absurd hp hne
      · exact .inr hx
  refine ⟨fun ts m => ?_, ?_⟩
  · rw [hd, h.den]
    constructor
    · rintro ⟨h1, t, h2, rfl⟩
      exact ⟨t, (hmem _).2 ⟨h2, fun e2 => h1 (by rw [show t = s from e2])⟩, rfl⟩
    · rintro ⟨t, h1, rfl⟩
      obtain ⟨h2, h3⟩ := (hmem _).1 h1
      exact ⟨fun e2 => h3 (pieces_inj e2), t, h2, rfl⟩
  · unfold delL
    rw [List.pairwise_append]
    exact ⟨hs.1, hs.2.1.2, fun x hx y hy => hs.2.2 x hx y (by simp [hy])⟩

end
end Go.Proofs.YtapmhpnkpjgefaaDoor.Idx

/-! ### What Get, Drop and Put tell, and leave -/
namespace Go.Proofs.YtapmhpnkpjgefaaDoor.Shf
open Subj (Tok pieces)
open Idx
/-- What Get tells. -/
def getL (er : Nat) (L : Ents) (s : Subj.Tok) : Int × Nat := if er ≠ 0 then (0, er) else if idxL L s < 0 then (0, 4) else ((L.getD (idxL L s).toNat ([], 0)).2, 0)
def dropL (er : Nat) (L : Ents) (s : Subj.Tok) : Ents × Nat := if er ≠ 0 then (L, er) else if idxL L s < 0 then (L, 4) else (delL L (idxL L s).toNat, 0)
def putL (er : Nat) (L : Ents) (s : Subj.Tok) (n : Int) : Ents × Nat := if er ≠ 0 then (L, er) else if 0 ≤ idxL L s then (setL L (idxL L s).toNat s n, 0) else if L.length = 100 then (L, 8) else (insL L s n, 0)

/-- The index's list, in its order. -/
def SortedE (I : Ents) : Prop := I.Pairwise fun x y => before (pieces x.1) (pieces y.1) = true

section
variable {I : Ents} {s : Subj.Tok} {v : Int}

theorem sorted_uniq (h : SortedE I) {k : Nat} {p : Subj.Tok × Int} (hk : I[k]? = some p) {q : Subj.Tok × Int} (hq : q ∈ I) (e : q.1 = p.1) : q = p := by
  obtain ⟨j, hj, rfl⟩ := List.mem_iff_getElem.1 hq
  obtain ⟨hkl, rfl⟩ := List.getElem?_eq_some_iff.1 hk
  have hs := List.pairwise_iff_getElem.1 h
  rcases Nat.lt_trichotomy j k with hl | rfl | hl
  · have := hs j k hj hkl hl
    rw [e, before_irrefl] at this; cases this
  · rfl
  · have := hs k j hkl hj hl
    rw [e, before_irrefl] at this; cases this

theorem mem_putL (h : SortedE I) (hn : 0 ≤ idxL I s ∨ I.length ≠ 100) (x : Subj.Tok × Int) : x ∈ (putL 0 I s v).1 ↔ x = (s, v) ∨ (x ∈ I ∧ x.1 ≠ s) := by
  unfold putL
  rw [if_neg (by simp)]
  rcases idxL_cases I s with ⟨e1, e2⟩ | ⟨k, p, e1, e2, e3, _⟩
  · rw [if_neg (by omega), if_neg (by omega), mem_insL]
    exact ⟨fun h => h.imp id fun h => ⟨h, e2 x h⟩, fun h => h.imp id (·.1)⟩
  · rw [if_pos (by omega), e1]
    unfold setL
    show x ∈ I.set k (s, v) ↔ _
    rw [mem_set_iff (s, v) e2 (fun q hq e => sorted_uniq h e2 hq e) e3.symm h, e3]

theorem mem_dropL (h : SortedE I) (x : Subj.Tok × Int) : x ∈ (dropL 0 I s).1 ↔ x ∈ I ∧ x.1 ≠ s := by
  unfold dropL
  rw [if_neg (by simp)]
  rcases idxL_cases I s with ⟨e1, e2⟩ | ⟨k, p, e1, e2, e3, _⟩
  · rw [if_pos (by omega)]
    exact ⟨fun h => ⟨h, e2 x h⟩, (·.1)⟩
  · rw [if_neg (by omega), e1]
    obtain ⟨hkl, e⟩ := List.getElem?_eq_some_iff.1 e2
    have hL : I = I.take k ++ p :: I.drop (k + 1) := by rw [← e, ← List.drop_eq_getElem_cons hkl, List.take_append_drop]
    have hs := h
    unfold SortedE at hs
    rw [hL, List.pairwise_append, List.pairwise_cons] at hs
    show x ∈ delL I k ↔ _
    unfold delL
    rw [List.mem_append]
    constructor
    · rintro (hx | hx)
      · refine ⟨List.mem_of_mem_take hx, fun e2 => ?_⟩
        have := hs.2.2 x hx p (by simp)
        rw [e2, e3, before_irrefl] at this; cases this
      · refine ⟨List.mem_of_mem_drop hx, fun e2 => ?_⟩
        have := hs.2.1.1 x hx
        rw [e2, e3, before_irrefl] at this; cases this
    · rintro ⟨hx, hne⟩
      rw [hL, List.mem_append, List.mem_cons] at hx
      rcases hx with hx | rfl | hx
      · exact .inl hx
      · exact absurd e3 hne
      · exact .inr hx
end
end Go.Proofs.YtapmhpnkpjgefaaDoor.Shf

namespace Go.Proofs.YtapmhpnkpjgefaaDoor.Idx
open Go.RowKit Heap
open Subj (Tok ML pieces)

abbrev ptrV (k : Nat) : Value := .pointer (some ⟨k, 0, none⟩)
def kidsV (l : List Nat) : List Value := l.map ptrV

theorem kidsV_len (l : List Nat) : (kidsV l).length = l.length := by simp [kidsV]
theorem kidsV_get (l : List Nat) (i : Nat) : (kidsV l)[i]? = l[i]?.map ptrV := by simp [kidsV]
theorem kidsV_one (l : List Nat) : ∀ u ∈ kidsV l, u.oneCell' = true := by
  intro u hu
  obtain ⟨k, _, rfl⟩ := List.mem_map.1 hu
  rfl

/-- A node's block: the root's holds the count, too. -/
def nodeO (x : Nat) (cnt : Nat) (b : Nat) (nd : NodeP) (v : Value) : Obj :=
  if b = x then .cells #[.string ⟨nd.tok.toArray⟩, v, .bool nd.has, .int .i64 nd.n, .int .i64 cnt] 117 (0, 0)
  else .cells #[.string ⟨nd.tok.toArray⟩, v, .bool nd.has, .int .i64 nd.n] 115 (0, 0)

structure IdxAt (W : World) (M : Nat → Prop) (x : Nat) (H : Hp) (vf : Nat → Value) (cnt : Nat) (w : World) : Prop where
  below : Below W.heap.size W w
  newM : ∀ k, M k → W.heap.size ≤ k
  bM : ∀ k, M k → k < w.heap.size
  node : ∀ b nd, H b = some nd → w.heap[b]? = some (nodeO x cnt b nd (vf b))
  row : ∀ b nd, H b = some nd → Row w 121 1 (vf b) nd.kids.length (kidsV nd.kids)
  mem : ∀ b nd, H b = some nd → M b ∧ ∀ k, own (vf b) k → M k
  apart : ∀ b nd c nc k, H b = some nd → H c = some nc → own (vf b) k → own (vf c) k → b = c

theorem node_of {x cnt b : Nat} {nd : NodeP} {v : Value} {w : World} (h : w.heap[b]? = some (nodeO x cnt b nd v)) :
    w.cell? ⟨b, 0, none⟩ = some (.string ⟨nd.tok.toArray⟩) ∧ w.cell? ⟨b, 1, none⟩ = some v ∧ w.cell? ⟨b, 2, none⟩ = some (.bool nd.has) ∧ w.cell? ⟨b, 3, none⟩ = some (.int .i64 nd.n) ∧ ∀ j, w.frozen? ⟨b, j, none⟩ = false := by
  unfold nodeO at h
  split at h
  · refine ⟨?_, ?_, ?_, ?_, fun j => frozen_of_row w b j _ _ h⟩
    · rw [cell_of_row w b 0 _ _ _ h]; rfl
    · rw [cell_of_row w b 1 _ _ _ h]; rfl
    · rw [cell_of_row w b 2 _ _ _ h]; rfl
    · rw [cell_of_row w b 3 _ _ _ h]; rfl
  · refine ⟨?_, ?_, ?_, ?_, fun j => frozen_of_row w b j _ _ h⟩
    · rw [cell_of_row w b 0 _ _ _ h]; rfl
    · rw [cell_of_row w b 1 _ _ _ h]; rfl
    · rw [cell_of_row w b 2 _ _ _ h]; rfl
    · rw [cell_of_row w b 3 _ _ _ h]; rfl

theorem root_of {x cnt : Nat} {nd : NodeP} {v : Value} {w : World} (h : w.heap[x]? = some (nodeO x cnt x nd v)) : w.cell? ⟨x, 4, none⟩ = some (.int .i64 cnt) := by
  unfold nodeO at h
  rw [if_pos rfl] at h
  rw [cell_of_row w x 4 _ _ _ h]; rfl

/-- A store into a node. -/
theorem node_kids {x cnt b : Nat} {nd : NodeP} {v : Value} {w : World} (h : w.heap[b]? = some (nodeO x cnt b nd v)) (u : Value) (ks : List Nat) : (w.setCell ⟨b, 1, none⟩ u).heap[b]? = some (nodeO x cnt b { nd with kids := ks } u) := by
  unfold nodeO at h ⊢
  split at h
  · rename_i e
    rw [heap_setCell_same _ _ _ _ _ _ h, if_pos e]; rfl
  · rename_i e
    rw [heap_setCell_same _ _ _ _ _ _ h, if_neg e]; rfl
theorem node_has {x cnt b : Nat} {nd : NodeP} {v : Value} {w : World} (h : w.heap[b]? = some (nodeO x cnt b nd v)) (y : Bool) (n : Int) : ((w.setCell ⟨b, 2, none⟩ (.bool y)).setCell ⟨b, 3, none⟩ (.int .i64 n)).heap[b]? = some (nodeO x cnt b { nd with has := y, n := n } v) := by
  unfold nodeO at h ⊢
  split at h
  · rename_i e
    have h1 := heap_setCell_same w b 2 _ _ (.bool y) h
    rw [heap_setCell_same _ _ _ _ _ _ h1, if_pos e]; rfl
  · rename_i e
    have h1 := heap_setCell_same w b 2 _ _ (.bool y) h
    rw [heap_setCell_same _ _ _ _ _ _ h1, if_neg e]; rfl
theorem node_cnt {x cnt : Nat} {nd : NodeP} {v : Value} {w : World} (h : w.heap[x]? = some (nodeO x cnt x nd v)) (m : Nat) : (w.setCell ⟨x, 4, none⟩ (.int .i64 m)).heap[x]? = some (nodeO x m x nd v) := by
  unfold nodeO at h ⊢
  rw [if_pos rfl] at h ⊢
  rw [heap_setCell_same _ _ _ _ _ _ h]; rfl

theorem node_cnt_ne {x cnt m b : Nat} {nd : NodeP} {v : Value} (h : b ≠ x) : nodeO x cnt b nd v = nodeO x m b nd v := by
  unfold nodeO; rw [if_neg h, if_neg h]

/-- A row of pointers is no node. -/
theorem own_ne {w : World} {x cnt b n : Nat} {nd : NodeP} {v u : Value} {xs : List Value} (h : w.heap[b]? = some (nodeO x cnt b nd v)) (hr : Row w 121 1 u n xs) : ¬ own u b := fun ho => by
  rcases hr.2 with ⟨rfl, _⟩ | ⟨g, off, cap, cur, rfl, hg, _⟩
  · simp [own, Value.ownBlock] at ho
  · simp [own, Value.ownBlock] at ho
    subst ho
    unfold nodeO at h
    rw [hg] at h
    split at h <;> simp at h

abbrev Grow (M : Nat → Prop) (w w' : World) : Nat → Prop := fun k => (M k ∨ w.heap.size ≤ k) ∧ k < w'.heap.size

def updF (vf : Nat → Value) (b : Nat) (v : Value) : Nat → Value := fun k => if k = b then v else vf k

namespace IdxAt
variable {W w w' : World} {M : Nat → Prop} {x : Nat} {H : Hp} {vf : Nat → Value} {cnt : Nat}

theorem kept (h : IdxAt W M x H vf cnt w) (hb : Below W.heap.size W w') (hsz : w.heap.size ≤ w'.heap.size) (hs : Same M w w') : IdxAt W M x H vf cnt w' := by
  refine ⟨hb, h.newM, fun k hk => Nat.lt_of_lt_of_le (h.bM k hk) hsz, fun b nd e => ?_, fun b nd e => ?_, h.mem, h.apart⟩
  · rw [hs b (h.mem b nd e).1 (h.bM _ (h.mem b nd e).1)]; exact h.node b nd e
  · exact (h.row b nd e).kept fun k hk hlt => hs k ((h.mem b nd e).2 k hk) hlt

theorem next (h : IdxAt W M x H vf cnt w) (hb : Below w.heap.size w w') : IdxAt W M x H vf cnt w' :=
  h.kept (h.below.trans (hb.mono h.below.size)) hb.size fun k _ hk => hb.block k hk

theorem lt (h : IdxAt W M x H vf cnt w) {b : Nat} {nd : NodeP} (e : H b = some nd) : b < w.heap.size := h.bM _ (h.mem b nd e).1
theorem newB (h : IdxAt W M x H vf cnt w) {b : Nat} {nd : NodeP} (e : H b = some nd) : W.heap.size ≤ b := h.newM _ (h.mem b nd e).1

theorem fresh (h : IdxAt W M x H vf cnt w) {k : Nat} (hk : w.heap.size ≤ k) : H k = none := by
  cases e : H k with
  | none => rfl
  | some nd => have := h.lt e; omega

/-- One node is turned. -/
theorem set (h : IdxAt W M x H vf cnt w) {b : Nat} {nd nd' : NodeP} {v' : Value} (hb : H b = some nd) (ht : Heap.Touch (fun k => k = b ∨ own (vf b) k) w w')
    (hn : w'.heap[b]? = some (nodeO x cnt b nd' v')) (hr : Row w' 121 1 v' nd'.kids.length (kidsV nd'.kids)) (ho : ∀ k, own v' k → own (vf b) k ∨ w.heap.size ≤ k) :
    IdxAt W (Grow M w w') x (upd H b nd') (updF vf b v') cnt w' ∧ Heap.Touch M w w' := by
  have htM : Heap.Touch M w w' := ht.mono fun k _ hk => by
    rcases hk with rfl | hk
    · exact (h.mem _ _ hb).1
    · exact (h.mem _ _ hb).2 k hk
  have other : ∀ c nc, c ≠ b → H c = some nc → w'.heap[c]? = w.heap[c]? := fun c nc hc e => ht.block c (h.lt e) (by
    rintro (e2 | e2)
    · exact hc e2
    · exact own_ne (h.node c nc e) (h.row b nd hb) e2)
  refine ⟨⟨h.below.trans (htM.below h.below.size h.newM), fun k hk => ?_, fun k hk => hk.2, fun c nc e => ?_, fun c nc e => ?_, fun c nc e => ?_, fun c nc d ndd k e1 e2 o1 o2 => ?_⟩, htM⟩
  · rcases hk.1 with hk | hk
    · exact h.newM k hk
    · exact Nat.le_trans h.below.size hk
  · unfold upd at e
    unfold updF
    split at e
    · rename_i ec
      subst ec
      cases e
      rw [if_pos rfl]; exact hn
    · rename_i ec
      rw [if_neg ec, other c nc ec e]; exact h.node c nc e
  · unfold upd at e
    unfold updF
    split at e
    · rename_i ec
      subst ec
      cases e
      rw [if_pos rfl]; exact hr
    · rename_i ec
      rw [if_neg ec]
      refine (h.row c nc e).kept fun k hk hlt => ht.block k hlt ?_
      rintro (rfl | e2)
      · exact own_ne (h.node _ _ hb) (h.row c nc e) hk
      · exact ec (h.apart c nc b nd k e hb hk e2)
  · unfold upd at e
    unfold updF
    split at e
    · rename_i ec
      subst ec
      rw [if_pos rfl]
      refine ⟨⟨.inl (h.mem _ _ hb).1, heap_lt hn⟩, fun k hk => ⟨?_, hr.lt k hk⟩⟩
      rcases ho k hk with h2 | h2
      · exact .inl ((h.mem _ _ hb).2 k h2)
      · exact .inr h2
    · rename_i ec
      rw [if_neg ec]
      have := h.mem c nc e
      exact ⟨⟨.inl this.1, Nat.lt_of_lt_of_le (h.bM _ this.1) ht.size⟩, fun k hk => ⟨.inl (this.2 k hk), Nat.lt_of_lt_of_le (h.bM _ (this.2 k hk)) ht.size⟩⟩
  · unfold upd at e1 e2
    unfold updF at o1 o2
    by_cases e3 : c = b
    · by_cases e4 : d = b
      · rw [e3, e4]
      · rw [if_pos e3] at o1
        rw [if_neg e4] at o2 e2
        rcases ho k o1 with h2 | h2
        · exact absurd (h.apart d ndd b nd k e2 hb o2 h2) e4
        · have := h.bM k ((h.mem d ndd e2).2 k o2); omega
    · by_cases e4 : d = b
      · rw [if_neg e3] at o1 e1
        rw [if_pos e4] at o2
        rcases ho k o2 with h2 | h2
        · exact absurd (h.apart c nc b nd k e1 hb o1 h2) e3
        · have := h.bM k ((h.mem c nc e1).2 k o1); omega
      · rw [if_neg e3] at o1 e1
        rw [if_neg e4] at o2 e2
        exact h.apart c nc d ndd k e1 e2 o1 o2

/-- A node more, without kids. -/
theorem add (h : IdxAt W M x H vf cnt w) {k : Nat} {nk : NodeP} (hk : w.heap[k]? = some (nodeO x cnt k nk (.slice none 0 0))) (hn : nk.kids = []) (hM : ¬ M k) (hW : W.heap.size ≤ k) :
    IdxAt W (fun j => M j ∨ j = k) x (upd H k nk) (updF vf k (.slice none 0 0)) cnt w := by
  have hne : ∀ c nc, H c = some nc → c ≠ k := fun c nc e e2 => hM (by rw [← e2]; exact (h.mem c nc e).1)
  have hnil : ∀ j, ¬ own (.slice none 0 0) j := fun j hj => by simp [own, Value.ownBlock] at hj
  refine ⟨h.below, fun j hj => ?_, fun j hj => ?_, fun c nc e => ?_, fun c nc e => ?_, fun c nc e => ?_, fun c nc d ndd j e1 e2 o1 o2 => ?_⟩
  · rcases hj with hj | rfl
    · exact h.newM j hj
    · exact hW
  · rcases hj with hj | rfl
    · exact h.bM j hj
    · exact heap_lt hk
  · unfold upd at e
    unfold updF
    split at e
    · rename_i ec
      subst ec; cases e
      rw [if_pos rfl]; exact hk
    · rename_i ec
      rw [if_neg ec]; exact h.node c nc e
  · unfold upd at e
    unfold updF
    split at e
    · rename_i ec
      subst ec; cases e
      rw [if_pos rfl, hn]; exact Row.nil _ _ _
    · rename_i ec
      rw [if_neg ec]; exact h.row c nc e
  · unfold upd at e
    unfold updF
    split at e
    · rename_i ec
      subst ec
      rw [if_pos rfl]
      exact ⟨.inr rfl, fun j hj => absurd hj (hnil j)⟩
    · rename_i ec
      rw [if_neg ec]
      exact ⟨.inl (h.mem c nc e).1, fun j hj => .inl ((h.mem c nc e).2 j hj)⟩
  · unfold upd at e1 e2
    unfold updF at o1 o2
    split at e1
    · rename_i ec
      rw [if_pos ec] at o1
      exact absurd o1 (hnil j)
    · rename_i ec
      rw [if_neg ec] at o1
      split at e2
      · rename_i ed
        rw [if_pos ed] at o2
        exact absurd o2 (hnil j)
      · rename_i ed
        rw [if_neg ed] at o2
        exact h.apart c nc d ndd j e1 e2 o1 o2

/-- The count is turned. -/
theorem count (h : IdxAt W M x H vf cnt w) {nd : NodeP} (hx : H x = some nd) (m : Nat) : IdxAt W M x H vf m (w.setCell ⟨x, 4, none⟩ (.int .i64 m)) ∧ Heap.Touch M w (w.setCell ⟨x, 4, none⟩ (.int .i64 m)) := by
  have ht : Heap.Touch (fun k => k = x) w (w.setCell ⟨x, 4, none⟩ (.int .i64 m)) := Heap.Touch.setCell (F := fun k => k = x) (p := ⟨x, 4, none⟩) (Heap.Touch.refl _ w) (.inl rfl) _
  have htM : Heap.Touch M w (w.setCell ⟨x, 4, none⟩ (.int .i64 m)) := ht.mono fun k _ e => by subst e; exact (h.mem _ _ hx).1
  refine ⟨⟨h.below.trans (htM.below h.below.size h.newM), h.newM, fun k hk => Nat.lt_of_lt_of_le (h.bM k hk) ht.size, fun b nb e => ?_, fun b nb e => ?_, h.mem, h.apart⟩, htM⟩
  · by_cases hb : b = x
    · subst hb
      exact node_cnt (h.node b nb e) m
    · rw [ht.block b (h.lt e) hb, h.node b nb e, node_cnt_ne hb]
  · exact (h.row b nb e).kept fun k hk hlt => ht.block k hlt fun e2 => own_ne (h.node x nd hx) (h.row b nb e) (e2 ▸ hk)

theorem ext {H' : Hp} {vf' : Nat → Value} (h : IdxAt W M x H vf cnt w) (hH : H' = H) (hv : vf' = vf) : IdxAt W M x H' vf' cnt w := by subst hH hv; exact h

end IdxAt
end Go.Proofs.YtapmhpnkpjgefaaDoor.Idx
