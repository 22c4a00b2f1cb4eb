/- A queue of pulls, in plain Lean. -/
namespace Go.Proofs.Ytglgbidcmkncgaa.Pull

structure Pl where
  batch : Int
  till : Int
  nowait : Bool

def farT : Int := 1099511627776
def alive (now : Int) (p : Pl) : Bool := p.till == 0 || decide (now < p.till)
def bad (now : Int) : Bool := decide (now < 0) || decide (farT < now)
def dead (now : Int) (p : Pl) : Bool := p.till != 0 && decide (p.till ≤ now)

theorem dead_alive (now : Int) (p : Pl) : dead now p = !alive now p := by
  unfold dead alive
  rw [Bool.eq_iff_iff]
  simp

def left (now : Int) (l : List Pl) : List Pl := l.filter (alive now)

def askL (now : Int) (p : Pl) (l : List Pl) : Nat × List Pl :=
  if p.batch < 1 ∨ 50 < p.batch ∨ p.till < 0 ∨ farT < p.till ∨ bad now = true then (1, l)
  else if (left now l).length = 10 then (8, left now l) else (0, left now l ++ [p])

def takeL (now : Int) (l : List Pl) : (Bool × Nat) × List Pl :=
  if bad now = true then ((false, 1), l) else match left now l with
    | [] => ((false, 0), [])
    | p :: r => ((true, 0), if p.batch = 1 then r else ⟨p.batch - 1, p.till, p.nowait⟩ :: r)

def stay (l : List Pl) : List Pl := l.filter fun p => !p.nowait

def idleL (now : Int) (l : List Pl) : (Nat × Nat) × List Pl :=
  if bad now = true then ((0, 1), l) else (((left now l).length - (stay (left now l)).length, 0), stay (left now l))

def waitsL (now : Int) (l : List Pl) : (Nat × Nat) × List Pl :=
  if bad now = true then ((0, 1), l) else (((left now l).length, 0), left now l)

/-- What a queue keeps. -/
def Good (l : List Pl) : Prop := l.length ≤ 10 ∧ ∀ p ∈ l, 1 ≤ p.batch ∧ p.batch ≤ 50

theorem Good.nil : Good [] := ⟨by simp, fun p h => by cases h⟩
theorem Good.filter {l : List Pl} (h : Good l) (f : Pl → Bool) : Good (l.filter f) :=
  ⟨Nat.le_trans (List.length_filter_le f l) h.1, fun p hp => h.2 p (List.mem_filter.1 hp).1⟩
theorem Good.left {l : List Pl} (h : Good l) (now : Int) : Good (left now l) := h.filter _

theorem ask_good {now : Int} {p : Pl} {l : List Pl} (h : Good l) : Good (askL now p l).2 := by
  unfold askL
  split
  · exact h
  · rename_i h1
    split
    · exact h.left now
    · rename_i h2
      have h3 := h.left now
      refine ⟨by rw [List.length_append]; have := h3.1; simp; omega, fun x hx => ?_⟩
      rcases List.mem_append.1 hx with hx | hx
      · exact h3.2 x hx
      · simp at hx; subst hx; omega

theorem take_good {now : Int} {l : List Pl} (h : Good l) : Good (takeL now l).2 := by
  unfold takeL
  split
  · exact h
  · have h3 := h.left now
    split
    · exact Good.nil
    · rename_i p r e
      rw [e] at h3
      have hp := h3.2 p (by simp)
      have hl := h3.1
      simp at hl
      show Good (if p.batch = 1 then r else _)
      split
      · exact ⟨by omega, fun x hx => h3.2 x (by simp [hx])⟩
      · rename_i hb
        refine ⟨by simp; omega, fun x hx => ?_⟩
        rcases List.mem_cons.1 hx with rfl | hx
        · simp only; omega
        · exact h3.2 x (by simp [hx])

theorem idle_good {now : Int} {l : List Pl} (h : Good l) : Good (idleL now l).2 := by
  unfold idleL
  split
  · exact h
  · exact (h.left now).filter _

theorem waits_good {now : Int} {l : List Pl} (h : Good l) : Good (waitsL now l).2 := by
  unfold waitsL
  split
  · exact h
  · exact h.left now

/-! ### How many are given -/

def total (l : List Pl) : Int := (l.map (·.batch)).sum
def endless (l : List Pl) : Prop := ∀ p ∈ l, p.till = 0

theorem left_endless {l : List Pl} (h : endless l) (now : Int) : left now l = l := by
  unfold left
  rw [List.filter_eq_self]
  intro p hp
  simp [alive, h p hp]

theorem total_bounds {l : List Pl} (h : Good l) : (l.length : Int) ≤ total l ∧ total l ≤ 50 * l.length := by
  replace h := h.2
  unfold total
  induction l with
  | nil => simp
  | cons p l ih =>
    have h1 := ih (fun x hx => h x (by simp [hx]))
    have h2 := h p (by simp)
    simp only [List.map_cons, List.sum_cons, List.length_cons]
    omega

theorem total_append (l : List Pl) (p : Pl) : total (l ++ [p]) = total l + p.batch := by
  unfold total; simp

/-- One that is taken. -/
theorem take_total {now : Int} {l : List Pl} (hn : bad now = false) (h : Good l) (he : endless l) :
    ((takeL now l).1 = (false, 0) ∧ l = [] ∧ (takeL now l).2 = []) ∨ ((takeL now l).1 = (true, 0) ∧ total (takeL now l).2 = total l - 1 ∧ endless (takeL now l).2 ∧ 0 < total l) := by
  have hg := total_bounds h
  unfold takeL
  rw [hn, left_endless he]
  cases l with
  | nil => left; simp
  | cons p r =>
    right
    simp only [Bool.false_eq_true, if_false, true_and]
    refine ⟨?_, ?_, ?_⟩
    · split
      · rename_i hb; unfold total; simp [hb]; omega
      · unfold total; simp; omega
    · split
      · exact fun x hx => he x (by simp [hx])
      · intro x hx
        rcases List.mem_cons.1 hx with rfl | hx
        · exact he p (by simp)
        · exact he x (by simp [hx])
    · simp at hg; omega

theorem ask_total {now : Int} {b : Int} {nw : Bool} {l : List Pl} (hn : bad now = false) (h : Good l) (he : endless l) :
    ((askL now ⟨b, 0, nw⟩ l).1 = 0 ∧ 1 ≤ b ∧ b ≤ 50 ∧ total l < 500 ∧ total (askL now ⟨b, 0, nw⟩ l).2 = total l + b ∧ endless (askL now ⟨b, 0, nw⟩ l).2) ∨
    ((askL now ⟨b, 0, nw⟩ l).1 = 1 ∧ (b < 1 ∨ 50 < b) ∧ (askL now ⟨b, 0, nw⟩ l).2 = l) ∨
    ((askL now ⟨b, 0, nw⟩ l).1 = 8 ∧ (askL now ⟨b, 0, nw⟩ l).2 = l ∧ l.length = 10) := by
  have hg := total_bounds h
  unfold askL
  rw [hn, left_endless he]
  by_cases hb : b < 1 ∨ 50 < b
  · right; left
    rw [if_pos (by rcases hb with hb | hb; exact .inl hb; exact .inr (.inl hb))]
    exact ⟨rfl, hb, rfl⟩
  · rw [if_neg (by simp [farT]; omega)]
    by_cases hl : l.length = 10
    · right; right
      rw [if_pos hl]; exact ⟨rfl, rfl, hl⟩
    · left
      rw [if_neg hl]
      have h10 := h.1
      refine ⟨rfl, by omega, by omega, by omega, total_append l _, ?_⟩
      intro x hx
      rcases List.mem_append.1 hx with hx | hx
      · exact he x hx
      · simp at hx; rw [hx]

end Go.Proofs.Ytglgbidcmkncgaa.Pull
