/- What is printed of a plan is read as it was, and the other way round: in plain Lean. -/
import Derived.Test.YtglgbidcmkncgaaDoorPlanPrint
namespace Go.Proofs.YtglgbidcmkncgaaDoor.Subj

/-! ### Pieces -/
section
variable {c : UInt8}

theorem piecesC_no {a : List UInt8} (h : c ∉ a) : piecesC c a = [a] := by
  induction a with
  | nil => rfl
  | cons b a ih =>
    unfold piecesC
    rw [List.mem_cons, not_or] at h
    rw [if_neg (fun e => h.1 e.symm), ih h.2]

theorem piecesC_sep {a : List UInt8} (h : c ∉ a) (b : List UInt8) : piecesC c (a ++ c :: b) = a :: piecesC c b := by
  induction a with
  | nil => simp [piecesC]
  | cons x a ih =>
    rw [List.cons_append]
    conv => lhs; unfold piecesC
    rw [List.mem_cons, not_or] at h
    rw [if_neg (fun e => h.1 e.symm), ih h.2]

theorem piecesC_free : ∀ (l : List UInt8) (t : Tok), t ∈ piecesC c l → c ∉ t
  | [], t, h => by simp [piecesC] at h; subst h; simp
  | b :: l, t, h => by
    unfold piecesC at h
    split at h
    · rcases List.mem_cons.1 h with rfl | h
      · simp
      · exact piecesC_free l t h
    · rename_i hb
      split at h
      · rename_i p ps e
        rcases List.mem_cons.1 h with rfl | h
        · have := piecesC_free l p (by rw [e]; simp)
          simp only [List.mem_cons, not_or]
          exact ⟨fun e => hb e.symm, this⟩
        · exact piecesC_free l t (by rw [e]; simp [h])
      · simp at h; subst h; simp; exact fun e => hb e.symm

/-- Texts with a byte between. -/
def glue (c : UInt8) : List Tok → List UInt8
  | [] => []
  | [a] => a
  | a :: b :: r => a ++ c :: glue c (b :: r)

theorem glue_cons (a : Tok) {r : List Tok} (h : r ≠ []) : glue c (a :: r) = a ++ c :: glue c r := by
  cases r with
  | nil => exact absurd rfl h
  | cons b r => rfl

theorem glue_pieces : ∀ l : List UInt8, glue c (piecesC c l) = l
  | [] => rfl
  | b :: l => by
    have ih := glue_pieces l
    unfold piecesC
    have hne := piecesC_ne c l
    split
    · rename_i hb
      rw [glue_cons _ hne, ih, hb]; rfl
    · cases hp : piecesC c l with
      | nil => exact absurd hp hne
      | cons p ps =>
        rw [hp] at ih
        cases ps with
        | nil => simp only [glue] at ih ⊢; rw [ih]
        | cons q qs => simp only [glue] at ih ⊢; rw [List.cons_append, ih]

theorem pieces_glue : ∀ l : List Tok, l ≠ [] → (∀ t ∈ l, c ∉ t) → piecesC c (glue c l) = l
  | [], h, _ => absurd rfl h
  | [a], _, hf => by simp only [glue]; exact piecesC_no (hf a (by simp))
  | a :: b :: r, _, hf => by
    rw [glue_cons a (by simp), piecesC_sep (hf a (by simp)), pieces_glue (b :: r) (by simp) (fun t ht => hf t (by simp at ht ⊢; right; exact ht))]
end

theorem joinC_glue : ∀ fs : List Tok, joinC fs = glue 44 fs
  | [] => rfl
  | [f] => by rw [joinC_one]; rfl
  | f :: g :: r => by rw [joinC_cons f (by simp), glue_cons f (by simp), joinC_glue (g :: r)]; simp

/-! ### Numbers -/
theorem head_app {a b : List UInt8} (h : a ≠ []) : (a ++ b).head? = a.head? := by
  cases a with
  | nil => exact absurd rfl h
  | cons x a => rfl

theorem snoc_form {l : List UInt8} (h : l ≠ []) : ∃ m b, l = m ++ [b] := by
  induction l with
  | nil => exact absurd rfl h
  | cons a l ih =>
    by_cases hl : l = []
    · subst hl; exact ⟨[], a, rfl⟩
    · obtain ⟨m, b, rfl⟩ := ih hl
      exact ⟨a :: m, b, rfl⟩

theorem decDigits_small {u : Nat} (h : u < 10) : Lib.decDigits u = [UInt8.ofNat (48 + u)] := by rw [Lib.decDigits, dif_pos h]
theorem decDigits_step {u : Nat} (h : ¬ u < 10) : Lib.decDigits u = Lib.decDigits (u / 10) ++ [UInt8.ofNat (48 + u % 10)] := by rw [Lib.decDigits, dif_neg h]

theorem digit_nat {d : Nat} (h : d < 10) : (UInt8.ofNat (48 + d)).toNat = 48 + d := by
  simp; omega

theorem decDigits_facts : ∀ (n u : Nat), u ≤ n → (Lib.decDigits u).all isDigit = true ∧ digitsVal (Lib.decDigits u) = u ∧ Lib.decDigits u ≠ [] ∧ (0 < u → (Lib.decDigits u).head? ≠ some 48)
  | 0, u, h => by
    obtain rfl : u = 0 := by omega
    rw [decDigits_small (by omega)]
    exact ⟨by decide, by decide, by simp, fun h => by omega⟩
  | n + 1, u, h => by
    by_cases h10 : u < 10
    · rw [decDigits_small h10]
      refine ⟨?_, ?_, by simp, fun h0 => ?_⟩
      · simp only [List.all_cons, List.all_nil, Bool.and_true, isDigit, Bool.and_eq_true, decide_eq_true_eq]
        rw [digit_nat h10]; omega
      · simp only [digitsVal, List.foldl_cons, List.foldl_nil]
        rw [digit_nat h10]; omega
      · intro e
        simp only [List.head?_cons, Option.some.injEq] at e
        have := congrArg UInt8.toNat e
        rw [digit_nat h10] at this
        have h48 : (48 : UInt8).toNat = 48 := rfl
        omega
    · obtain ⟨i1, i2, i3, i4⟩ := decDigits_facts n (u / 10) (by omega)
      have hm : u % 10 < 10 := Nat.mod_lt _ (by decide)
      rw [decDigits_step h10]
      refine ⟨?_, ?_, by simp, fun _ => ?_⟩
      · rw [List.all_append, i1]
        simp only [List.all_cons, List.all_nil, Bool.and_true, Bool.true_and, isDigit, Bool.and_eq_true, decide_eq_true_eq]
        rw [digit_nat hm]; omega
      · rw [digitsVal_snoc, i2, digit_nat hm]; omega
      · rw [head_app i3]
        exact i4 (by omega)

theorem numberOf_itoa {v : Int} (h0 : 0 < v) (h : v ≤ 999999999) : numberOf (Lib.itoa v) = v := by
  have hl := itoa_len (by omega) h
  unfold Lib.itoa at hl ⊢
  rw [if_neg (by omega)] at hl ⊢
  obtain ⟨f1, f2, f3, f4⟩ := decDigits_facts v.toNat v.toNat (Nat.le_refl _)
  unfold numberOf
  rw [if_neg, f2]
  · omega
  · rintro (e | e | ⟨e, _⟩ | e)
    · exact f3 (List.eq_nil_of_length_eq_zero e)
    · omega
    · exact f4 (by omega) e
    · rw [f1] at e; cases e

theorem digitsVal_pos {l : List UInt8} (h1 : l.all isDigit = true) (h2 : l ≠ []) (h3 : l.head? ≠ some 48) : 0 < digitsVal l := by
  have gen : ∀ (m : List UInt8) (n : Nat), 0 < n → 0 < m.foldl (fun n b => 10 * n + (b.toNat - 48)) n := by
    intro m
    induction m with
    | nil => intro n h; exact h
    | cons b m ih => intro n h; exact ih (10 * n + (b.toNat - 48)) (by omega)
  cases l with
  | nil => exact absurd rfl h2
  | cons b l =>
    unfold digitsVal
    rw [List.foldl_cons]
    apply gen
    rw [List.all_cons, Bool.and_eq_true] at h1
    have hb := h1.1
    unfold isDigit at hb
    rw [Bool.and_eq_true, decide_eq_true_eq, decide_eq_true_eq] at hb
    have : b.toNat ≠ 48 := fun e => h3 (by simp; exact UInt8.toNat_inj.1 e)
    show 0 < 10 * 0 + (b.toNat - 48)
    omega

theorem itoa_digits : ∀ (n : Nat) (l : List UInt8), l.length ≤ n → l.all isDigit = true → l ≠ [] → l.head? ≠ some 48 → Lib.decDigits (digitsVal l) = l
  | 0, l, h, _, h2, _ => absurd (List.eq_nil_of_length_eq_zero (by omega)) h2
  | n + 1, l, h, h1, h2, h3 => by
    obtain ⟨m, b, rfl⟩ := snoc_form h2
    rw [List.all_append, Bool.and_eq_true] at h1
    have hb := h1.2
    simp only [List.all_cons, List.all_nil, Bool.and_true, isDigit, Bool.and_eq_true, decide_eq_true_eq] at hb
    rw [digitsVal_snoc]
    have hbb : UInt8.ofNat (48 + (b.toNat - 48)) = b := by
      rw [show 48 + (b.toNat - 48) = b.toNat by omega]; simp
    by_cases hm : m = []
    · subst hm
      have : digitsVal [] = 0 := rfl
      rw [this, decDigits_small (by omega)]
      simp only [List.nil_append, Nat.mul_zero, Nat.zero_add]
      rw [hbb]
    · have h3' : m.head? ≠ some 48 := by rw [head_app hm] at h3; exact h3
      have hp := digitsVal_pos h1.1 hm h3'
      have ih := itoa_digits n m (by simp at h; omega) h1.1 hm h3'
      rw [decDigits_step (by omega), show (10 * digitsVal m + (b.toNat - 48)) / 10 = digitsVal m by omega, ih, show (10 * digitsVal m + (b.toNat - 48)) % 10 = b.toNat - 48 by omega, hbb]

theorem itoa_numberOf {l : List UInt8} (h : 0 < numberOf l) : Lib.itoa (numberOf l) = l ∧ numberOf l ≤ 999999999 := by
  unfold numberOf at h ⊢
  by_cases hc : l.length = 0 ∨ 9 < l.length ∨ (l.head? = some 48 ∧ 1 < l.length) ∨ l.all isDigit = false
  · rw [if_pos hc] at h; omega
  · rw [if_neg hc] at h ⊢
    simp only [not_or, not_and, Nat.not_lt] at hc
    obtain ⟨c1, c2, c3, c4⟩ := hc
    have hall : l.all isDigit = true := by simpa using c4
    have hne : l ≠ [] := fun e => c1 (by rw [e]; rfl)
    have hh : l.head? ≠ some 48 := by
      intro e
      have := c3 e
      cases l with
      | nil => simp at e
      | cons b l =>
        have h0 : l.length = 0 := by simp only [List.length_cons] at this; omega
        have : l = [] := List.eq_nil_of_length_eq_zero h0
        subst this
        simp at e
        subst e
        simp [digitsVal] at h
    constructor
    · unfold Lib.itoa
      rw [if_neg (by omega)]
      exact itoa_digits l.length l (Nat.le_refl _) hall hne hh
    · have : digitsVal l < 10 ^ l.length := by
        have gen : ∀ (k : Nat) (m : List UInt8), m.length = k → m.all isDigit = true → digitsVal m < 10 ^ k := by
          intro k
          induction k with
          | zero => intro m hm _; rw [List.eq_nil_of_length_eq_zero hm]; decide
          | succ k ih =>
            intro m hm hd
            have hmn : m ≠ [] := fun e => by rw [e] at hm; simp at hm
            obtain ⟨q, b, rfl⟩ := snoc_form hmn
            rw [List.all_append, Bool.and_eq_true] at hd
            exact digitsVal_step (ih q (by simpa using hm) hd.1) (by simpa using hd.2)
        exact gen _ l rfl hall
      have h9 : 10 ^ l.length ≤ 10 ^ 9 := Nat.pow_le_pow_right (by decide) c2
      omega

/-! ### The words -/
def tailD : List (List UInt8) → List Int → List UInt8
  | w :: ws, v :: vs => wordOf w v ++ tailD ws vs
  | _, _ => []
def tokD : List (List UInt8) → List Int → List Tok
  | w :: ws, v :: vs => if 0 < v then (w ++ [61] ++ Lib.itoa v) :: tokD ws vs else tokD ws vs
  | _, _ => []

theorem tail_eight (x0 x1 x2 x3 x4 x5 x6 x7 : Int) : tailK [x0, x1, x2, x3, x4, x5, x6, x7] 8 = tailD words [x0, x1, x2, x3, x4, x5, x6, x7] := by
  simp only [tailK, List.range, List.range.loop, List.flatMap_cons, List.flatMap_nil, words, tailD, List.getD_cons_zero, List.getD_cons_succ]

theorem digit_ne {b : UInt8} (h : isDigit b = true) : b ≠ 32 ∧ b ≠ 44 ∧ b ≠ 61 := by
  unfold isDigit at h
  rw [Bool.and_eq_true, decide_eq_true_eq, decide_eq_true_eq] at h
  refine ⟨?_, ?_, ?_⟩ <;> (rintro rfl; revert h; decide)

theorem itoa_free {v : Int} (h0 : 0 < v) : (32 : UInt8) ∉ Lib.itoa v := by
  unfold Lib.itoa
  rw [if_neg (by omega)]
  obtain ⟨f1, _⟩ := decDigits_facts v.toNat v.toNat (Nat.le_refl _)
  intro h
  rw [List.all_eq_true] at f1
  exact (digit_ne (f1 _ h)).1 rfl

theorem pieces_tail : ∀ (ws : List (List UInt8)) (vs : List Int) (a : List UInt8), (∀ w ∈ ws, (32 : UInt8) ∉ w) → 32 ∉ a → piecesC 32 (a ++ tailD ws vs) = a :: tokD ws vs
  | [], vs, a, _, ha => by simp only [tailD, tokD, List.append_nil]; exact piecesC_no ha
  | w :: ws, [], a, _, ha => by simp only [tailD, tokD, List.append_nil]; exact piecesC_no ha
  | w :: ws, v :: vs, a, hw, ha => by
    unfold tailD tokD
    have hw' : ∀ w ∈ ws, (32 : UInt8) ∉ w := fun x hx => hw x (List.mem_cons_of_mem _ hx)
    by_cases hv : 0 < v
    · rw [if_pos hv]
      unfold wordOf
      rw [if_pos hv]
      have hfree : (32 : UInt8) ∉ w ++ [61] ++ Lib.itoa v := by
        simp only [List.mem_append, not_or]
        exact ⟨⟨hw w (by simp), by decide⟩, itoa_free hv⟩
      have := pieces_tail ws vs (w ++ [61] ++ Lib.itoa v) hw' hfree
      rw [← this, ← piecesC_sep ha]
      simp
    · rw [if_neg hv]
      unfold wordOf
      rw [if_neg hv, List.nil_append]
      exact pieces_tail ws vs a hw' ha

theorem prefix_word : ∀ {a b d : List UInt8}, (61 : UInt8) ∉ a → 61 ∉ b → ((a ++ [61]).isPrefixOf (b ++ [61] ++ d) = true ↔ a = b)
  | [], [], d, _, _ => by simp
  | [], y :: b, d, _, hb => by
    rw [List.mem_cons, not_or] at hb
    simp [List.isPrefixOf, hb.1]
  | x :: a, [], d, ha, _ => by
    rw [List.mem_cons, not_or] at ha
    simp [List.isPrefixOf, Ne.symm ha.1]
  | x :: a, y :: b, d, ha, hb => by
    rw [List.mem_cons, not_or] at ha hb
    have ih := prefix_word (a := a) (b := b) (d := d) ha.2 hb.2
    simp only [List.cons_append, List.isPrefixOf, Bool.and_eq_true, beq_iff_eq, List.cons.injEq, ih]

theorem tokD_words : ∀ (ws : List (List UInt8)) (vs : List Int) (t : Tok), t ∈ tokD ws vs → ∃ w d, w ∈ ws ∧ t = w ++ [61] ++ d
  | [], _, t, h => by simp [tokD] at h
  | w :: ws, [], t, h => by simp [tokD] at h
  | w :: ws, v :: vs, t, h => by
    unfold tokD at h
    split at h
    · rcases List.mem_cons.1 h with rfl | h
      · exact ⟨w, _, by simp, rfl⟩
      · obtain ⟨w', d, hw, e⟩ := tokD_words ws vs t h
        exact ⟨w', d, List.mem_cons_of_mem _ hw, e⟩
    · obtain ⟨w', d, hw, e⟩ := tokD_words ws vs t h
      exact ⟨w', d, List.mem_cons_of_mem _ hw, e⟩

theorem drop_word (w d : List UInt8) : (w ++ [61] ++ d).drop (w.length + 1) = d := by
  rw [show w.length + 1 = (w ++ [61]).length by simp]
  exact List.drop_left

theorem readVals_tok : ∀ (ws : List (List UInt8)) (vs : List Int), ws.length = vs.length → ws.Nodup → (∀ w ∈ ws, (61 : UInt8) ∉ w) → (∀ v ∈ vs, 0 ≤ v ∧ v ≤ 999999999) → readVals ws (tokD ws vs) = some (vs, [])
  | [], [], _, _, _, _ => rfl
  | [], v :: vs, h, _, _, _ => by simp at h
  | w :: ws, [], h, _, _, _ => by simp at h
  | w :: ws, v :: vs, hl, hn, hw, hv => by
    have hv0 := hv v (by simp)
    have hn' := List.nodup_cons.1 hn
    have ih := readVals_tok ws vs (by simpa using hl) hn'.2 (fun x hx => hw x (List.mem_cons_of_mem _ hx)) (fun x hx => hv x (List.mem_cons_of_mem _ hx))
    unfold tokD
    by_cases h0 : 0 < v
    · rw [if_pos h0]
      unfold readVals
      have hp : (w ++ [61]).isPrefixOf (w ++ [61] ++ Lib.itoa v) = true := (prefix_word (hw w (by simp)) (hw w (by simp))).2 rfl
      rw [if_pos hp, drop_word, numberOf_itoa h0 hv0.2, if_neg (by omega), ih]
      rfl
    · rw [if_neg h0]
      obtain rfl : v = 0 := by omega
      cases ht : tokD ws vs with
      | nil =>
        rw [readVals_nil]
        have hz : readVals ws (tokD ws vs) = some (vs, []) := ih
        rw [ht, readVals_nil] at hz
        simp only [Option.some.injEq, Prod.mk.injEq, and_true] at hz
        rw [List.map_cons, hz]
      | cons t r =>
        unfold readVals
        obtain ⟨w', d, hw', rfl⟩ := tokD_words ws vs t (by rw [ht]; simp)
        have hp : (w ++ [61]).isPrefixOf (w' ++ [61] ++ d) = false := by
          rw [Bool.eq_false_iff]
          intro e
          have := (prefix_word (hw w (by simp)) (hw w' (List.mem_cons_of_mem _ hw'))).1 e
          subst this
          exact hn'.1 hw'
        rw [if_neg (by rw [hp]; simp)]
        rw [ht] at ih
        rw [ih]
        rfl

/-! ### The other way -/
def flatW (r : List Tok) : List UInt8 := r.flatMap fun t => [32] ++ t

theorem prefix_form {a t : List UInt8} (h : a.isPrefixOf t = true) : t = a ++ t.drop a.length := by
  rw [List.isPrefixOf_iff_prefix] at h
  obtain ⟨d, rfl⟩ := h
  simp

theorem tail_read : ∀ (ws : List (List UInt8)) (r : List Tok) (vs : List Int), readVals ws r = some (vs, []) → tailD ws vs = flatW r
  | [], r, vs, h => by
    simp only [readVals, Option.some.injEq, Prod.mk.injEq] at h
    obtain ⟨rfl, rfl⟩ := h
    rfl
  | w :: ws, [], vs, h => by
    rw [readVals_nil] at h
    simp only [Option.some.injEq, Prod.mk.injEq, and_true] at h
    subst h
    have : ∀ l : List (List UInt8), tailD l (l.map fun _ => (0 : Int)) = [] := by
      intro l
      induction l with
      | nil => rfl
      | cons a l ih => simp only [List.map_cons, tailD, ih]; rfl
    rw [this]; rfl
  | w :: ws, t :: r, vs, h => by
    unfold readVals at h
    split at h
    · rename_i hp
      split at h
      · cases h
      · rename_i hn
        obtain ⟨x, hx, he⟩ := Option.map_eq_some_iff.1 h
        simp only [Prod.mk.injEq] at he
        obtain ⟨rfl, he2⟩ := he
        have hx' : readVals ws r = some (x.1, []) := by rw [hx, ← he2]
        have ih := tail_read ws r x.1 hx'
        have hpos : 0 < numberOf (t.drop (w.length + 1)) := by omega
        unfold tailD
        rw [ih]
        unfold wordOf
        rw [if_pos hpos, (itoa_numberOf hpos).1]
        have hf := prefix_form hp
        have hlw : (w ++ [61] : List UInt8).length = w.length + 1 := by simp
        rw [hlw] at hf
        unfold flatW
        rw [List.flatMap_cons]
        congr 1
        conv => rhs; rw [hf]
        simp
    · obtain ⟨x, hx, he⟩ := Option.map_eq_some_iff.1 h
      simp only [Prod.mk.injEq] at he
      obtain ⟨rfl, he2⟩ := he
      have hx' : readVals ws (t :: r) = some (x.1, []) := by rw [hx, ← he2]
      have ih := tail_read ws (t :: r) x.1 hx'
      unfold tailD
      rw [ih]
      rfl

theorem glue_flat (n : Tok) : ∀ (r : List Tok), glue 32 (n :: r) = n ++ flatW r
  | [] => by simp [glue, flatW]
  | t :: r => by
    rw [glue_cons n (by simp), glue_flat t r]
    simp [flatW]

theorem readVals_len : ∀ (ws : List (List UInt8)) (r : List Tok) (vs : List Int) (x : List Tok), readVals ws r = some (vs, x) → vs.length = ws.length
  | [], r, vs, x, h => by
    simp only [readVals, Option.some.injEq, Prod.mk.injEq] at h
    obtain ⟨rfl, _⟩ := h; rfl
  | w :: ws, [], vs, x, h => by
    rw [readVals_nil] at h
    simp only [Option.some.injEq, Prod.mk.injEq] at h
    obtain ⟨rfl, _⟩ := h; simp
  | w :: ws, t :: r, vs, x, h => by
    unfold readVals at h
    split at h
    · split at h
      · cases h
      · obtain ⟨y, hy, he⟩ := Option.map_eq_some_iff.1 h
        simp only [Prod.mk.injEq] at he
        obtain ⟨rfl, rfl⟩ := he
        have := readVals_len ws r y.1 y.2 hy
        simp [this]
    · obtain ⟨y, hy, he⟩ := Option.map_eq_some_iff.1 h
      simp only [Prod.mk.injEq] at he
      obtain ⟨rfl, rfl⟩ := he
      have := readVals_len ws (t :: r) y.1 y.2 hy
      simp [this]

theorem hasComma_pieces (f : List UInt8) : hasComma (piecesC 44 f) = false := by
  unfold hasComma
  rw [List.any_eq_false]
  intro t ht
  have := piecesC_free f t ht
  simpa using this

/-- What is read is printed as it stood. -/
theorem print_parse {s : List UInt8} {p : PlanP} (h : parseP s = (some p, 0)) :
    hasComma p.fs = false ∧ printL p.name p.fs p.vs = s ∧ planErr p.name p.fs p.vs = 0 ∧ p.vs.length = 8 := by
  unfold parseP at h
  split at h
  · cases h
  · split at h
    · rename_i n f r e
      split at h
      · rename_i vs hr
        split at h
        · rename_i hp
          simp only [Prod.mk.injEq, Option.some.injEq, and_true] at h
          subst h
          have hl := readVals_len _ _ _ _ hr
          refine ⟨hasComma_pieces f, ?_, hp, hl⟩
          unfold printL
          rw [joinC_glue, glue_pieces]
          have ht := tail_read _ _ _ hr
          match vs, hl with
          | [x0, x1, x2, x3, x4, x5, x6, x7], _ =>
            rw [tail_eight, ht]
            have hs := glue_pieces (c := 32) s
            rw [e, glue_cons n (by simp), glue_flat] at hs
            rw [← hs]
            simp
        · cases h
      · cases h
    · cases h

end Go.Proofs.YtglgbidcmkncgaaDoor.Subj
