/- Numbers as bytes: how a number is written, how it is read, and that the two fit. Plain lists of bytes; no program here. -/
namespace Go.Proofs.YtpmffneohcbhbaaDoor.Pack

/-- What is written of n, in at most f bytes. -/
def numF : Nat → Nat → List UInt8
  | 0, _ => []
  | f + 1, n => if n < 128 then [UInt8.ofNat n] else UInt8.ofNat (128 + n % 128) :: numF f (n / 128)

/-- What is written of a number below 2^63. -/
def numL (n : Nat) : List UInt8 := numF 9 n

/-- What is read at byte i, acc read so far: the number, how many bytes, the error. -/
def rdL : Nat → Nat → List UInt8 → Nat × Nat × Nat
  | _, _, [] => (0, 0, 6)
  | i, acc, b :: l =>
    if (128 ≤ b.toNat ∧ i = 8) ∨ (b.toNat = 0 ∧ 0 < i) then (0, 0, 7)
    else if b.toNat < 128 then (acc + b.toNat * 128 ^ i, i + 1, 0)
    else rdL (i + 1) (acc + (b.toNat - 128) * 128 ^ i) l

def rdN (l : List UInt8) : Nat × Nat × Nat := rdL 0 0 l

theorem numF_len (f n : Nat) : (numF f n).length ≤ f := by
  induction f generalizing n with
  | zero => simp [numF]
  | succ f ih => unfold numF; split <;> simp; have := ih (n / 128); omega

theorem numF_pos (f n : Nat) : 0 < (numF (f + 1) n).length := by
  unfold numF; split <;> simp

theorem numL_len (n : Nat) : (numL n).length ≤ 9 := numF_len 9 n

theorem ofNat_toNat_lt (n : Nat) (h : n < 256) : (UInt8.ofNat n).toNat = n := by
  simp [UInt8.toNat_ofNat']; omega

theorem pow_pos' (i : Nat) : 0 < 128 ^ i := Nat.pow_pos (by decide)

theorem rdL_num (f i acc n : Nat) (more : List UInt8) (hf : i + f = 8) (hn : n < 128 ^ (f + 1)) (hp : 0 < i → 0 < n) :
    rdL i acc (numF (f + 1) n ++ more) = (acc + n * 128 ^ i, i + (numF (f + 1) n).length, 0) := by
  induction f generalizing i acc n with
  | zero =>
    have h : n < 128 := by simpa using hn
    unfold numF
    rw [if_pos h]
    simp only [List.cons_append, List.nil_append, rdL]
    rw [ofNat_toNat_lt n (by omega), if_neg (by rintro (⟨a, _⟩ | ⟨a, b⟩); { omega }; { have := hp b; omega }), if_pos h]
    simp
  | succ f ih =>
    unfold numF
    by_cases h : n < 128
    · rw [if_pos h]
      simp only [List.cons_append, List.nil_append, rdL]
      rw [ofNat_toNat_lt n (by omega), if_neg (by rintro (⟨a, _⟩ | ⟨a, b⟩); { omega }; { have := hp b; omega }), if_pos h]
      simp
    · rw [if_neg h]
      simp only [List.cons_append, rdL]
      rw [ofNat_toNat_lt _ (by omega), if_neg (by omega), if_neg (by omega),
        ih (i + 1) _ (n / 128) (by omega) (by rw [Nat.div_lt_iff_lt_mul (by decide)]; simpa [Nat.pow_succ] using hn) (by intro; omega)]
      simp only [Prod.mk.injEq, List.length_cons, and_true]
      refine ⟨?_, by omega⟩
      have e : 128 + n % 128 - 128 = n % 128 := by omega
      rw [e, Nat.pow_succ]
      have hd := Nat.div_add_mod n 128
      generalize 128 ^ i = p at *
      have : n * p = (128 * (n / 128) + n % 128) * p := by rw [hd]
      rw [this, Nat.add_mul, Nat.mul_comm p 128, ← Nat.mul_assoc, Nat.mul_comm (n / 128) 128]
      omega

theorem rdL_front (f i acc n j : Nat) (hf : i + f = 8) (hn : n < 128 ^ (f + 1)) (hj : j < (numF (f + 1) n).length) :
    rdL i acc ((numF (f + 1) n).take j) = (0, 0, 6) := by
  induction f generalizing i acc n j with
  | zero =>
    have h : n < 128 := by simpa using hn
    unfold numF at hj ⊢
    rw [if_pos h] at hj ⊢
    have : j = 0 := by simpa using hj
    subst this
    rfl
  | succ f ih =>
    unfold numF at hj ⊢
    by_cases h : n < 128
    · rw [if_pos h] at hj ⊢
      have : j = 0 := by simpa using hj
      subst this
      rfl
    · rw [if_neg h] at hj ⊢
      cases j with
      | zero => rfl
      | succ j =>
        simp only [List.take_succ_cons, rdL]
        rw [ofNat_toNat_lt _ (by omega), if_neg (by omega), if_neg (by omega)]
        exact ih (i + 1) _ (n / 128) j (by omega) (by rw [Nat.div_lt_iff_lt_mul (by decide)]; simpa [Nat.pow_succ] using hn) (by simpa using hj)

theorem rdL_one (f i acc : Nat) (s : List UInt8) (n k : Nat) (hf : i + f = 8) (h : rdL i acc s = (n, k, 0)) :
    ∃ m, n = acc + m * 128 ^ i ∧ m < 128 ^ (f + 1) ∧ i < k ∧ k ≤ i + s.length ∧ numF (f + 1) m = s.take (k - i) ∧ (0 < i → 0 < m) := by
  induction f generalizing i acc s with
  | zero =>
    cases s with
    | nil => simp [rdL] at h
    | cons b l =>
      simp only [rdL] at h
      split at h
      · simp at h
      · rename_i h1
        split at h
        · rename_i h2
          simp only [Prod.mk.injEq, and_true] at h
          obtain ⟨rfl, rfl⟩ := h
          refine ⟨b.toNat, rfl, by omega, by omega, by simp, ?_, by omega⟩
          have e : i + 1 - i = 1 := by omega
          rw [e]
          simp [numF, h2]
        · omega
  | succ f ih =>
    cases s with
    | nil => simp [rdL] at h
    | cons b l =>
      simp only [rdL] at h
      split at h
      · simp at h
      · rename_i h1
        split at h
        · rename_i h2
          simp only [Prod.mk.injEq, and_true] at h
          obtain ⟨rfl, rfl⟩ := h
          refine ⟨b.toNat, rfl, ?_, by omega, by simp, ?_, by omega⟩
          · have : 128 ≤ 128 ^ (f + 1 + 1) := by rw [Nat.pow_succ]; have := pow_pos' (f + 1); omega
            omega
          · have e : i + 1 - i = 1 := by omega
            rw [e]
            simp [numF, h2]
        · rename_i h2
          obtain ⟨m, rfl, hm, hik, hk, hnum, hmp⟩ := ih (i + 1) _ l (by omega) h
          have hb := b.toNat_lt
          have hmp := hmp (by omega)
          refine ⟨b.toNat - 128 + 128 * m, ?_, ?_, by omega, by simp; omega, ?_, by omega⟩
          · rw [Nat.pow_succ, Nat.add_mul]
            generalize 128 ^ i = p
            rw [Nat.mul_comm 128 m, Nat.mul_assoc m 128 p, Nat.mul_comm p 128]
            omega
          · rw [Nat.pow_succ]; omega
          · have e : k - i = (k - (i + 1)) + 1 := by omega
            rw [e, List.take_succ_cons, ← hnum]
            have h3 : ¬ (b.toNat - 128 + 128 * m < 128) := by omega
            conv => lhs; unfold numF
            rw [if_neg h3]
            have e1 : (b.toNat - 128 + 128 * m) % 128 = b.toNat - 128 := by omega
            have e2 : (b.toNat - 128 + 128 * m) / 128 = m := by omega
            rw [e1, e2]
            have e3 : 128 + (b.toNat - 128) = b.toNat := by omega
            rw [e3]
            simp

/-- What is written is read. -/
theorem rdN_num (n : Nat) (more : List UInt8) (hn : n < 2 ^ 63) : rdN (numL n ++ more) = (n, (numL n).length, 0) := by
  have := rdL_num 8 0 0 n more rfl (by simpa using hn) (by omega)
  simpa [rdN, numL] using this

theorem rdN_front (n j : Nat) (hn : n < 2 ^ 63) (hj : j < (numL n).length) : rdN ((numL n).take j) = (0, 0, 6) :=
  rdL_front 8 0 0 n j rfl (by simpa using hn) hj

/-- What is read is written as just those bytes. -/
theorem rdN_one (s : List UInt8) (n k : Nat) (h : rdN s = (n, k, 0)) : n < 2 ^ 63 ∧ 0 < k ∧ k ≤ s.length ∧ numL n = s.take k := by
  obtain ⟨m, h1, h2, h3, h4, h5, _⟩ := rdL_one 8 0 0 s n k rfl h
  simp at h1 h4 h5
  subst h1
  exact ⟨by simpa using h2, h3, h4, h5⟩

theorem rdL_err (s : List UInt8) : ∀ i acc, (rdL i acc s).2.2 = 0 ∨ rdL i acc s = (0, 0, 6) ∨ rdL i acc s = (0, 0, 7) := by
  induction s with
  | nil => intro i acc; right; left; rfl
  | cons b l ih =>
    intro i acc
    simp only [rdL]
    split
    · right; right; rfl
    · split
      · left; rfl
      · exact ih _ _

/-- The three forms that an answer has. -/
theorem rdN_cases (s : List UInt8) : (∃ n k, rdN s = (n, k, 0) ∧ n < 2 ^ 63 ∧ 0 < k ∧ k ≤ s.length ∧ k ≤ 9 ∧ numL n = s.take k) ∨ rdN s = (0, 0, 6) ∨ rdN s = (0, 0, 7) := by
  rcases rdL_err s 0 0 with h | h | h
  · left
    obtain ⟨n, k, e⟩ : ∃ n k, rdN s = (n, k, 0) := ⟨(rdN s).1, (rdN s).2.1, by
      have : rdN s = ((rdN s).1, (rdN s).2.1, (rdN s).2.2) := rfl
      rw [this]; simp only [Prod.mk.injEq, true_and]; exact h⟩
    obtain ⟨a, b, c, d⟩ := rdN_one s n k e
    refine ⟨n, k, e, a, b, c, ?_, d⟩
    have := numL_len n
    rw [d, List.length_take] at this
    omega
  · right; left; exact h
  · right; right; exact h

/-- A text with its length ahead. -/
def textL (t : List UInt8) : List UInt8 := numL t.length ++ t

/-- What is read of a text of at most 'most' bytes: the text, how many bytes, the error. -/
def rdT (l : List UInt8) (most : Int) : List UInt8 × Nat × Nat :=
  if (rdN l).2.2 ≠ 0 then ([], 0, (rdN l).2.2)
  else if most < ((rdN l).1 : Int) then ([], 0, 7)
  else if l.length - (rdN l).2.1 < (rdN l).1 then ([], 0, 6)
  else ((l.drop (rdN l).2.1).take (rdN l).1, (rdN l).2.1 + (rdN l).1, 0)

theorem rdT_text (t more : List UInt8) (most : Int) (ht : t.length < 2 ^ 63) (hm : (t.length : Int) ≤ most) :
    rdT (textL t ++ more) most = (t, (textL t).length, 0) := by
  have h := rdN_num t.length (t ++ more) ht
  unfold rdT textL
  rw [List.append_assoc, h]
  have h2 : ¬ (most < (t.length : Int)) := by omega
  simp [h2]

theorem rdT_front (t : List UInt8) (most : Int) (j : Nat) (ht : t.length < 2 ^ 63) (hm : (t.length : Int) ≤ most) (hj : j < (textL t).length) :
    rdT ((textL t).take j) most = ([], 0, 6) := by
  unfold textL at hj ⊢
  by_cases h : j < (numL t.length).length
  · have e : (numL t.length ++ t).take j = (numL t.length).take j := by
      rw [List.take_append_of_le_length (by omega)]
    rw [e]
    unfold rdT
    rw [rdN_front _ _ ht h]
    simp
  · have e : (numL t.length ++ t).take j = numL t.length ++ t.take (j - (numL t.length).length) := by
      rw [List.take_append]
      rw [List.take_of_length_le (by omega)]
    rw [e]
    unfold rdT
    rw [rdN_num _ _ ht]
    have h2 : ¬ (most < (t.length : Int)) := by omega
    simp only [ne_eq, not_true, if_false, h2, List.length_append, List.length_take]
    rw [if_pos]
    simp only [List.length_append] at hj
    omega

/-- The three forms that an answer has. -/
theorem rdT_cases (s : List UInt8) (most : Int) : (∃ t k, rdT s most = (t, k, 0) ∧ (t.length : Int) ≤ most ∧ t.length < 2 ^ 63 ∧ k ≤ s.length ∧ textL t = s.take k ∧ k = (textL t).length) ∨ rdT s most = ([], 0, 6) ∨ rdT s most = ([], 0, 7) := by
  rcases rdN_cases s with ⟨n, k, h, h1, h2, h3, h4, h5⟩ | h | h
  · unfold rdT
    rw [h]
    simp only [ne_eq, not_true, if_false]
    split
    · right; right; rfl
    · split
      · right; left; rfl
      · left
        rename_i ha hb
        have hl : ((s.drop k).take n).length = n := by simp; omega
        refine ⟨_, _, rfl, by omega, by omega, by omega, ?_, ?_⟩
        · unfold textL
          rw [hl, h5, List.take_add]
        · unfold textL
          rw [List.length_append, hl, h5, List.length_take]
          omega
  · right; left; unfold rdT; rw [h]; simp
  · right; right; unfold rdT; rw [h]; simp

end Go.Proofs.YtpmffneohcbhbaaDoor.Pack
