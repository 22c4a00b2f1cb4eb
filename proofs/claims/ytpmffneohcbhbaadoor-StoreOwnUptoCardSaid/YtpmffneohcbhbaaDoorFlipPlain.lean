/- Bits of a text that are turned one by one, 32 side by side at the most. No program here. -/
import Derived.Test.YtpmffneohcbhbaaDoorCrcPlain
namespace Go.Proofs.YtpmffneohcbhbaaDoor.Crc

/-- Bit j of a text. -/
def bitAt (l : List UInt8) (j : Nat) : Bool := (l.getD (j / 8) 0).toNat.testBit (j % 8)

theorem low_get' (n : Nat) : ∀ (x j : Nat), j < n → (low n x)[j]? = some (x.testBit j) := by
  induction n with
  | zero => intro x j h; omega
  | succ n ih =>
    intro x j h
    cases j with
    | zero =>
      simp only [low, List.getElem?_cons_zero, Nat.testBit_zero]
      congr 1
    | succ j =>
      simp only [low, List.getElem?_cons_succ]
      rw [ih (x / 2) j (by omega), Nat.testBit_succ]

theorem low_length (n : Nat) : ∀ x, (low n x).length = n := by
  induction n with
  | zero => intro x; rfl
  | succ n ih => intro x; simp [low, ih]

theorem bitsL_length (l : List UInt8) : (bitsL l).length = 8 * l.length := by
  induction l with
  | nil => rfl
  | cons b l ih =>
    have : bitsL (b :: l) = low8 b ++ bitsL l := rfl
    rw [this, List.length_append, ih, low8, low_length, List.length_cons]
    omega

theorem bitsL_get (l : List UInt8) : ∀ j, j < 8 * l.length → (bitsL l)[j]? = some (bitAt l j) := by
  induction l with
  | nil => intro j h; simp at h
  | cons b l ih =>
    intro j h
    have e : bitsL (b :: l) = low8 b ++ bitsL l := rfl
    rw [e]
    by_cases hj : j < 8
    · rw [List.getElem?_append_left (by rw [low8, low_length]; exact hj), low8, low_get' 8 _ _ hj]
      have h0 : j / 8 = 0 := by omega
      have h1 : j % 8 = j := by omega
      unfold bitAt
      rw [h0, h1]
      rfl
    · rw [List.getElem?_append_right (by rw [low8, low_length]; omega), low8, low_length, ih (j - 8) (by simp at h; omega)]
      have h0 : j / 8 = (j - 8) / 8 + 1 := by omega
      have h1 : j % 8 = (j - 8) % 8 := by omega
      unfold bitAt
      rw [h0, h1, List.getD_cons_succ]

theorem testBit_xor_one (x r i : Nat) : (x ^^^ 2 ^ r).testBit i = (x.testBit i != decide (r = i)) := by
  rw [Nat.testBit_xor, Nat.testBit_two_pow]

/-- One bit turned. -/
def flip (l : List UInt8) (j : Nat) : List UInt8 := l.set (j / 8) (l.getD (j / 8) 0 ^^^ UInt8.ofNat (2 ^ (j % 8)))

theorem flip_length (l : List UInt8) (j : Nat) : (flip l j).length = l.length := by simp [flip]

theorem bitAt_flip (l : List UInt8) (j i : Nat) (hj : j < 8 * l.length) : bitAt (flip l j) i = (bitAt l i != decide (i = j)) := by
  unfold bitAt flip
  by_cases h : i / 8 = j / 8
  · rw [h]
    have e : (l.set (j / 8) (l.getD (j / 8) 0 ^^^ UInt8.ofNat (2 ^ (j % 8)))).getD (j / 8) 0 = l.getD (j / 8) 0 ^^^ UInt8.ofNat (2 ^ (j % 8)) := by
      rw [List.getD_eq_getElem?_getD, List.getElem?_set_self (by omega)]
      rfl
    have hp : 2 ^ (j % 8) < 256 := by
      have : 2 ^ (j % 8) ≤ 2 ^ 7 := Nat.pow_le_pow_right (by decide) (by omega)
      omega
    rw [e, UInt8.toNat_xor, UInt8.toNat_ofNat', Nat.mod_eq_of_lt hp, testBit_xor_one]
    congr 1
    rw [decide_eq_decide]
    omega
  · have e : (l.set (j / 8) (l.getD (j / 8) 0 ^^^ UInt8.ofNat (2 ^ (j % 8)))).getD (i / 8) 0 = l.getD (i / 8) 0 := by
      rw [List.getD_eq_getElem?_getD, List.getElem?_set_ne (by omega), ← List.getD_eq_getElem?_getD]
    have hd : decide (i = j) = false := by simp; intro e; exact h (by rw [e])
    rw [e, hd]
    simp

/-- The first i bits of t, turned from bit k on. -/
def flips (t k : Nat) : Nat → List UInt8 → List UInt8
  | 0, l => l
  | i + 1, l => if t.testBit i then flip (flips t k i l) (k + i) else flips t k i l

theorem flips_length (t k i : Nat) (l : List UInt8) : (flips t k i l).length = l.length := by
  induction i with
  | zero => rfl
  | succ i ih => unfold flips; split <;> simp [flip_length, ih]

theorem bitAt_flips (t k : Nat) (l : List UInt8) (n : Nat) (h : k + n ≤ 8 * l.length) : ∀ j, bitAt (flips t k n l) j = (bitAt l j != (decide (k ≤ j ∧ j < k + n) && t.testBit (j - k))) := by
  induction n with
  | zero =>
    intro j
    have h1 : decide (k ≤ j ∧ j < k + 0) = false := by simp
    rw [h1]; simp [flips]
  | succ n ih =>
    intro j
    have ih := ih (by omega) j
    unfold flips
    by_cases ht : t.testBit n = true
    · rw [if_pos ht, bitAt_flip _ _ _ (by rw [flips_length]; omega), ih]
      by_cases e : j = k + n
      · subst e
        have h1 : decide (k ≤ k + n ∧ k + n < k + n) = false := by simp
        have h2 : decide (k ≤ k + n ∧ k + n < k + (n + 1)) = true := by simp
        rw [h1, h2, show k + n - k = n by omega, ht]
        simp
      · have h1 : decide (k ≤ j ∧ j < k + n) = decide (k ≤ j ∧ j < k + (n + 1)) := by rw [decide_eq_decide]; omega
        have h2 : decide (j = k + n) = false := by simpa using e
        rw [h1, h2]
        simp
    · rw [if_neg ht, ih]
      by_cases e : j = k + n
      · subst e
        have h1 : t.testBit (k + n - k) = false := by rw [show k + n - k = n by omega]; simpa using ht
        rw [h1]; simp
      · have h1 : decide (k ≤ j ∧ j < k + n) = decide (k ≤ j ∧ j < k + (n + 1)) := by rw [decide_eq_decide]; omega
        rw [h1]

/-- The turned text's sum is another one. -/
theorem flips_sum (l : List UInt8) (t k : Nat) (ht : t < 2 ^ 32) (ht0 : t ≠ 0) (hk : k + 32 ≤ 8 * l.length) : crcL l ≠ crcL (flips t k 32 l) := by
  refine burst l (flips t k 32 l) k (8 * l.length - k - 32) t (by rw [bitsL_length, bitsL_length, flips_length]) ht ht0 ?_
  apply List.ext_getElem?
  intro j
  have hlen : (xorB (bitsL l) (bitsL (flips t k 32 l))).length = 8 * l.length := by
    unfold xorB; rw [List.length_zipWith, bitsL_length, bitsL_length, flips_length]; omega
  by_cases hj : j < 8 * l.length
  · have h1 : (xorB (bitsL l) (bitsL (flips t k 32 l)))[j]? = some (bitAt l j != bitAt (flips t k 32 l) j) := by
      unfold xorB
      rw [List.getElem?_zipWith, bitsL_get l j hj, bitsL_get (flips t k 32 l) j (by rw [flips_length]; exact hj)]
    rw [h1, bitAt_flips t k l 32 hk]
    have h2 : (bitAt l j != (bitAt l j != (decide (k ≤ j ∧ j < k + 32) && t.testBit (j - k)))) = (decide (k ≤ j ∧ j < k + 32) && t.testBit (j - k)) := by
      cases bitAt l j <;> cases (decide (k ≤ j ∧ j < k + 32) && t.testBit (j - k)) <;> rfl
    rw [h2]
    by_cases a : j < k
    · rw [List.getElem?_append_left (by simpa using a), List.getElem?_replicate, if_pos a]
      have : decide (k ≤ j ∧ j < k + 32) = false := by simp; omega
      rw [this]; rfl
    · rw [List.getElem?_append_right (by simp; omega), List.length_replicate]
      by_cases b : j < k + 32
      · rw [List.getElem?_append_left (by rw [low_length]; omega), low_get' 32 t (j - k) (by omega)]
        have : decide (k ≤ j ∧ j < k + 32) = true := by simp; omega
        rw [this]; simp
      · rw [List.getElem?_append_right (by rw [low_length]; omega), low_length, List.getElem?_replicate, if_pos (by omega)]
        have : decide (k ≤ j ∧ j < k + 32) = false := by simp; omega
        rw [this]; rfl
  · rw [List.getElem?_eq_none (by omega), List.getElem?_eq_none]
    simp only [List.length_append, List.length_replicate, low_length]
    omega

end Go.Proofs.YtpmffneohcbhbaaDoor.Crc
