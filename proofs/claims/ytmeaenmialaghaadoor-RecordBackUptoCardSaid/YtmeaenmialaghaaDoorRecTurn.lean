/- A record of which one bit of the body, or of the sum, is turned is none; in plain Lean. -/
import Derived.Test.YtmeaenmialaghaaDoorRecPlain
namespace Go.Proofs.YtmeaenmialaghaaDoor.Rec
open Subj Pack Crc

theorem flips_one (m k : Nat) (l : List UInt8) : ∀ n, flips (2 ^ m) k n l = if m < n then flip l (k + m) else l := by
  intro n
  induction n with
  | zero => simp [flips]
  | succ n ih =>
    unfold flips
    rw [ih, Nat.testBit_two_pow]
    by_cases h : m = n
    · subst h
      simp
    · by_cases h2 : m < n
      · simp [h, h2, show m < n + 1 by omega]
      · simp [h, h2, show ¬ m < n + 1 by omega]

theorem crc_flip (l : List UInt8) (j : Nat) (hl : 4 ≤ l.length) (hj : j < 8 * l.length) : crcL l ≠ crcL (flip l j) := by
  by_cases h : j + 32 ≤ 8 * l.length
  · have h1 := flips_sum l (2 ^ 0) j (by decide) (by decide) h
    rw [flips_one] at h1
    simpa using h1
  · have h1 := flips_sum l (2 ^ (j - (8 * l.length - 32))) (8 * l.length - 32) (Nat.pow_lt_pow_right (by decide) (by omega)) (Nat.ne_of_gt (Nat.pow_pos (by decide))) (by omega)
    rw [flips_one, if_pos (by omega), show 8 * l.length - 32 + (j - (8 * l.length - 32)) = j by omega] at h1
    exact h1

theorem flip_left (a b : List UInt8) (j : Nat) (h : j < 8 * a.length) : flip (a ++ b) j = flip a j ++ b := by
  unfold Crc.flip
  rw [List.set_append_left _ _ (by omega)]
  rw [List.getD_eq_getElem?_getD, List.getElem?_append_left (by omega), ← List.getD_eq_getElem?_getD]

theorem flip_right (a b : List UInt8) (j : Nat) : flip (a ++ b) (8 * a.length + j) = a ++ flip b j := by
  unfold Crc.flip
  have e1 : (8 * a.length + j) / 8 = a.length + j / 8 := by omega
  have e2 : (8 * a.length + j) % 8 = j % 8 := by omega
  rw [e1, e2, List.set_append_right _ _ (by omega)]
  congr 2
  · omega
  · congr 1
    rw [List.getD_eq_getElem?_getD, List.getElem?_append_right (by omega), List.getD_eq_getElem?_getD]
    congr 2; omega

theorem flip_ne (l : List UInt8) (j : Nat) (h : j < 8 * l.length) : flip l j ≠ l := fun e => by
  have h1 := bitAt_flip l j j h
  rw [e] at h1
  simp at h1

theorem le4_inj {a b : Nat} (ha : a < 4294967296) (hb : b < 4294967296) (h : le4 a = le4 b) : a = b := by
  unfold le4 at h
  simp only [List.cons.injEq, and_true, ← UInt8.toNat_inj, UInt8.toNat_ofNat'] at h
  omega

theorem sum4_ne {a b : List UInt8} (h : crcL a ≠ crcL b) : sum4 a ≠ sum4 b := fun e =>
  h (BitVec.eq_of_toNat_eq (le4_inj (crcL a).isLt (crcL b).isLt e))

theorem decL_bad (t s4 : List UInt8) (ht : t.length ≤ 1024) (h4 : s4.length = 4) (hne : s4 ≠ sum4 t) : decL (numL t.length ++ (t ++ s4)) = (Rc.zero, 0, 7) := by
  have e : rdT (numL t.length ++ (t ++ s4)) 1024 = (t, (textL t).length, 0) := by
    have := rdT_text t s4 1024 (by omega) (by omega)
    unfold textL at *
    rw [List.append_assoc] at this
    exact this
  have hl : (numL t.length ++ (t ++ s4)).length = (textL t).length + 4 := by unfold textL; simp only [List.length_append, h4]; omega
  have hd : (numL t.length ++ (t ++ s4)).drop (textL t).length = s4 := by
    unfold textL
    rw [← List.append_assoc]
    simp
  unfold decL
  rw [e]
  simp only [ne_eq, not_true_eq_false, if_false]
  rw [if_neg (by omega), hd, show s4.take 4 = s4 by rw [← h4]; exact List.take_length]
  cases t with
  | nil => rfl
  | cons x rest => simp only; rw [if_pos hne]

theorem coded_front {r : Rc} (h : recErr r = 0) : (rdN (codedL r)).2.1 = (numL (bodyL r).length).length ∧ (codedL r).length = (numL (bodyL r).length).length + ((bodyL r).length + 4) ∧ (rdN (codedL r)).2.2 = 0 := by
  obtain ⟨h1, h2⟩ := bodyL_len h
  have e : codedL r = numL (bodyL r).length ++ (bodyL r ++ sum4 (bodyL r)) := by unfold codedL textL; rw [List.append_assoc]
  rw [e, rdN_num _ _ (by omega)]
  refine ⟨rfl, ?_, rfl⟩
  simp only [List.length_append, sum4_len]

theorem decL_turned {r : Rc} (h : recErr r = 0) (i : Nat) (hi : i < 8 * ((bodyL r).length + 4)) :
    decL (flip (codedL r) (8 * (numL (bodyL r).length).length + i)) = (Rc.zero, 0, 7) := by
  obtain ⟨h1, h2⟩ := bodyL_len h
  have e : codedL r = numL (bodyL r).length ++ (bodyL r ++ sum4 (bodyL r)) := by unfold codedL textL; rw [List.append_assoc]
  rw [e, flip_right]
  by_cases hb : i < 8 * (bodyL r).length
  · rw [flip_left _ _ _ hb]
    have hc := sum4_ne (crc_flip (bodyL r) i (by omega) hb)
    have := decL_bad (flip (bodyL r) i) (sum4 (bodyL r)) (by rw [flip_length]; omega) (sum4_len _) hc
    rw [flip_length] at this
    exact this
  · obtain ⟨j, rfl⟩ : ∃ j, i = 8 * (bodyL r).length + j := ⟨i - 8 * (bodyL r).length, by omega⟩
    rw [flip_right]
    exact decL_bad (bodyL r) _ (by omega) (by rw [flip_length, sum4_len]) (flip_ne _ _ (by rw [sum4_len]; omega))
end Go.Proofs.YtmeaenmialaghaaDoor.Rec
