/- How a plan is printed: in plain Lean. -/
import Derived.Test.YtglgbidcmkncgaaDoorPlanPlain
import Derived.Lib.Join
import Derived.Lib.ItoaNum
namespace Go.Proofs.YtglgbidcmkncgaaDoor.Subj

/-- Texts with commas between. -/
def joinC (fs : List Tok) : List UInt8 := Lib.join fs [44]

def hasComma (fs : List Tok) : Bool := fs.any fun f => f.contains 44

/-- A number's word, where it is told. -/
def wordOf (w : List UInt8) (v : Int) : List UInt8 := if 0 < v then [32] ++ w ++ [61] ++ Lib.itoa v else []

def tailK (vs : List Int) (k : Nat) : List UInt8 := (List.range k).flatMap fun j => wordOf (words.getD j []) (vs.getD j 0)

def printL (name : List UInt8) (fs : List Tok) (vs : List Int) : List UInt8 := name ++ [32] ++ joinC fs ++ tailK vs 8

theorem tailK_zero (vs : List Int) : tailK vs 0 = [] := rfl

theorem tailK_told {vs : List Int} {k : Nat} (h : 0 < vs.getD k 0) : tailK vs (k + 1) = tailK vs k ++ ([32] ++ words.getD k [] ++ [61] ++ Lib.itoa (vs.getD k 0)) := by
  unfold tailK
  rw [List.range_succ, List.flatMap_append]
  simp only [List.flatMap_cons, List.flatMap_nil, List.append_nil]
  congr 1
  unfold wordOf
  rw [if_pos h]

theorem tailK_not {vs : List Int} {k : Nat} (h : ¬ 0 < vs.getD k 0) : tailK vs (k + 1) = tailK vs k := by
  unfold tailK
  rw [List.range_succ, List.flatMap_append]
  simp only [List.flatMap_cons, List.flatMap_nil, List.append_nil]
  unfold wordOf
  rw [if_neg h, List.append_nil]

theorem decDigits_len : ∀ (k u : Nat), u < 10 ^ (k + 1) → (Lib.decDigits u).length ≤ k + 1
  | 0, u, h => by
    rw [Lib.decDigits, dif_pos (by simpa using h)]
    simp
  | k + 1, u, h => by
    rw [Lib.decDigits]
    split
    · simp
    · have := decDigits_len k (u / 10) (by rw [Nat.pow_succ] at h; omega)
      simp only [List.length_append, List.length_cons, List.length_nil]
      omega

theorem words_short : ∀ k, (words.getD k []).length ≤ 7 := by
  intro k
  by_cases h : k < 8
  · have : ∀ k, k < 8 → (words.getD k []).length ≤ 7 := by decide
    exact this k h
  · have : words.getD k [] = [] := by
      rw [List.getD_eq_getElem?_getD, List.getElem?_eq_none (by show 8 ≤ k; omega)]
      rfl
    rw [this]; simp

theorem itoa_len {v : Int} (h0 : 0 ≤ v) (h : v ≤ 999999999) : (Lib.itoa v).length ≤ 9 := by
  unfold Lib.itoa
  rw [if_neg (by omega)]
  exact decDigits_len 8 _ (by show v.toNat < 1000000000; omega)

theorem tailK_len {vs : List Int} (h : ∀ k, k < 8 → 0 ≤ vs.getD k 0 ∧ vs.getD k 0 ≤ 999999999) : ∀ k, k ≤ 8 → (tailK vs k).length ≤ 18 * k
  | 0, _ => by simp [tailK]
  | k + 1, hk => by
    have ih := tailK_len h k (by omega)
    by_cases hp : 0 < vs.getD k 0
    · rw [tailK_told hp]
      have h1 := words_short k
      have h2 := itoa_len (h k (by omega)).1 (h k (by omega)).2
      simp only [List.length_append, List.length_cons, List.length_nil]
      omega
    · rw [tailK_not hp]; omega

theorem joinC_len (B : Nat) : ∀ fs : List Tok, (∀ f ∈ fs, f.length ≤ B) → (joinC fs).length ≤ fs.length * (B + 1)
  | [], _ => by simp [joinC, Lib.join, List.intercalate]
  | [f], h => by
    have := h f (by simp)
    simp [joinC, Lib.join, List.intercalate]; omega
  | f :: g :: r, h => by
    have h1 := h f (by simp)
    have h2 := joinC_len B (g :: r) (fun x hx => h x (List.mem_cons_of_mem _ hx))
    have e : joinC (f :: g :: r) = f ++ [44] ++ joinC (g :: r) := by
      simp [joinC, Lib.join, List.intercalate, List.intersperse]
    rw [e]
    simp only [List.length_append, List.length_cons, List.length_nil] at h2 ⊢
    have e2 : (r.length + 1 + 1) * (B + 1) = (r.length + 1) * (B + 1) + (B + 1) := by rw [Nat.add_mul]; omega
    rw [e2]
    omega

theorem joinC_cons (f : Tok) {fs : List Tok} (h : fs ≠ []) : joinC (f :: fs) = f ++ [44] ++ joinC fs := by
  cases fs with
  | nil => exact absurd rfl h
  | cons g r => simp [joinC, Lib.join, List.intercalate, List.intersperse]

theorem joinC_one (f : Tok) : joinC [f] = f := by simp [joinC, Lib.join, List.intercalate]

theorem joinC_snoc (f : Tok) : ∀ {fs : List Tok}, fs ≠ [] → joinC (fs ++ [f]) = joinC fs ++ [44] ++ f
  | [], h => absurd rfl h
  | [g], _ => by rw [List.cons_append, List.nil_append, joinC_cons g (by simp), joinC_one, joinC_one]
  | g :: h :: r, _ => by
    rw [List.cons_append, joinC_cons g (by simp), joinC_cons g (by simp), joinC_snoc f (by simp)]
    simp

theorem inAll_bound {vs : List Int} (h : inAll vs = true) : ∀ k, k < 8 → 0 ≤ vs.getD k 0 ∧ vs.getD k 0 ≤ 100000 := by
  unfold inAll at h
  rw [List.all_eq_true] at h
  intro k hk
  have h1 := h k (by simpa using hk)
  rw [Bool.and_eq_true, decide_eq_true_eq, decide_eq_true_eq] at h1
  have h2 : mosts.getD k 0 ≤ 100000 := by
    have : ∀ k, k < 8 → mosts.getD k 0 ≤ 100000 := by decide
    exact this k hk
  omega

end Go.Proofs.YtglgbidcmkncgaaDoor.Subj
