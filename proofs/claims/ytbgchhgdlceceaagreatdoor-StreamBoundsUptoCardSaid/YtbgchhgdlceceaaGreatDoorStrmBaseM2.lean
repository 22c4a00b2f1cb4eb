/- Parts of the proof, joined: A disk of files in plain Lean: by their numbers. Over any program.; Numbers as bytes: how a number is written, how it is read, and that the two fit. Plain lists of bytes; no program here.; The sum of a text, bit by bit, over 32 bits; and that two texts that differ in at most 32 bits side by side have unlike sums. No program here.; Bits of a text that are turned one by one, 32 side by side at the most. No program here.; Subjects and filters over lists of bytes: their tokens, what is right, who takes, overlaps, covers whom; and the laws of these. No program here. -/
import Derived.Test.YtbgchhgdlceceaaGreatDoorStrmBaseM1
import Derived.Lib.SplitLaws
namespace Go.Proofs.YtbgchhgdlceceaaGreatDoor.Dsk

structure FileP where
  n : Int
  text : List UInt8
  sure : Nat

def total : List FileP → Nat
  | [] => 0
  | p :: r => p.text.length + total r

def getF : List FileP → Int → Option FileP
  | [], _ => none
  | p :: r, n => if p.n = n then some p else getF r n

def setF : List FileP → FileP → List FileP
  | [], _ => []
  | p :: r, q => if p.n = q.n then q :: r else p :: setF r q

def insF : List FileP → FileP → List FileP
  | [], q => [q]
  | p :: r, q => if q.n < p.n then q :: p :: r else p :: insF r q

def delF : List FileP → Int → List FileP
  | [], _ => []
  | p :: r, n => if p.n = n then r else p :: delF r n

def Sorted (A : List FileP) : Prop := A.Pairwise fun a b => a.n < b.n

section
variable {A : List FileP} {p q : FileP} {n k : Int}

theorem getF_n : ∀ {A : List FileP} {p : FileP}, getF A n = some p → p.n = n ∧ p ∈ A
  | [], _, h => by cases h
  | a :: r, p, h => by
    unfold getF at h
    split at h
    · rename_i e; simp only [Option.some.injEq] at h; subst h; exact ⟨e, by simp⟩
    · have := getF_n h; exact ⟨this.1, List.mem_cons_of_mem _ this.2⟩

theorem getF_none : ∀ {A : List FileP}, getF A n = none → ∀ p ∈ A, p.n ≠ n
  | [], _, _, h => by cases h
  | a :: r, h, p, hp => by
    unfold getF at h
    split at h
    · cases h
    · rename_i e
      rcases List.mem_cons.1 hp with rfl | hp
      · exact e
      · exact getF_none h p hp

theorem getF_mem : ∀ {A : List FileP} {p : FileP}, Sorted A → p ∈ A → getF A p.n = some p
  | a :: r, p, hs, hp => by
    obtain ⟨h1, h2⟩ := List.pairwise_cons.1 hs
    unfold getF
    rcases List.mem_cons.1 hp with rfl | hp
    · rw [if_pos rfl]
    · have := h1 p hp
      rw [if_neg (by omega)]
      exact getF_mem h2 hp

/-! setF -/
theorem mem_setF : ∀ {A : List FileP} {q x : FileP}, Sorted A → x ∈ setF A q → x = q ∨ (x ∈ A ∧ x.n ≠ q.n)
  | [], _, _, _, h => by cases h
  | a :: r, q, x, hs, h => by
    obtain ⟨h1, h2⟩ := List.pairwise_cons.1 hs
    unfold setF at h
    split at h
    · rename_i e
      rcases List.mem_cons.1 h with rfl | h
      · exact .inl rfl
      · have := h1 x h; exact .inr ⟨List.mem_cons_of_mem _ h, by omega⟩
    · rename_i e
      rcases List.mem_cons.1 h with rfl | h
      · exact .inr ⟨by simp, e⟩
      · rcases mem_setF h2 h with h | ⟨h, e⟩
        · exact .inl h
        · exact .inr ⟨List.mem_cons_of_mem _ h, e⟩

theorem map_setF : ∀ (A : List FileP) (q : FileP), (setF A q).map (·.n) = A.map (·.n)
  | [], _ => rfl
  | a :: r, q => by
    unfold setF
    split
    · rename_i e; simp [e]
    · simp [map_setF r q]

theorem sorted_iff : Sorted A ↔ (A.map (·.n)).Pairwise (· < ·) := by
  unfold Sorted; rw [List.pairwise_map]

theorem sorted_setF (hs : Sorted A) (q : FileP) : Sorted (setF A q) := by
  rw [sorted_iff, map_setF, ← sorted_iff]; exact hs

theorem getF_setF : ∀ {A : List FileP} {q : FileP}, getF (setF A q) n = if n = q.n then (getF A n).map (fun _ => q) else getF A n
  | [], q => by simp [setF, getF]
  | a :: r, q => by
    have ih := getF_setF (A := r) (q := q)
    unfold setF
    by_cases e : a.n = q.n
    · rw [if_pos e]
      by_cases e2 : n = q.n
      · subst e2; simp [getF, e]
      · rw [if_neg e2]
        unfold getF
        rw [if_neg (fun h => e2 h.symm), if_neg (fun h => e2 (by rw [← h, e]))]
    · rw [if_neg e]
      unfold getF
      rw [ih]
      by_cases e3 : a.n = n
      · rw [if_pos e3, if_pos e3, if_neg (by omega)]
      · rw [if_neg e3, if_neg e3]

theorem len_setF : ∀ (A : List FileP) (q : FileP), (setF A q).length = A.length := fun A q => by
  have := congrArg List.length (map_setF A q); simpa using this

theorem total_setF : ∀ {A : List FileP} {p q : FileP}, Sorted A → getF A q.n = some p → total (setF A q) + p.text.length = total A + q.text.length
  | [], _, _, _, h => by cases h
  | a :: r, p, q, hs, h => by
    obtain ⟨h1, h2⟩ := List.pairwise_cons.1 hs
    unfold getF at h
    unfold setF
    split at h
    · rename_i e
      simp only [Option.some.injEq] at h; subst h
      rw [if_pos e]; simp only [total]; omega
    · rename_i e
      rw [if_neg e]
      have := total_setF h2 h
      simp only [total]; omega

theorem le_total : ∀ {A : List FileP} {p : FileP}, p ∈ A → p.text.length ≤ total A
  | a :: r, p, h => by
    simp only [total]
    rcases List.mem_cons.1 h with rfl | h
    · omega
    · have := le_total h; omega

/-! insF -/
theorem mem_insF : ∀ {A : List FileP} {q x : FileP}, x ∈ insF A q ↔ x = q ∨ x ∈ A
  | [], q, x => by simp [insF]
  | a :: r, q, x => by
    unfold insF
    split
    · simp
    · rw [List.mem_cons, mem_insF, List.mem_cons]
      constructor
      · rintro (h | h | h)
        · exact .inr (.inl h)
        · exact .inl h
        · exact .inr (.inr h)
      · rintro (h | h | h)
        · exact .inr (.inl h)
        · exact .inl h
        · exact .inr (.inr h)

theorem sorted_insF : ∀ {A : List FileP} {q : FileP}, Sorted A → (∀ p ∈ A, p.n ≠ q.n) → Sorted (insF A q)
  | [], q, _, _ => by simp [insF, Sorted]
  | a :: r, q, hs, hn => by
    obtain ⟨h1, h2⟩ := List.pairwise_cons.1 hs
    unfold insF
    split
    · rename_i e
      refine List.pairwise_cons.2 ⟨fun x hx => ?_, hs⟩
      rcases List.mem_cons.1 hx with rfl | hx
      · exact e
      · have := h1 x hx; omega
    · rename_i e
      refine List.pairwise_cons.2 ⟨fun x hx => ?_, sorted_insF h2 (fun p hp => hn p (List.mem_cons_of_mem _ hp))⟩
      have ha := hn a (by simp)
      rcases mem_insF.1 hx with rfl | hx
      · omega
      · exact h1 x hx

theorem len_insF : ∀ (A : List FileP) (q : FileP), (insF A q).length = A.length + 1
  | [], _ => rfl
  | a :: r, q => by
    unfold insF
    split
    · simp
    · simp [len_insF r q]

theorem total_insF : ∀ (A : List FileP) (q : FileP), total (insF A q) = total A + q.text.length
  | [], q => by simp [insF, total]
  | a :: r, q => by
    unfold insF
    split
    · simp only [total]; omega
    · simp only [total, total_insF r q]; omega

theorem getF_insF (hs : Sorted A) (q : FileP) (hn : ∀ p ∈ A, p.n ≠ q.n) : getF (insF A q) n = if n = q.n then some q else getF A n := by
  have hs2 := sorted_insF hs hn
  by_cases e : n = q.n
  · subst e; rw [if_pos rfl]; exact getF_mem hs2 (mem_insF.2 (.inl rfl))
  · rw [if_neg e]
    cases h : getF A n with
    | none =>
      cases h2 : getF (insF A q) n with
      | none => rfl
      | some x =>
        obtain ⟨e1, e2⟩ := getF_n h2
        rcases mem_insF.1 e2 with rfl | e2
        · exact absurd e1.symm e
        · exact absurd e1 (getF_none h x e2)
    | some x =>
      obtain ⟨e1, e2⟩ := getF_n h
      rw [← e1]
      exact getF_mem hs2 (mem_insF.2 (.inr e2))

/-! delF -/
theorem mem_delF : ∀ {A : List FileP} {x : FileP}, Sorted A → (x ∈ delF A n ↔ x ∈ A ∧ x.n ≠ n)
  | [], x, _ => by simp [delF]
  | a :: r, x, hs => by
    obtain ⟨h1, h2⟩ := List.pairwise_cons.1 hs
    unfold delF
    split
    · rename_i e
      rw [List.mem_cons]
      constructor
      · intro h; have := h1 x h; exact ⟨.inr h, by omega⟩
      · rintro ⟨rfl | h, e2⟩
        · exact absurd e e2
        · exact h
    · rename_i e
      rw [List.mem_cons, mem_delF h2, List.mem_cons]
      constructor
      · rintro (rfl | h)
        · exact ⟨.inl rfl, e⟩
        · exact ⟨.inr h.1, h.2⟩
      · rintro ⟨rfl | h, e2⟩
        · exact .inl rfl
        · exact .inr ⟨h, e2⟩

theorem sorted_delF : ∀ {A : List FileP}, Sorted A → Sorted (delF A n)
  | [], _ => by simp [delF, Sorted]
  | a :: r, hs => by
    obtain ⟨h1, h2⟩ := List.pairwise_cons.1 hs
    unfold delF
    split
    · exact h2
    · exact List.pairwise_cons.2 ⟨fun x hx => h1 x ((mem_delF h2).1 hx).1, sorted_delF h2⟩

theorem getF_delF (hs : Sorted A) : getF (delF A n) k = if k = n then none else getF A k := by
  have hs2 := sorted_delF (n := n) hs
  cases h : getF (delF A n) k with
  | none =>
    by_cases e : k = n
    · rw [if_pos e]
    · rw [if_neg e]
      cases h2 : getF A k with
      | none => rfl
      | some x =>
        obtain ⟨e1, e2⟩ := getF_n h2
        exact absurd e1 (getF_none h x ((mem_delF hs).2 ⟨e2, by omega⟩))
  | some x =>
    obtain ⟨e1, e2⟩ := getF_n h
    have h3 := (mem_delF hs).1 e2
    rw [if_neg (by omega), ← e1, getF_mem hs h3.1]

theorem total_delF : ∀ {A : List FileP} {p : FileP}, Sorted A → getF A n = some p → total (delF A n) + p.text.length = total A
  | [], _, _, h => by cases h
  | a :: r, p, hs, h => by
    obtain ⟨h1, h2⟩ := List.pairwise_cons.1 hs
    unfold getF at h
    unfold delF
    split at h
    · rename_i e
      simp only [Option.some.injEq] at h; subst h
      rw [if_pos e]; simp only [total]; omega
    · rename_i e
      rw [if_neg e]
      have := total_delF h2 h
      simp only [total]; omega

theorem len_delF : ∀ {A : List FileP} {p : FileP}, Sorted A → getF A n = some p → (delF A n).length + 1 = A.length
  | [], _, _, h => by cases h
  | a :: r, p, hs, h => by
    obtain ⟨h1, h2⟩ := List.pairwise_cons.1 hs
    unfold getF at h
    unfold delF
    split at h
    · rename_i e; rw [if_pos e]; rfl
    · rename_i e
      rw [if_neg e]
      have := len_delF h2 h
      simp only [List.length_cons]; omega
end

/-! what the calls answer -/
def appD (room : Int) (A : List FileP) (n : Int) (s : List UInt8) : List FileP × Nat :=
  if n < 0 ∨ 1099511627776 < n then (A, 1)
  else if room - total A < s.length then (A, 8)
  else match getF A n with
    | some p => (setF A ⟨n, p.text ++ s, p.sure⟩, 0)
    | none => if A.length = 20 then (A, 8) else (insF A ⟨n, s, 0⟩, 0)

def cutD (A : List FileP) (n size : Int) : List FileP × Nat :=
  match getF A n with
  | some p => if size < 0 ∨ p.text.length < size then (A, 1) else (setF A ⟨n, p.text.take size.toNat, size.toNat⟩, 0)
  | none => (A, 4)

def syncD (A : List FileP) (n : Int) : List FileP × Nat :=
  match getF A n with
  | some p => (setF A ⟨n, p.text, p.text.length⟩, 0)
  | none => (A, 4)

def removeD (A : List FileP) (n : Int) : List FileP × Nat :=
  match getF A n with
  | some _ => (delF A n, 0)
  | none => (A, 4)

def readD (A : List FileP) (n : Int) : List UInt8 × Nat :=
  match getF A n with
  | some p => (p.text, 0)
  | none => ([], 4)

def keptF (keep : Nat) (p : FileP) : FileP := ⟨p.n, p.text.take (p.sure + min keep (p.text.length - p.sure)), p.sure + min keep (p.text.length - p.sure)⟩
def crashD (A : List FileP) (keep : Nat) : List FileP := A.map (keptF keep)

/-- What is always so of a disk's files. -/
structure RightD (room : Int) (A : List FileP) : Prop where
  sorted : Sorted A
  few : A.length ≤ 20
  fits : (total A : Int) ≤ room
  small : room ≤ 65536
  sure : ∀ p ∈ A, p.sure ≤ p.text.length
  num : ∀ p ∈ A, 0 ≤ p.n ∧ p.n ≤ 1099511627776

theorem RightD.len {room : Int} {A : List FileP} (h : RightD room A) {p : FileP} (hp : p ∈ A) : p.text.length ≤ 65536 := by
  have h1 := h.fits; have h2 := h.small; have h3 := le_total hp; omega

theorem RightD.set {room : Int} {A : List FileP} (h : RightD room A) {p : FileP} {n : Int} (hp : getF A n = some p) (q : FileP) (hn : q.n = n) (hs : q.sure ≤ q.text.length) (hf : (total A : Int) - p.text.length + q.text.length ≤ room) : RightD room (setF A q) := by
  subst hn
  have ht := total_setF h.sorted hp
  refine ⟨sorted_setF h.sorted q, by rw [len_setF]; exact h.few, by omega, h.small, fun x hx => ?_, fun x hx => ?_⟩
  · rcases mem_setF h.sorted hx with rfl | ⟨hx, _⟩
    · exact hs
    · exact h.sure x hx
  · rcases mem_setF h.sorted hx with rfl | ⟨hx, _⟩
    · have := h.num p (getF_n hp).2; rw [(getF_n hp).1] at this; exact this
    · exact h.num x hx

theorem RightD.ins {room : Int} {A : List FileP} (h : RightD room A) {n : Int} {s : List UInt8} (hp : getF A n = none) (h0 : 0 ≤ n) (h1 : n ≤ 1099511627776) (h20 : A.length ≠ 20) (hf : (total A : Int) + s.length ≤ room) : RightD room (insF A ⟨n, s, 0⟩) := by
  have hn := getF_none hp
  refine ⟨sorted_insF h.sorted hn, by rw [len_insF]; have := h.few; omega, by rw [total_insF]; simp only; omega, h.small, fun x hx => ?_, fun x hx => ?_⟩
  · rcases mem_insF.1 hx with rfl | hx
    · exact Nat.zero_le _
    · exact h.sure x hx
  · rcases mem_insF.1 hx with rfl | hx
    · exact ⟨h0, h1⟩
    · exact h.num x hx

theorem RightD.del {room : Int} {A : List FileP} (h : RightD room A) {p : FileP} {n : Int} (hp : getF A n = some p) : RightD room (delF A n) := by
  have ht := total_delF h.sorted hp
  have hl := len_delF h.sorted hp
  have hf := h.fits; have hw := h.few
  exact ⟨sorted_delF h.sorted, by omega, by omega, h.small, fun x hx => h.sure x ((mem_delF h.sorted).1 hx).1, fun x hx => h.num x ((mem_delF h.sorted).1 hx).1⟩

end Go.Proofs.YtbgchhgdlceceaaGreatDoor.Dsk

namespace Go.Proofs.YtbgchhgdlceceaaGreatDoor.Pack

/-- What is written of n, in at most f bytes. -/
def numF : Nat → Nat → List UInt8
  | 0, _ => []
  | f + 1, n => if n < 128 then [UInt8.ofNat n] else UInt8.ofNat (128 + n % 128) :: numF f (n / 128)

/-- What is written of a number below 2^63. -/
def numL (n : Nat) : List UInt8 := numF 9 n

/-- What is read at byte i, acc read so far: the number, how many bytes, the error. -/
def rdL : Nat → Nat → List UInt8 → Nat × Nat × Nat
  | _, _, [] => (0, 0, 6)
  | i, acc, b :: l =>
    if (128 ≤ b.toNat ∧ i = 8) ∨ (b.toNat = 0 ∧ 0 < i) then (0, 0, 7)
    else if b.toNat < 128 then (acc + b.toNat * 128 ^ i, i + 1, 0)
    else rdL (i + 1) (acc + (b.toNat - 128) * 128 ^ i) l

def rdN (l : List UInt8) : Nat × Nat × Nat := rdL 0 0 l

theorem numF_len (f n : Nat) : (numF f n).length ≤ f := by
  induction f generalizing n with
  | zero => simp [numF]
  | succ f ih => unfold numF; split <;> simp; have := ih (n / 128); omega

theorem numF_pos (f n : Nat) : 0 < (numF (f + 1) n).length := by
  unfold numF; split <;> simp

theorem numL_len (n : Nat) : (numL n).length ≤ 9 := numF_len 9 n

theorem ofNat_toNat_lt (n : Nat) (h : n < 256) : (UInt8.ofNat n).toNat = n := by
  simp [UInt8.toNat_ofNat']; omega

theorem pow_pos' (i : Nat) : 0 < 128 ^ i := Nat.pow_pos (by decide)

theorem rdL_num (f i acc n : Nat) (more : List UInt8) (hf : i + f = 8) (hn : n < 128 ^ (f + 1)) (hp : 0 < i → 0 < n) :
    rdL i acc (numF (f + 1) n ++ more) = (acc + n * 128 ^ i, i + (numF (f + 1) n).length, 0) := by
  induction f generalizing i acc n with
  | zero =>
    have h : n < 128 := by simpa using hn
    unfold numF
    rw [if_pos h]
    simp only [List.cons_append, List.nil_append, rdL]
    rw [ofNat_toNat_lt n (by omega), if_neg (by rintro (⟨a, _⟩ | ⟨a, b⟩); { omega }; { have := hp b; omega }), if_pos h]
    simp
  | succ f ih =>
    unfold numF
    by_cases h : n < 128
    · rw [if_pos h]
      simp only [List.cons_append, List.nil_append, rdL]
      rw [ofNat_toNat_lt n (by omega), if_neg (by rintro (⟨a, _⟩ | ⟨a, b⟩); { omega }; { have := hp b; omega }), if_pos h]
      simp
    · rw [if_neg h]
      simp only [List.cons_append, rdL]
      rw [ofNat_toNat_lt _ (by omega), if_neg (by omega), if_neg (by omega),
        ih (i + 1) _ (n / 128) (by omega) (by rw [Nat.div_lt_iff_lt_mul (by decide)]; simpa [Nat.pow_succ] using hn) (by intro; omega)]
      simp only [Prod.mk.injEq, List.length_cons, and_true]
      refine ⟨?_, by omega⟩
      have e : 128 + n % 128 - 128 = n % 128 := by omega
      rw [e, Nat.pow_succ]
      have hd := Nat.div_add_mod n 128
      generalize 128 ^ i = p at *
      have : n * p = (128 * (n / 128) + n % 128) * p := by rw [hd]
      rw [this, Nat.add_mul, Nat.mul_comm p 128, ← Nat.mul_assoc, Nat.mul_comm (n / 128) 128]
      omega

theorem rdL_front (f i acc n j : Nat) (hf : i + f = 8) (hn : n < 128 ^ (f + 1)) (hj : j < (numF (f + 1) n).length) :
    rdL i acc ((numF (f + 1) n).take j) = (0, 0, 6) := by
  induction f generalizing i acc n j with
  | zero =>
    have h : n < 128 := by simpa using hn
    unfold numF at hj ⊢
    rw [if_pos h] at hj ⊢
    have : j = 0 := by simpa using hj
    subst this
    rfl
  | succ f ih =>
    unfold numF at hj ⊢
    by_cases h : n < 128
    · rw [if_pos h] at hj ⊢
      have : j = 0 := by simpa using hj
      subst this
      rfl
    · rw [if_neg h] at hj ⊢
      cases j with
      | zero => rfl
      | succ j =>
        simp only [List.take_succ_cons, rdL]
        rw [ofNat_toNat_lt _ (by omega), if_neg (by omega), if_neg (by omega)]
        exact ih (i + 1) _ (n / 128) j (by omega) (by rw [Nat.div_lt_iff_lt_mul (by decide)]; simpa [Nat.pow_succ] using hn) (by simpa using hj)

theorem rdL_one (f i acc : Nat) (s : List UInt8) (n k : Nat) (hf : i + f = 8) (h : rdL i acc s = (n, k, 0)) :
    ∃ m, n = acc + m * 128 ^ i ∧ m < 128 ^ (f + 1) ∧ i < k ∧ k ≤ i + s.length ∧ numF (f + 1) m = s.take (k - i) ∧ (0 < i → 0 < m) := by
  induction f generalizing i acc s with
  | zero =>
    cases s with
    | nil => simp [rdL] at h
    | cons b l =>
      simp only [rdL] at h
      split at h
      · simp at h
      · rename_i h1
        split at h
        · rename_i h2
          simp only [Prod.mk.injEq, and_true] at h
          obtain ⟨rfl, rfl⟩ := h
          refine ⟨b.toNat, rfl, by omega, by omega, by simp, ?_, by omega⟩
          have e : i + 1 - i = 1 := by omega
          rw [e]
          simp [numF, h2]
        · omega
  | succ f ih =>
    cases s with
    | nil => simp [rdL] at h
    | cons b l =>
      simp only [rdL] at h
      split at h
      · simp at h
      · rename_i h1
        split at h
        · rename_i h2
          simp only [Prod.mk.injEq, and_true] at h
          obtain ⟨rfl, rfl⟩ := h
          refine ⟨b.toNat, rfl, ?_, by omega, by simp, ?_, by omega⟩
          · have : 128 ≤ 128 ^ (f + 1 + 1) := by rw [Nat.pow_succ]; have := pow_pos' (f + 1); omega
            omega
          · have e : i + 1 - i = 1 := by omega
            rw [e]
            simp [numF, h2]
        · rename_i h2
          obtain ⟨m, rfl, hm, hik, hk, hnum, hmp⟩ := ih (i + 1) _ l (by omega) h
          have hb := b.toNat_lt
          have hmp := hmp (by omega)
          refine ⟨b.toNat - 128 + 128 * m, ?_, ?_, by omega, by simp; omega, ?_, by omega⟩
          · rw [Nat.pow_succ, Nat.add_mul]
            generalize 128 ^ i = p
            rw [Nat.mul_comm 128 m, Nat.mul_assoc m 128 p, Nat.mul_comm p 128]
            omega
          · rw [Nat.pow_succ]; omega
          · have e : k - i = (k - (i + 1)) + 1 := by omega
            rw [e, List.take_succ_cons, ← hnum]
            have h3 : ¬ (b.toNat - 128 + 128 * m < 128) := by omega
            conv => lhs; unfold numF
            rw [if_neg h3]
            have e1 : (b.toNat - 128 + 128 * m) % 128 = b.toNat - 128 := by omega
            have e2 : (b.toNat - 128 + 128 * m) / 128 = m := by omega
            rw [e1, e2]
            have e3 : 128 + (b.toNat - 128) = b.toNat := by omega
            rw [e3]
            simp

/-- What is written is read. -/
theorem rdN_num (n : Nat) (more : List UInt8) (hn : n < 2 ^ 63) : rdN (numL n ++ more) = (n, (numL n).length, 0) := by
  have := rdL_num 8 0 0 n more rfl (by simpa using hn) (by omega)
  simpa [rdN, numL] using this

theorem rdN_front (n j : Nat) (hn : n < 2 ^ 63) (hj : j < (numL n).length) : rdN ((numL n).take j) = (0, 0, 6) :=
  rdL_front 8 0 0 n j rfl (by simpa using hn) hj

/-- What is read is written as just those bytes. -/
theorem rdN_one (s : List UInt8) (n k : Nat) (h : rdN s = (n, k, 0)) : n < 2 ^ 63 ∧ 0 < k ∧ k ≤ s.length ∧ numL n = s.take k := by
  obtain ⟨m, h1, h2, h3, h4, h5, _⟩ := rdL_one 8 0 0 s n k rfl h
  simp at h1 h4 h5
  subst h1
  exact ⟨by simpa using h2, h3, h4, h5⟩

theorem rdL_err (s : List UInt8) : ∀ i acc, (rdL i acc s).2.2 = 0 ∨ rdL i acc s = (0, 0, 6) ∨ rdL i acc s = (0, 0, 7) := by
  induction s with
  | nil => intro i acc; right; left; rfl
  | cons b l ih =>
    intro i acc
    simp only [rdL]
    split
    · right; right; rfl
    · split
      · left; rfl
      · exact ih _ _

/-- The three forms that an answer has. -/
theorem rdN_cases (s : List UInt8) : (∃ n k, rdN s = (n, k, 0) ∧ n < 2 ^ 63 ∧ 0 < k ∧ k ≤ s.length ∧ k ≤ 9 ∧ numL n = s.take k) ∨ rdN s = (0, 0, 6) ∨ rdN s = (0, 0, 7) := by
  rcases rdL_err s 0 0 with h | h | h
  · left
    obtain ⟨n, k, e⟩ : ∃ n k, rdN s = (n, k, 0) := ⟨(rdN s).1, (rdN s).2.1, by
      have : rdN s = ((rdN s).1, (rdN s).2.1, (rdN s).2.2) := rfl
      rw [this]; simp only [Prod.mk.injEq, true_and]; exact h⟩
    obtain ⟨a, b, c, d⟩ := rdN_one s n k e
    refine ⟨n, k, e, a, b, c, ?_, d⟩
    have := numL_len n
    rw [d, List.length_take] at this
    omega
  · right; left; exact h
  · right; right; exact h

/-- A text with its length ahead. -/
def textL (t : List UInt8) : List UInt8 := numL t.length ++ t

/-- What is read of a text of at most 'most' bytes: the text, how many bytes, the error. -/
def rdT (l : List UInt8) (most : Int) : List UInt8 × Nat × Nat :=
  if (rdN l).2.2 ≠ 0 then ([], 0, (rdN l).2.2)
  else if most < ((rdN l).1 : Int) then ([], 0, 7)
  else if l.length - (rdN l).2.1 < (rdN l).1 then ([], 0, 6)
  else ((l.drop (rdN l).2.1).take (rdN l).1, (rdN l).2.1 + (rdN l).1, 0)

theorem rdT_text (t more : List UInt8) (most : Int) (ht : t.length < 2 ^ 63) (hm : (t.length : Int) ≤ most) :
    rdT (textL t ++ more) most = (t, (textL t).length, 0) := by
  have h := rdN_num t.length (t ++ more) ht
  unfold rdT textL
  rw [List.append_assoc, h]
  have h2 : ¬ (most < (t.length : Int)) := by omega
  simp [h2]

theorem rdT_front (t : List UInt8) (most : Int) (j : Nat) (ht : t.length < 2 ^ 63) (hm : (t.length : Int) ≤ most) (hj : j < (textL t).length) :
    rdT ((textL t).take j) most = ([], 0, 6) := by
  unfold textL at hj ⊢
  by_cases h : j < (numL t.length).length
  · have e : (numL t.length ++ t).take j = (numL t.length).take j := by
      rw [List.take_append_of_le_length (by omega)]
    rw [e]
    unfold rdT
    rw [rdN_front _ _ ht h]
    simp
  · have e : (numL t.length ++ t).take j = numL t.length ++ t.take (j - (numL t.length).length) := by
      rw [List.take_append]
      rw [List.take_of_length_le (by omega)]
    rw [e]
    unfold rdT
    rw [rdN_num _ _ ht]
    have h2 : ¬ (most < (t.length : Int)) := by omega
    simp only [ne_eq, not_true, if_false, h2, List.length_append, List.length_take]
    rw [if_pos]
    simp only [List.length_append] at hj
    omega

/-- The three forms that an answer has. -/
theorem rdT_cases (s : List UInt8) (most : Int) : (∃ t k, rdT s most = (t, k, 0) ∧ (t.length : Int) ≤ most ∧ t.length < 2 ^ 63 ∧ k ≤ s.length ∧ textL t = s.take k ∧ k = (textL t).length) ∨ rdT s most = ([], 0, 6) ∨ rdT s most = ([], 0, 7) := by
  rcases rdN_cases s with ⟨n, k, h, h1, h2, h3, h4, h5⟩ | h | h
  · unfold rdT
    rw [h]
    simp only [ne_eq, not_true, if_false]
    split
    · right; right; rfl
    · split
      · right; left; rfl
      · left
        rename_i ha hb
        have hl : ((s.drop k).take n).length = n := by simp; omega
        refine ⟨_, _, rfl, by omega, by omega, by omega, ?_, ?_⟩
        · unfold textL
          rw [hl, h5, List.take_add]
        · unfold textL
          rw [List.length_append, hl, h5, List.length_take]
          omega
  · right; left; unfold rdT; rw [h]; simp
  · right; right; unfold rdT; rw [h]; simp

end Go.Proofs.YtbgchhgdlceceaaGreatDoor.Pack

namespace Go.Proofs.YtbgchhgdlceceaaGreatDoor.Crc

abbrev R := BitVec 32

def poly : R := 0xedb88320#32

/-- One step of the division. -/
def stp (r : R) : R := if r.getLsbD 0 then (r >>> 1) ^^^ poly else r >>> 1

def stps : Nat → R → R
  | 0, r => r
  | n + 1, r => stps n (stp r)

/-- A byte. -/
def byteStep (r : R) (b : UInt8) : R := stps 8 (r ^^^ BitVec.ofNat 32 b.toNat)

def crcL (l : List UInt8) : R := ~~~ (l.foldl byteStep 0xffffffff#32)

theorem stps_add (m n : Nat) (r : R) : stps (m + n) r = stps n (stps m r) := by
  induction m generalizing r with
  | zero => simp [stps]
  | succ m ih => rw [Nat.succ_add]; simp only [stps]; rw [ih]

/-- The bits of x from the lowest on, n of them. -/
def low : Nat → Nat → List Bool
  | 0, _ => []
  | n + 1, x => (x % 2 == 1) :: low n (x / 2)

end Go.Proofs.YtbgchhgdlceceaaGreatDoor.Crc

namespace Go.Proofs.YtbgchhgdlceceaaGreatDoor.Crc

end Go.Proofs.YtbgchhgdlceceaaGreatDoor.Crc

namespace Go.Proofs.YtbgchhgdlceceaaGreatDoor.Subj

abbrev Tok := List UInt8

/-- A text's pieces between dots. -/
def pieces : List UInt8 → List Tok
  | [] => [[]]
  | b :: l => if b = 46 then [] :: pieces l else
    match pieces l with
    | p :: ps => (b :: p) :: ps
    | [] => [[b]]

theorem pieces_ne (l : List UInt8) : pieces l ≠ [] := by
  cases l with
  | nil => simp [pieces]
  | cons b l =>
    unfold pieces
    split
    · simp
    · split <;> simp

theorem pieces_len (l : List UInt8) : (pieces l).length = l.count 46 + 1 := by
  induction l with
  | nil => simp [pieces]
  | cons b l ih =>
    unfold pieces
    by_cases h : b = 46
    · rw [if_pos h, List.length_cons, ih, h]; simp
    · rw [if_neg h, List.count_cons_of_ne (by simpa using h)]
      split
      · rename_i p ps e
        rw [e] at ih
        simpa using ih
      · rename_i e
        exact absurd e (pieces_ne l)

open Go.Lib in
theorem index_dot (l : List UInt8) : (index l [46] = -1 ∧ pieces l = [l]) ∨ ∃ i : Nat, index l [46] = i ∧ i < l.length ∧ pieces l = l.take i :: pieces (l.drop (i + 1)) := by
  induction l with
  | nil => left; exact ⟨by simp [index], rfl⟩
  | cons b l ih =>
    by_cases h : b = 46
    · right
      subst h
      refine ⟨0, by rw [index]; simp [List.isPrefixOf], by simp, ?_⟩
      simp [pieces]
    · have hp : ([46] : List UInt8).isPrefixOf (b :: l) = false := by simp [List.isPrefixOf, Ne.symm h]
      have hix : index (b :: l) [46] = if index l [46] == -1 then -1 else index l [46] + 1 := by rw [index, hp]; simp
      rcases ih with ⟨h1, h2⟩ | ⟨i, h1, h2, h3⟩
      · left
        refine ⟨by rw [hix, h1]; rfl, ?_⟩
        unfold pieces
        rw [if_neg h, h2]
      · right
        refine ⟨i + 1, ?_, by simp; omega, ?_⟩
        · rw [hix, h1, if_neg (by intro e; have := beq_iff_eq.1 e; omega)]; omega
        · conv => lhs; unfold pieces
          rw [if_neg h, h3]
          simp

open Go.Lib in
theorem splitK_pieces : ∀ (k : Nat) (l : List UInt8), (pieces l).length ≤ k + 1 → splitK [46] 0 k l = pieces l
  | 0, l, h => by
    rcases index_dot l with ⟨_, h2⟩ | ⟨i, _, _, h3⟩
    · rw [h2]; rfl
    · rw [h3] at h
      have := List.length_pos_iff.2 (pieces_ne (l.drop (i + 1)))
      rw [List.length_cons] at h; omega
  | k + 1, l, h => by
    unfold splitK
    rcases index_dot l with ⟨h1, h2⟩ | ⟨i, h1, h2, h3⟩
    · rw [h1, h2]; rfl
    · rw [h1, if_neg (by intro e; have := beq_iff_eq.1 e; omega), h3]
      have := splitK_pieces k (l.drop (i + 1)) (by rw [h3] at h; simpa using h)
      rw [show ((i : Int).toNat + ([46] : List UInt8).length) = i + 1 from rfl, this]
      rfl

/-- A byte of a token. -/
def byteOk (b : UInt8) : Bool := decide (33 ≤ b.toNat) && decide (b.toNat ≤ 126) && b.toNat != 42 && b.toNat != 62

def tokenOk (t : Tok) : Bool := t.all byteOk && decide (1 ≤ t.length) && decide (t.length ≤ 16)

/-- Are all tokens right? -/
def okPieces (wild : Bool) : List Tok → Bool
  | [] => true
  | t :: ts => ((wild && (t == [42] || (t == [62] && ts.isEmpty))) || tokenOk t) && okPieces wild ts

/-- What is wrong with a subject (wild: a filter): 0: nothing; 2: too many tokens; 3: a token. -/
def err (wild : Bool) (l : List UInt8) : Nat := if 8 < (pieces l).length then 2 else if okPieces wild (pieces l) then 0 else 3

/-- Does a filter take a row of tokens? -/
def takes : List Tok → List Tok → Bool
  | [], s => s.isEmpty
  | t :: f, s => if t == [62] then !s.isEmpty else match s with
    | [] => false
    | x :: s => (t == [42] || t == x) && takes f s

def overlap : List Tok → List Tok → Bool
  | [], g => g.isEmpty
  | _ :: _, [] => false
  | x :: f, y :: g => if x == [62] || y == [62] then true else (x == y || x == [42] || y == [42]) && overlap f g

end Go.Proofs.YtbgchhgdlceceaaGreatDoor.Subj
