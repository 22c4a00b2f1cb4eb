/- A disk of files in plain Lean: by their numbers. Over any program. -/
import Derived.Test.YtglgbidcmkncgaaHeap
namespace Go.Proofs.Ytglgbidcmkncgaa.Dsk

structure FileP where
  n : Int
  text : List UInt8
  sure : Nat

def total : List FileP → Nat
  | [] => 0
  | p :: r => p.text.length + total r

def getF : List FileP → Int → Option FileP
  | [], _ => none
  | p :: r, n => if p.n = n then some p else getF r n

def setF : List FileP → FileP → List FileP
  | [], _ => []
  | p :: r, q => if p.n = q.n then q :: r else p :: setF r q

def insF : List FileP → FileP → List FileP
  | [], q => [q]
  | p :: r, q => if q.n < p.n then q :: p :: r else p :: insF r q

def delF : List FileP → Int → List FileP
  | [], _ => []
  | p :: r, n => if p.n = n then r else p :: delF r n

def Sorted (A : List FileP) : Prop := A.Pairwise fun a b => a.n < b.n

section
variable {A : List FileP} {p q : FileP} {n k : Int}

theorem getF_n : ∀ {A : List FileP} {p : FileP}, getF A n = some p → p.n = n ∧ p ∈ A
  | [], _, h => by cases h
  | a :: r, p, h => by
    unfold getF at h
    split at h
    · rename_i e; simp only [Option.some.injEq] at h; subst h; exact ⟨e, by simp⟩
    · have := getF_n h; exact ⟨this.1, List.mem_cons_of_mem _ this.2⟩

theorem getF_none : ∀ {A : List FileP}, getF A n = none → ∀ p ∈ A, p.n ≠ n
  | [], _, _, h => by cases h
  | a :: r, h, p, hp => by
    unfold getF at h
    split at h
    · cases h
    · rename_i e
      rcases List.mem_cons.1 hp with rfl | hp
      · exact e
      · exact getF_none h p hp

theorem getF_mem : ∀ {A : List FileP} {p : FileP}, Sorted A → p ∈ A → getF A p.n = some p
  | a :: r, p, hs, hp => by
    obtain ⟨h1, h2⟩ := List.pairwise_cons.1 hs
    unfold getF
    rcases List.mem_cons.1 hp with rfl | hp
    · rw [if_pos rfl]
    · have := h1 p hp
      rw [if_neg (by omega)]
      exact getF_mem h2 hp

theorem getF_some_iff (hs : Sorted A) : getF A n = some p ↔ p ∈ A ∧ p.n = n :=
  ⟨fun h => ⟨(getF_n h).2, (getF_n h).1⟩, fun ⟨h, e⟩ => e ▸ getF_mem hs h⟩

/-! setF -/
theorem mem_setF : ∀ {A : List FileP} {q x : FileP}, Sorted A → x ∈ setF A q → x = q ∨ (x ∈ A ∧ x.n ≠ q.n)
  | [], _, _, _, h => by cases h
  | a :: r, q, x, hs, h => by
    obtain ⟨h1, h2⟩ := List.pairwise_cons.1 hs
    unfold setF at h
    split at h
    · rename_i e
      rcases List.mem_cons.1 h with rfl | h
      · exact .inl rfl
      · have := h1 x h; exact .inr ⟨List.mem_cons_of_mem _ h, by omega⟩
    · rename_i e
      rcases List.mem_cons.1 h with rfl | h
      · exact .inr ⟨by simp, e⟩
      · rcases mem_setF h2 h with h | ⟨h, e⟩
        · exact .inl h
        · exact .inr ⟨List.mem_cons_of_mem _ h, e⟩

theorem map_setF : ∀ (A : List FileP) (q : FileP), (setF A q).map (·.n) = A.map (·.n)
  | [], _ => rfl
  | a :: r, q => by
    unfold setF
    split
    · rename_i e; simp [e]
    · simp [map_setF r q]

theorem sorted_iff : Sorted A ↔ (A.map (·.n)).Pairwise (· < ·) := by
  unfold Sorted; rw [List.pairwise_map]

theorem sorted_setF (hs : Sorted A) (q : FileP) : Sorted (setF A q) := by
  rw [sorted_iff, map_setF, ← sorted_iff]; exact hs

theorem getF_setF : ∀ {A : List FileP} {q : FileP}, getF (setF A q) n = if n = q.n then (getF A n).map (fun _ => q) else getF A n
  | [], q => by simp [setF, getF]
  | a :: r, q => by
    have ih := getF_setF (A := r) (q := q)
    unfold setF
    by_cases e : a.n = q.n
    · rw [if_pos e]
      by_cases e2 : n = q.n
      · subst e2; simp [getF, e]
      · rw [if_neg e2]
        unfold getF
        rw [if_neg (fun h => e2 h.symm), if_neg (fun h => e2 (by rw [← h, e]))]
    · rw [if_neg e]
      unfold getF
      rw [ih]
      by_cases e3 : a.n = n
      · rw [if_pos e3, if_pos e3, if_neg (by omega)]
      · rw [if_neg e3, if_neg e3]

theorem len_setF : ∀ (A : List FileP) (q : FileP), (setF A q).length = A.length := fun A q => by
  have := congrArg List.length (map_setF A q); simpa using this

theorem total_setF : ∀ {A : List FileP} {p q : FileP}, Sorted A → getF A q.n = some p → total (setF A q) + p.text.length = total A + q.text.length
  | [], _, _, _, h => by cases h
  | a :: r, p, q, hs, h => by
    obtain ⟨h1, h2⟩ := List.pairwise_cons.1 hs
    unfold getF at h
    unfold setF
    split at h
    · rename_i e
      simp only [Option.some.injEq] at h; subst h
      rw [if_pos e]; simp only [total]; omega
    · rename_i e
      rw [if_neg e]
      have := total_setF h2 h
      simp only [total]; omega

theorem le_total : ∀ {A : List FileP} {p : FileP}, p ∈ A → p.text.length ≤ total A
  | a :: r, p, h => by
    simp only [total]
    rcases List.mem_cons.1 h with rfl | h
    · omega
    · have := le_total h; omega

/-! insF -/
theorem mem_insF : ∀ {A : List FileP} {q x : FileP}, x ∈ insF A q ↔ x = q ∨ x ∈ A
  | [], q, x => by simp [insF]
  | a :: r, q, x => by
    unfold insF
    split
    · simp
    · rw [List.mem_cons, mem_insF, List.mem_cons]
      constructor
      · rintro (h | h | h)
        · exact .inr (.inl h)
        · exact .inl h
        · exact .inr (.inr h)
      · rintro (h | h | h)
        · exact .inr (.inl h)
        · exact .inl h
        · exact .inr (.inr h)

theorem sorted_insF : ∀ {A : List FileP} {q : FileP}, Sorted A → (∀ p ∈ A, p.n ≠ q.n) → Sorted (insF A q)
  | [], q, _, _ => by simp [insF, Sorted]
  | a :: r, q, hs, hn => by
    obtain ⟨h1, h2⟩ := List.pairwise_cons.1 hs
    unfold insF
    split
    · rename_i e
      refine List.pairwise_cons.2 ⟨fun x hx => ?_, hs⟩
      rcases List.mem_cons.1 hx with rfl | hx
      · exact e
      · have := h1 x hx; omega
    · rename_i e
      refine List.pairwise_cons.2 ⟨fun x hx => ?_, sorted_insF h2 (fun p hp => hn p (List.mem_cons_of_mem _ hp))⟩
      have ha := hn a (by simp)
      rcases mem_insF.1 hx with rfl | hx
      · omega
      · exact h1 x hx

theorem len_insF : ∀ (A : List FileP) (q : FileP), (insF A q).length = A.length + 1
  | [], _ => rfl
  | a :: r, q => by
    unfold insF
    split
    · simp
    · simp [len_insF r q]

theorem total_insF : ∀ (A : List FileP) (q : FileP), total (insF A q) = total A + q.text.length
  | [], q => by simp [insF, total]
  | a :: r, q => by
    unfold insF
    split
    · simp only [total]; omega
    · simp only [total, total_insF r q]; omega

theorem getF_insF (hs : Sorted A) (q : FileP) (hn : ∀ p ∈ A, p.n ≠ q.n) : getF (insF A q) n = if n = q.n then some q else getF A n := by
  have hs2 := sorted_insF hs hn
  by_cases e : n = q.n
  · subst e; rw [if_pos rfl]; exact getF_mem hs2 (mem_insF.2 (.inl rfl))
  · rw [if_neg e]
    cases h : getF A n with
    | none =>
      cases h2 : getF (insF A q) n with
      | none => rfl
      | some x =>
        obtain ⟨e1, e2⟩ := getF_n h2
        rcases mem_insF.1 e2 with rfl | e2
        · exact absurd e1.symm e
        · exact absurd e1 (getF_none h x e2)
    | some x =>
      obtain ⟨e1, e2⟩ := getF_n h
      rw [← e1]
      exact getF_mem hs2 (mem_insF.2 (.inr e2))

/-! delF -/
theorem mem_delF : ∀ {A : List FileP} {x : FileP}, Sorted A → (x ∈ delF A n ↔ x ∈ A ∧ x.n ≠ n)
  | [], x, _ => by simp [delF]
  | a :: r, x, hs => by
    obtain ⟨h1, h2⟩ := List.pairwise_cons.1 hs
    unfold delF
    split
    · rename_i e
      rw [List.mem_cons]
      constructor
      · intro h; have := h1 x h; exact ⟨.inr h, by omega⟩
      · rintro ⟨rfl | h, e2⟩
        · exact absurd e e2
        · exact h
    · rename_i e
      rw [List.mem_cons, mem_delF h2, List.mem_cons]
      constructor
      · rintro (rfl | h)
        · exact ⟨.inl rfl, e⟩
        · exact ⟨.inr h.1, h.2⟩
      · rintro ⟨rfl | h, e2⟩
        · exact .inl rfl
        · exact .inr ⟨h, e2⟩

theorem sorted_delF : ∀ {A : List FileP}, Sorted A → Sorted (delF A n)
  | [], _ => by simp [delF, Sorted]
  | a :: r, hs => by
    obtain ⟨h1, h2⟩ := List.pairwise_cons.1 hs
    unfold delF
    split
    · exact h2
    · exact List.pairwise_cons.2 ⟨fun x hx => h1 x ((mem_delF h2).1 hx).1, sorted_delF h2⟩

theorem getF_delF (hs : Sorted A) : getF (delF A n) k = if k = n then none else getF A k := by
  have hs2 := sorted_delF (n := n) hs
  cases h : getF (delF A n) k with
  | none =>
    by_cases e : k = n
    · rw [if_pos e]
    · rw [if_neg e]
      cases h2 : getF A k with
      | none => rfl
      | some x =>
        obtain ⟨e1, e2⟩ := getF_n h2
        exact absurd e1 (getF_none h x ((mem_delF hs).2 ⟨e2, by omega⟩))
  | some x =>
    obtain ⟨e1, e2⟩ := getF_n h
    have h3 := (mem_delF hs).1 e2
    rw [if_neg (by omega), ← e1, getF_mem hs h3.1]

theorem total_delF : ∀ {A : List FileP} {p : FileP}, Sorted A → getF A n = some p → total (delF A n) + p.text.length = total A
  | [], _, _, h => by cases h
  | a :: r, p, hs, h => by
    obtain ⟨h1, h2⟩ := List.pairwise_cons.1 hs
    unfold getF at h
    unfold delF
    split at h
    · rename_i e
      simp only [Option.some.injEq] at h; subst h
      rw [if_pos e]; simp only [total]; omega
    · rename_i e
      rw [if_neg e]
      have := total_delF h2 h
      simp only [total]; omega

theorem len_delF : ∀ {A : List FileP} {p : FileP}, Sorted A → getF A n = some p → (delF A n).length + 1 = A.length
  | [], _, _, h => by cases h
  | a :: r, p, hs, h => by
    obtain ⟨h1, h2⟩ := List.pairwise_cons.1 hs
    unfold getF at h
    unfold delF
    split at h
    · rename_i e; rw [if_pos e]; rfl
    · rename_i e
      rw [if_neg e]
      have := len_delF h2 h
      simp only [List.length_cons]; omega
end

/-! what the calls answer -/
def appD (room : Int) (A : List FileP) (n : Int) (s : List UInt8) : List FileP × Nat :=
  if n < 0 ∨ 1099511627776 < n then (A, 1)
  else if room - total A < s.length then (A, 8)
  else match getF A n with
    | some p => (setF A ⟨n, p.text ++ s, p.sure⟩, 0)
    | none => if A.length = 20 then (A, 8) else (insF A ⟨n, s, 0⟩, 0)

def cutD (A : List FileP) (n size : Int) : List FileP × Nat :=
  match getF A n with
  | some p => if size < 0 ∨ p.text.length < size then (A, 1) else (setF A ⟨n, p.text.take size.toNat, size.toNat⟩, 0)
  | none => (A, 4)

def syncD (A : List FileP) (n : Int) : List FileP × Nat :=
  match getF A n with
  | some p => (setF A ⟨n, p.text, p.text.length⟩, 0)
  | none => (A, 4)

def removeD (A : List FileP) (n : Int) : List FileP × Nat :=
  match getF A n with
  | some _ => (delF A n, 0)
  | none => (A, 4)

def readD (A : List FileP) (n : Int) : List UInt8 × Nat :=
  match getF A n with
  | some p => (p.text, 0)
  | none => ([], 4)

def keptF (keep : Nat) (p : FileP) : FileP := ⟨p.n, p.text.take (p.sure + min keep (p.text.length - p.sure)), p.sure + min keep (p.text.length - p.sure)⟩
def crashD (A : List FileP) (keep : Nat) : List FileP := A.map (keptF keep)

/-- What is always so of a disk's files. -/
structure RightD (room : Int) (A : List FileP) : Prop where
  sorted : Sorted A
  few : A.length ≤ 20
  fits : (total A : Int) ≤ room
  small : room ≤ 65536
  sure : ∀ p ∈ A, p.sure ≤ p.text.length
  num : ∀ p ∈ A, 0 ≤ p.n ∧ p.n ≤ 1099511627776

theorem RightD.len {room : Int} {A : List FileP} (h : RightD room A) {p : FileP} (hp : p ∈ A) : p.text.length ≤ 65536 := by
  have h1 := h.fits; have h2 := h.small; have h3 := le_total hp; omega

theorem RightD.set {room : Int} {A : List FileP} (h : RightD room A) {p : FileP} {n : Int} (hp : getF A n = some p) (q : FileP) (hn : q.n = n) (hs : q.sure ≤ q.text.length) (hf : (total A : Int) - p.text.length + q.text.length ≤ room) : RightD room (setF A q) := by
  subst hn
  have ht := total_setF h.sorted hp
  refine ⟨sorted_setF h.sorted q, by rw [len_setF]; exact h.few, by omega, h.small, fun x hx => ?_, fun x hx => ?_⟩
  · rcases mem_setF h.sorted hx with rfl | ⟨hx, _⟩
    · exact hs
    · exact h.sure x hx
  · rcases mem_setF h.sorted hx with rfl | ⟨hx, _⟩
    · have := h.num p (getF_n hp).2; rw [(getF_n hp).1] at this; exact this
    · exact h.num x hx

theorem RightD.ins {room : Int} {A : List FileP} (h : RightD room A) {n : Int} {s : List UInt8} (hp : getF A n = none) (h0 : 0 ≤ n) (h1 : n ≤ 1099511627776) (h20 : A.length ≠ 20) (hf : (total A : Int) + s.length ≤ room) : RightD room (insF A ⟨n, s, 0⟩) := by
  have hn := getF_none hp
  refine ⟨sorted_insF h.sorted hn, by rw [len_insF]; have := h.few; omega, by rw [total_insF]; simp only; omega, h.small, fun x hx => ?_, fun x hx => ?_⟩
  · rcases mem_insF.1 hx with rfl | hx
    · exact Nat.zero_le _
    · exact h.sure x hx
  · rcases mem_insF.1 hx with rfl | hx
    · exact ⟨h0, h1⟩
    · exact h.num x hx

theorem RightD.del {room : Int} {A : List FileP} (h : RightD room A) {p : FileP} {n : Int} (hp : getF A n = some p) : RightD room (delF A n) := by
  have ht := total_delF h.sorted hp
  have hl := len_delF h.sorted hp
  have hf := h.fits; have hw := h.few
  exact ⟨sorted_delF h.sorted, by omega, by omega, h.small, fun x hx => h.sure x ((mem_delF h.sorted).1 hx).1, fun x hx => h.num x ((mem_delF h.sorted).1 hx).1⟩

end Go.Proofs.Ytglgbidcmkncgaa.Dsk
