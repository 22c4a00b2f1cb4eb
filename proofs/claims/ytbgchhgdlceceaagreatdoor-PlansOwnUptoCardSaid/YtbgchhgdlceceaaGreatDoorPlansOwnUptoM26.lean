/- Parts of the proof, joined: A disk of files in plain Lean: by their numbers. Over any program.; A log on a disk in plain Lean: what Open tells and leaves, Append, Rewrite. No program here. -/
import Derived.Test.YtbgchhgdlceceaaGreatDoorPlansOwnUptoM25
namespace Go.Proofs.YtbgchhgdlceceaaGreatDoor.Dsk

structure FileP where
  n : Int
  text : List UInt8
  sure : Nat

def total : List FileP → Nat
  | [] => 0
  | p :: r => p.text.length + total r

def getF : List FileP → Int → Option FileP
  | [], _ => none
  | p :: r, n => if p.n = n then some p else getF r n

def setF : List FileP → FileP → List FileP
  | [], _ => []
  | p :: r, q => if p.n = q.n then q :: r else p :: setF r q

def insF : List FileP → FileP → List FileP
  | [], q => [q]
  | p :: r, q => if q.n < p.n then q :: p :: r else p :: insF r q

def delF : List FileP → Int → List FileP
  | [], _ => []
  | p :: r, n => if p.n = n then r else p :: delF r n

def Sorted (A : List FileP) : Prop := A.Pairwise fun a b => a.n < b.n

section
variable {A : List FileP} {p q : FileP} {n k : Int}

theorem getF_n : ∀ {A : List FileP} {p : FileP}, getF A n = some p → p.n = n ∧ p ∈ A
  | [], _, h => by cases h
  | a :: r, p, h => by
    unfold getF at h
    split at h
    · rename_i e; simp only [Option.some.injEq] at h; subst h; exact ⟨e, by simp⟩
    · have := getF_n h; exact ⟨this.1, List.mem_cons_of_mem _ this.2⟩

theorem getF_none : ∀ {A : List FileP}, getF A n = none → ∀ p ∈ A, p.n ≠ n
  | [], _, _, h => by cases h
  | a :: r, h, p, hp => by
    unfold getF at h
    split at h
    · cases h
    · rename_i e
      rcases List.mem_cons.1 hp with rfl | hp
      · exact e
      · exact getF_none h p hp

theorem getF_mem : ∀ {A : List FileP} {p : FileP}, Sorted A → p ∈ A → getF A p.n = some p
  | a :: r, p, hs, hp => by
    obtain ⟨h1, h2⟩ := List.pairwise_cons.1 hs
    unfold getF
    rcases List.mem_cons.1 hp with rfl | hp
    · rw [if_pos rfl]
    · have := h1 p hp
      rw [if_neg (by omega)]
      exact getF_mem h2 hp

/-! setF -/
theorem mem_setF : ∀ {A : List FileP} {q x : FileP}, Sorted A → x ∈ setF A q → x = q ∨ (x ∈ A ∧ x.n ≠ q.n)
  | [], _, _, _, h => by cases h
  | a :: r, q, x, hs, h => by
    obtain ⟨h1, h2⟩ := List.pairwise_cons.1 hs
    unfold setF at h
    split at h
    · rename_i e
      rcases List.mem_cons.1 h with rfl | h
      · exact .inl rfl
      · have := h1 x h; exact .inr ⟨List.mem_cons_of_mem _ h, by omega⟩
    · rename_i e
      rcases List.mem_cons.1 h with rfl | h
      · exact .inr ⟨by simp, e⟩
      · rcases mem_setF h2 h with h | ⟨h, e⟩
        · exact .inl h
        · exact .inr ⟨List.mem_cons_of_mem _ h, e⟩

theorem map_setF : ∀ (A : List FileP) (q : FileP), (setF A q).map (·.n) = A.map (·.n)
  | [], _ => rfl
  | a :: r, q => by
    unfold setF
    split
    · rename_i e; simp [e]
    · simp [map_setF r q]

theorem sorted_iff : Sorted A ↔ (A.map (·.n)).Pairwise (· < ·) := by
  unfold Sorted; rw [List.pairwise_map]

theorem sorted_setF (hs : Sorted A) (q : FileP) : Sorted (setF A q) := by
  rw [sorted_iff, map_setF, ← sorted_iff]; exact hs

theorem getF_setF : ∀ {A : List FileP} {q : FileP}, getF (setF A q) n = if n = q.n then (getF A n).map (fun _ => q) else getF A n
  | [], q => by simp [setF, getF]
  | a :: r, q => by
    have ih := getF_setF (A := r) (q := q)
    unfold setF
    by_cases e : a.n = q.n
    · rw [if_pos e]
      by_cases e2 : n = q.n
      · subst e2; simp [getF, e]
      · rw [if_neg e2]
        unfold getF
        rw [if_neg (fun h => e2 h.symm), if_neg (fun h => e2 (by rw [← h, e]))]
    · rw [if_neg e]
      unfold getF
      rw [ih]
      by_cases e3 : a.n = n
      · rw [if_pos e3, if_pos e3, if_neg (by omega)]
      · rw [if_neg e3, if_neg e3]

theorem len_setF : ∀ (A : List FileP) (q : FileP), (setF A q).length = A.length := fun A q => by
  have := congrArg List.length (map_setF A q); simpa using this

theorem total_setF : ∀ {A : List FileP} {p q : FileP}, Sorted A → getF A q.n = some p → total (setF A q) + p.text.length = total A + q.text.length
  | [], _, _, _, h => by cases h
  | a :: r, p, q, hs, h => by
    obtain ⟨h1, h2⟩ := List.pairwise_cons.1 hs
    unfold getF at h
    unfold setF
    split at h
    · rename_i e
      simp only [Option.some.injEq] at h; subst h
      rw [if_pos e]; simp only [total]; omega
    · rename_i e
      rw [if_neg e]
      have := total_setF h2 h
      simp only [total]; omega

theorem le_total : ∀ {A : List FileP} {p : FileP}, p ∈ A → p.text.length ≤ total A
  | a :: r, p, h => by
    simp only [total]
    rcases List.mem_cons.1 h with rfl | h
    · omega
    · have := le_total h; omega

/-! insF -/
/-! delF -/
theorem mem_delF : ∀ {A : List FileP} {x : FileP}, Sorted A → (x ∈ delF A n ↔ x ∈ A ∧ x.n ≠ n)
  | [], x, _ => by simp [delF]
  | a :: r, x, hs => by
    obtain ⟨h1, h2⟩ := List.pairwise_cons.1 hs
    unfold delF
    split
    · rename_i e
      rw [List.mem_cons]
      constructor
      · intro h; have := h1 x h; exact ⟨.inr h, by omega⟩
      · rintro ⟨rfl | h, e2⟩
        · exact absurd e e2
        · exact h
    · rename_i e
      rw [List.mem_cons, mem_delF h2, List.mem_cons]
      constructor
      · rintro (rfl | h)
        · exact ⟨.inl rfl, e⟩
        · exact ⟨.inr h.1, h.2⟩
      · rintro ⟨rfl | h, e2⟩
        · exact .inl rfl
        · exact .inr ⟨h, e2⟩

theorem sorted_delF : ∀ {A : List FileP}, Sorted A → Sorted (delF A n)
  | [], _ => by simp [delF, Sorted]
  | a :: r, hs => by
    obtain ⟨h1, h2⟩ := List.pairwise_cons.1 hs
    unfold delF
    split
    · exact h2
    · exact List.pairwise_cons.2 ⟨fun x hx => h1 x ((mem_delF h2).1 hx).1, sorted_delF h2⟩

theorem getF_delF (hs : Sorted A) : getF (delF A n) k = if k = n then none else getF A k := by
  have hs2 := sorted_delF (n := n) hs
  cases h : getF (delF A n) k with
  | none =>
    by_cases e : k = n
    · rw [if_pos e]
    · rw [if_neg e]
      cases h2 : getF A k with
      | none => rfl
      | some x =>
        obtain ⟨e1, e2⟩ := getF_n h2
        exact absurd e1 (getF_none h x ((mem_delF hs).2 ⟨e2, by omega⟩))
  | some x =>
    obtain ⟨e1, e2⟩ := getF_n h
    have h3 := (mem_delF hs).1 e2
    rw [if_neg (by omega), ← e1, getF_mem hs h3.1]

theorem total_delF : ∀ {A : List FileP} {p : FileP}, Sorted A → getF A n = some p → total (delF A n) + p.text.length = total A
  | [], _, _, h => by cases h
  | a :: r, p, hs, h => by
    obtain ⟨h1, h2⟩ := List.pairwise_cons.1 hs
    unfold getF at h
    unfold delF
    split at h
    · rename_i e
      simp only [Option.some.injEq] at h; subst h
      rw [if_pos e]; simp only [total]; omega
    · rename_i e
      rw [if_neg e]
      have := total_delF h2 h
      simp only [total]; omega

theorem len_delF : ∀ {A : List FileP} {p : FileP}, Sorted A → getF A n = some p → (delF A n).length + 1 = A.length
  | [], _, _, h => by cases h
  | a :: r, p, hs, h => by
    obtain ⟨h1, h2⟩ := List.pairwise_cons.1 hs
    unfold getF at h
    unfold delF
    split at h
    · rename_i e; rw [if_pos e]; rfl
    · rename_i e
      rw [if_neg e]
      have := len_delF h2 h
      simp only [List.length_cons]; omega
end

/-! what the calls answer -/
def appD (room : Int) (A : List FileP) (n : Int) (s : List UInt8) : List FileP × Nat :=
  if n < 0 ∨ 1099511627776 < n then (A, 1)
  else if room - total A < s.length then (A, 8)
  else match getF A n with
    | some p => (setF A ⟨n, p.text ++ s, p.sure⟩, 0)
    | none => if A.length = 20 then (A, 8) else (insF A ⟨n, s, 0⟩, 0)

def cutD (A : List FileP) (n size : Int) : List FileP × Nat :=
  match getF A n with
  | some p => if size < 0 ∨ p.text.length < size then (A, 1) else (setF A ⟨n, p.text.take size.toNat, size.toNat⟩, 0)
  | none => (A, 4)

def syncD (A : List FileP) (n : Int) : List FileP × Nat :=
  match getF A n with
  | some p => (setF A ⟨n, p.text, p.text.length⟩, 0)
  | none => (A, 4)

def removeD (A : List FileP) (n : Int) : List FileP × Nat :=
  match getF A n with
  | some _ => (delF A n, 0)
  | none => (A, 4)

def readD (A : List FileP) (n : Int) : List UInt8 × Nat :=
  match getF A n with
  | some p => (p.text, 0)
  | none => ([], 4)

def keptF (keep : Nat) (p : FileP) : FileP := ⟨p.n, p.text.take (p.sure + min keep (p.text.length - p.sure)), p.sure + min keep (p.text.length - p.sure)⟩
def crashD (A : List FileP) (keep : Nat) : List FileP := A.map (keptF keep)

/-- What is always so of a disk's files. -/
structure RightD (room : Int) (A : List FileP) : Prop where
  sorted : Sorted A
  few : A.length ≤ 20
  fits : (total A : Int) ≤ room
  small : room ≤ 65536
  sure : ∀ p ∈ A, p.sure ≤ p.text.length
  num : ∀ p ∈ A, 0 ≤ p.n ∧ p.n ≤ 1099511627776

theorem RightD.len {room : Int} {A : List FileP} (h : RightD room A) {p : FileP} (hp : p ∈ A) : p.text.length ≤ 65536 := by
  have h1 := h.fits; have h2 := h.small; have h3 := le_total hp; omega

theorem RightD.set {room : Int} {A : List FileP} (h : RightD room A) {p : FileP} {n : Int} (hp : getF A n = some p) (q : FileP) (hn : q.n = n) (hs : q.sure ≤ q.text.length) (hf : (total A : Int) - p.text.length + q.text.length ≤ room) : RightD room (setF A q) := by
  subst hn
  have ht := total_setF h.sorted hp
  refine ⟨sorted_setF h.sorted q, by rw [len_setF]; exact h.few, by omega, h.small, fun x hx => ?_, fun x hx => ?_⟩
  · rcases mem_setF h.sorted hx with rfl | ⟨hx, _⟩
    · exact hs
    · exact h.sure x hx
  · rcases mem_setF h.sorted hx with rfl | ⟨hx, _⟩
    · have := h.num p (getF_n hp).2; rw [(getF_n hp).1] at this; exact this
    · exact h.num x hx

theorem RightD.del {room : Int} {A : List FileP} (h : RightD room A) {p : FileP} {n : Int} (hp : getF A n = some p) : RightD room (delF A n) := by
  have ht := total_delF h.sorted hp
  have hl := len_delF h.sorted hp
  have hf := h.fits; have hw := h.few
  exact ⟨sorted_delF h.sorted, by omega, by omega, h.small, fun x hx => h.sure x ((mem_delF h.sorted).1 hx).1, fun x hx => h.num x ((mem_delF h.sorted).1 hx).1⟩

end Go.Proofs.YtbgchhgdlceceaaGreatDoor.Dsk

namespace Go.Proofs.YtbgchhgdlceceaaGreatDoor.Log
open Dsk Rec

/-- A block's records, and how many bytes they have. -/
def scanF : Nat → List UInt8 → List Rc × Nat
  | 0, _ => ([], 0)
  | f + 1, s => if s = [] then ([], 0) else if (decL s).2.2 ≠ 0 then ([], 0)
    else ((decL s).1 :: (scanF f (s.drop (decL s).2.1)).1, (decL s).2.1 + (scanF f (s.drop (decL s).2.1)).2)

def scan (s : List UInt8) : List Rc × Nat := scanF s.length s

def openD : List FileP → List Rc × List FileP
  | [] => ([], [])
  | p :: r =>
    if (scan p.text).2 < p.text.length then ((scan p.text).1, [⟨p.n, p.text.take (scan p.text).2, (scan p.text).2⟩])
    else ((scan p.text).1 ++ (openD r).1, p :: (openD r).2)

/-- The last block and its bytes. -/
def lastD (A : List FileP) : Int × Nat := match A.getLast? with
  | none => (-1, 0)
  | some p => (p.n, p.text.length)

def putD (room size : Int) (A : List FileP) (s : List UInt8) : List FileP × Nat :=
  match A.getLast? with
  | none => appD room A 0 s
  | some p => if 0 < p.text.length ∧ size < p.text.length + s.length then appD room (syncD A p.n).1 (p.n + 1) s else appD room A p.n s

def logD (room size : Int) (A : List FileP) (r : Rc) : List FileP × Nat :=
  if recErr r ≠ 0 then (A, recErr r) else putD room size A (codedL r)

def textsL (rs : List Rc) : List UInt8 := rs.flatMap codedL

end Go.Proofs.YtbgchhgdlceceaaGreatDoor.Log
