/- Parts of the proof, joined: A disk of files in plain Lean: by their numbers. Over any program.; The first paper for which a predicate holds: slices.IndexFunc, walked.; A disk in memory: its three cells, the map of its files, each file's two cells. -/
import Derived.Test.YtbgchhgdlceceaaGreatDoorLogPlaysUptoM1
import Derived.Test.YtbgchhgdlceceaaGreatDoorProg
import Derived.Shelf.SlicesQ.Load
import Derived.Deep.LoopGhost
import Derived.Lib.SlBy
import Derived.Maps.OwnSet
import Derived.Maps.RangeWalk
import Derived.Test.YtbgchhgdlceceaaGreatDoorChecked
namespace Go.Proofs.YtbgchhgdlceceaaGreatDoor.Dsk

structure FileP where
  n : Int
  text : List UInt8
  sure : Nat

def total : List FileP → Nat
  | [] => 0
  | p :: r => p.text.length + total r

def getF : List FileP → Int → Option FileP
  | [], _ => none
  | p :: r, n => if p.n = n then some p else getF r n

def setF : List FileP → FileP → List FileP
  | [], _ => []
  | p :: r, q => if p.n = q.n then q :: r else p :: setF r q

def insF : List FileP → FileP → List FileP
  | [], q => [q]
  | p :: r, q => if q.n < p.n then q :: p :: r else p :: insF r q

def delF : List FileP → Int → List FileP
  | [], _ => []
  | p :: r, n => if p.n = n then r else p :: delF r n

def Sorted (A : List FileP) : Prop := A.Pairwise fun a b => a.n < b.n

section
variable {A : List FileP} {p q : FileP} {n k : Int}

theorem getF_n : ∀ {A : List FileP} {p : FileP}, getF A n = some p → p.n = n ∧ p ∈ A
  | [], _, h => by cases h
  | a :: r, p, h => by
    unfold getF at h
    split at h
    · rename_i e; simp only [Option.some.injEq] at h; subst h; exact ⟨e, by simp⟩
    · have := getF_n h; exact ⟨this.1, List.mem_cons_of_mem _ this.2⟩

theorem getF_none : ∀ {A : List FileP}, getF A n = none → ∀ p ∈ A, p.n ≠ n
  | [], _, _, h => by cases h
  | a :: r, h, p, hp => by
    unfold getF at h
    split at h
    · cases h
    · rename_i e
      rcases List.mem_cons.1 hp with rfl | hp
      · exact e
      · exact getF_none h p hp

theorem getF_mem : ∀ {A : List FileP} {p : FileP}, Sorted A → p ∈ A → getF A p.n = some p
  | a :: r, p, hs, hp => by
    obtain ⟨h1, h2⟩ := List.pairwise_cons.1 hs
    unfold getF
    rcases List.mem_cons.1 hp with rfl | hp
    · rw [if_pos rfl]
    · have := h1 p hp
      rw [if_neg (by omega)]
      exact getF_mem h2 hp

/-! setF -/
theorem mem_setF : ∀ {A : List FileP} {q x : FileP}, Sorted A → x ∈ setF A q → x = q ∨ (x ∈ A ∧ x.n ≠ q.n)
  | [], _, _, _, h => by cases h
  | a :: r, q, x, hs, h => by
    obtain ⟨h1, h2⟩ := List.pairwise_cons.1 hs
    unfold setF at h
    split at h
    · rename_i e
      rcases List.mem_cons.1 h with rfl | h
      · exact .inl rfl
      · have := h1 x h; exact .inr ⟨List.mem_cons_of_mem _ h, by omega⟩
    · rename_i e
      rcases List.mem_cons.1 h with rfl | h
      · exact .inr ⟨by simp, e⟩
      · rcases mem_setF h2 h with h | ⟨h, e⟩
        · exact .inl h
        · exact .inr ⟨List.mem_cons_of_mem _ h, e⟩

theorem map_setF : ∀ (A : List FileP) (q : FileP), (setF A q).map (·.n) = A.map (·.n)
  | [], _ => rfl
  | a :: r, q => by
    unfold setF
    split
    · rename_i e; simp [e]
    · simp [map_setF r q]

theorem sorted_iff : Sorted A ↔ (A.map (·.n)).Pairwise (· < ·) := by
  unfold Sorted; rw [List.pairwise_map]

theorem sorted_setF (hs : Sorted A) (q : FileP) : Sorted (setF A q) := by
  rw [sorted_iff, map_setF, ← sorted_iff]; exact hs

theorem getF_setF : ∀ {A : List FileP} {q : FileP}, getF (setF A q) n = if n = q.n then (getF A n).map (fun _ => q) else getF A n
  | [], q => by simp [setF, getF]
  | a :: r, q => by
    have ih := getF_setF (A := r) (q := q)
    unfold setF
    by_cases e : a.n = q.n
    · rw [if_pos e]
      by_cases e2 : n = q.n
      · subst e2; simp [getF, e]
      · rw [if_neg e2]
        unfold getF
        rw [if_neg (fun h => e2 h.symm), if_neg (fun h => e2 (by rw [← h, e]))]
    · rw [if_neg e]
      unfold getF
      rw [ih]
      by_cases e3 : a.n = n
      · rw [if_pos e3, if_pos e3, if_neg (by omega)]
      · rw [if_neg e3, if_neg e3]

theorem len_setF : ∀ (A : List FileP) (q : FileP), (setF A q).length = A.length := fun A q => by
  have := congrArg List.length (map_setF A q); simpa using this

theorem total_setF : ∀ {A : List FileP} {p q : FileP}, Sorted A → getF A q.n = some p → total (setF A q) + p.text.length = total A + q.text.length
  | [], _, _, _, h => by cases h
  | a :: r, p, q, hs, h => by
    obtain ⟨h1, h2⟩ := List.pairwise_cons.1 hs
    unfold getF at h
    unfold setF
    split at h
    · rename_i e
      simp only [Option.some.injEq] at h; subst h
      rw [if_pos e]; simp only [total]; omega
    · rename_i e
      rw [if_neg e]
      have := total_setF h2 h
      simp only [total]; omega

theorem le_total : ∀ {A : List FileP} {p : FileP}, p ∈ A → p.text.length ≤ total A
  | a :: r, p, h => by
    simp only [total]
    rcases List.mem_cons.1 h with rfl | h
    · omega
    · have := le_total h; omega

/-! insF -/
theorem mem_insF : ∀ {A : List FileP} {q x : FileP}, x ∈ insF A q ↔ x = q ∨ x ∈ A
  | [], q, x => by simp [insF]
  | a :: r, q, x => by
    unfold insF
    split
    · simp
    · rw [List.mem_cons, mem_insF, List.mem_cons]
      constructor
      · rintro (h | h | h)
        · exact .inr (.inl h)
        · exact .inl h
        · exact .inr (.inr h)
      · rintro (h | h | h)
        · exact .inr (.inl h)
        · exact .inl h
        · exact .inr (.inr h)

theorem sorted_insF : ∀ {A : List FileP} {q : FileP}, Sorted A → (∀ p ∈ A, p.n ≠ q.n) → Sorted (insF A q)
  | [], q, _, _ => by simp [insF, Sorted]
  | a :: r, q, hs, hn => by
    obtain ⟨h1, h2⟩ := List.pairwise_cons.1 hs
    unfold insF
    split
    · rename_i e
      refine List.pairwise_cons.2 ⟨fun x hx => ?_, hs⟩
      rcases List.mem_cons.1 hx with rfl | hx
      · exact e
      · have := h1 x hx; omega
    · rename_i e
      refine List.pairwise_cons.2 ⟨fun x hx => ?_, sorted_insF h2 (fun p hp => hn p (List.mem_cons_of_mem _ hp))⟩
      have ha := hn a (by simp)
      rcases mem_insF.1 hx with rfl | hx
      · omega
      · exact h1 x hx

theorem len_insF : ∀ (A : List FileP) (q : FileP), (insF A q).length = A.length + 1
  | [], _ => rfl
  | a :: r, q => by
    unfold insF
    split
    · simp
    · simp [len_insF r q]

theorem total_insF : ∀ (A : List FileP) (q : FileP), total (insF A q) = total A + q.text.length
  | [], q => by simp [insF, total]
  | a :: r, q => by
    unfold insF
    split
    · simp only [total]; omega
    · simp only [total, total_insF r q]; omega

theorem getF_insF (hs : Sorted A) (q : FileP) (hn : ∀ p ∈ A, p.n ≠ q.n) : getF (insF A q) n = if n = q.n then some q else getF A n := by
  have hs2 := sorted_insF hs hn
  by_cases e : n = q.n
  · subst e; rw [if_pos rfl]; exact getF_mem hs2 (mem_insF.2 (.inl rfl))
  · rw [if_neg e]
    cases h : getF A n with
    | none =>
      cases h2 : getF (insF A q) n with
      | none => rfl
      | some x =>
        obtain ⟨e1, e2⟩ := getF_n h2
        rcases mem_insF.1 e2 with rfl | e2
        · exact absurd e1.symm e
        · exact absurd e1 (getF_none h x e2)
    | some x =>
      obtain ⟨e1, e2⟩ := getF_n h
      rw [← e1]
      exact getF_mem hs2 (mem_insF.2 (.inr e2))

/-! delF -/
theorem mem_delF : ∀ {A : List FileP} {x : FileP}, Sorted A → (x ∈ delF A n ↔ x ∈ A ∧ x.n ≠ n)
  | [], x, _ => by simp [delF]
  | a :: r, x, hs => by
    obtain ⟨h1, h2⟩ := List.pairwise_cons.1 hs
    unfold delF
    split
    · rename_i e
      rw [List.mem_cons]
      constructor
      · intro h; have := h1 x h; exact ⟨.inr h, by omega⟩
      · rintro ⟨rfl | h, e2⟩
        · exact absurd e e2
        · exact h
    · rename_i e
      rw [List.mem_cons, mem_delF h2, List.mem_cons]
      constructor
      · rintro (rfl | h)
        · exact ⟨.inl rfl, e⟩
        · exact ⟨.inr h.1, h.2⟩
      · rintro ⟨rfl | h, e2⟩
        · exact .inl rfl
        · exact .inr ⟨h, e2⟩

theorem sorted_delF : ∀ {A : List FileP}, Sorted A → Sorted (delF A n)
  | [], _ => by simp [delF, Sorted]
  | a :: r, hs => by
    obtain ⟨h1, h2⟩ := List.pairwise_cons.1 hs
    unfold delF
    split
    · exact h2
    · exact List.pairwise_cons.2 ⟨fun x hx => h1 x ((mem_delF h2).1 hx).1, sorted_delF h2⟩

theorem getF_delF (hs : Sorted A) : getF (delF A n) k = if k = n then none else getF A k := by
  have hs2 := sorted_delF (n := n) hs
  cases h : getF (delF A n) k with
  | none =>
    by_cases e : k = n
    · rw [if_pos e]
    · rw [if_neg e]
      cases h2 : getF A k with
      | none => rfl
      | some x =>
        obtain ⟨e1, e2⟩ := getF_n h2
        exact absurd e1 (getF_none h x ((mem_delF hs).2 ⟨e2, by omega⟩))
  | some x =>
    obtain ⟨e1, e2⟩ := getF_n h
    have h3 := (mem_delF hs).1 e2
    rw [if_neg (by omega), ← e1, getF_mem hs h3.1]

theorem total_delF : ∀ {A : List FileP} {p : FileP}, Sorted A → getF A n = some p → total (delF A n) + p.text.length = total A
  | [], _, _, h => by cases h
  | a :: r, p, hs, h => by
    obtain ⟨h1, h2⟩ := List.pairwise_cons.1 hs
    unfold getF at h
    unfold delF
    split at h
    · rename_i e
      simp only [Option.some.injEq] at h; subst h
      rw [if_pos e]; simp only [total]; omega
    · rename_i e
      rw [if_neg e]
      have := total_delF h2 h
      simp only [total]; omega

theorem len_delF : ∀ {A : List FileP} {p : FileP}, Sorted A → getF A n = some p → (delF A n).length + 1 = A.length
  | [], _, _, h => by cases h
  | a :: r, p, hs, h => by
    obtain ⟨h1, h2⟩ := List.pairwise_cons.1 hs
    unfold getF at h
    unfold delF
    split at h
    · rename_i e; rw [if_pos e]; rfl
    · rename_i e
      rw [if_neg e]
      have := len_delF h2 h
      simp only [List.length_cons]; omega
end

/-! what the calls answer -/
def appD (room : Int) (A : List FileP) (n : Int) (s : List UInt8) : List FileP × Nat :=
  if n < 0 ∨ 1099511627776 < n then (A, 1)
  else if room - total A < s.length then (A, 8)
  else match getF A n with
    | some p => (setF A ⟨n, p.text ++ s, p.sure⟩, 0)
    | none => if A.length = 20 then (A, 8) else (insF A ⟨n, s, 0⟩, 0)

def cutD (A : List FileP) (n size : Int) : List FileP × Nat :=
  match getF A n with
  | some p => if size < 0 ∨ p.text.length < size then (A, 1) else (setF A ⟨n, p.text.take size.toNat, size.toNat⟩, 0)
  | none => (A, 4)

def syncD (A : List FileP) (n : Int) : List FileP × Nat :=
  match getF A n with
  | some p => (setF A ⟨n, p.text, p.text.length⟩, 0)
  | none => (A, 4)

def removeD (A : List FileP) (n : Int) : List FileP × Nat :=
  match getF A n with
  | some _ => (delF A n, 0)
  | none => (A, 4)

def readD (A : List FileP) (n : Int) : List UInt8 × Nat :=
  match getF A n with
  | some p => (p.text, 0)
  | none => ([], 4)

def keptF (keep : Nat) (p : FileP) : FileP := ⟨p.n, p.text.take (p.sure + min keep (p.text.length - p.sure)), p.sure + min keep (p.text.length - p.sure)⟩
def crashD (A : List FileP) (keep : Nat) : List FileP := A.map (keptF keep)

/-- What is always so of a disk's files. -/
structure RightD (room : Int) (A : List FileP) : Prop where
  sorted : Sorted A
  few : A.length ≤ 20
  fits : (total A : Int) ≤ room
  small : room ≤ 65536
  sure : ∀ p ∈ A, p.sure ≤ p.text.length
  num : ∀ p ∈ A, 0 ≤ p.n ∧ p.n ≤ 1099511627776

theorem RightD.len {room : Int} {A : List FileP} (h : RightD room A) {p : FileP} (hp : p ∈ A) : p.text.length ≤ 65536 := by
  have h1 := h.fits; have h2 := h.small; have h3 := le_total hp; omega

theorem RightD.set {room : Int} {A : List FileP} (h : RightD room A) {p : FileP} {n : Int} (hp : getF A n = some p) (q : FileP) (hn : q.n = n) (hs : q.sure ≤ q.text.length) (hf : (total A : Int) - p.text.length + q.text.length ≤ room) : RightD room (setF A q) := by
  subst hn
  have ht := total_setF h.sorted hp
  refine ⟨sorted_setF h.sorted q, by rw [len_setF]; exact h.few, by omega, h.small, fun x hx => ?_, fun x hx => ?_⟩
  · rcases mem_setF h.sorted hx with rfl | ⟨hx, _⟩
    · exact hs
    · exact h.sure x hx
  · rcases mem_setF h.sorted hx with rfl | ⟨hx, _⟩
    · have := h.num p (getF_n hp).2; rw [(getF_n hp).1] at this; exact this
    · exact h.num x hx

theorem RightD.ins {room : Int} {A : List FileP} (h : RightD room A) {n : Int} {s : List UInt8} (hp : getF A n = none) (h0 : 0 ≤ n) (h1 : n ≤ 1099511627776) (h20 : A.length ≠ 20) (hf : (total A : Int) + s.length ≤ room) : RightD room (insF A ⟨n, s, 0⟩) := by
  have hn := getF_none hp
  refine ⟨sorted_insF h.sorted hn, by rw [len_insF]; have := h.few; omega, by rw [total_insF]; simp only; omega, h.small, fun x hx => ?_, fun x hx => ?_⟩
  · rcases mem_insF.1 hx with rfl | hx
    · exact Nat.zero_le _
    · exact h.sure x hx
  · rcases mem_insF.1 hx with rfl | hx
    · exact ⟨h0, h1⟩
    · exact h.num x hx

theorem RightD.del {room : Int} {A : List FileP} (h : RightD room A) {p : FileP} {n : Int} (hp : getF A n = some p) : RightD room (delF A n) := by
  have ht := total_delF h.sorted hp
  have hl := len_delF h.sorted hp
  have hf := h.fits; have hw := h.few
  exact ⟨sorted_delF h.sorted, by omega, by omega, h.small, fun x hx => h.sure x ((mem_delF h.sorted).1 hx).1, fun x hx => h.num x ((mem_delF h.sorted).1 hx).1⟩

end Go.Proofs.YtbgchhgdlceceaaGreatDoor.Dsk

namespace Go.Proofs.YtbgchhgdlceceaaGreatDoor.Drw
open Go.RowKit Heap Dsk

def cells (p : FileP) : List Value := [.int .i64 p.n, .int .i64 (p.sure : Nat), .string ⟨p.text.toArray⟩]
def plsV (l : List FileP) : List Value := l.flatMap cells
theorem plsV_len (l : List FileP) : (plsV l).length = l.length * 3 := by
  induction l with
  | nil => rfl
  | cons p l ih =>
    show (cells p ++ plsV l).length = _
    rw [List.length_append, ih]
    simp [cells]; omega

theorem plsV_append (a b : List FileP) : plsV (a ++ b) = plsV a ++ plsV b := by simp [plsV]

theorem plsV_at (l : List FileP) (k : Nat) (p : FileP) (h : l[k]? = some p) (i : Nat) (hi : i < 3) : (plsV l)[k * 3 + i]? = (cells p)[i]? := by
  induction l generalizing k with
  | nil => simp at h
  | cons q l ih =>
    show (cells q ++ plsV l)[k * 3 + i]? = _
    cases k with
    | zero =>
      simp at h; subst h
      rw [List.getElem?_append_left (by simp [cells]; omega)]
      simp
    | succ k =>
      rw [List.getElem?_append_right (by simp [cells]; omega)]
      rw [show (k + 1) * 3 + i - (cells q).length = k * 3 + i by simp [cells]; omega]
      exact ih k (by simpa using h)

/-- A predicate on pulls: what a call of it answers in every world that C holds of. -/
def Tells (g : Nat) (lb : Array Value) (p : FileP → Bool) (C : World → Prop) : Prop :=
  ∀ (W : World) (x : FileP), C W → Calls Tryz.prog g (#[.agg #[.int .i64 x.n, .int .i64 (x.sure : Nat), .string ⟨x.text.toArray⟩]] ++ lb) W fun e w' => e = .returned (.bool (p x)) ∧ Below W.heap.size W w'

def KeptBy (v : Value) (C : World → Prop) : Prop := ∀ W W', C W → Heap.Touch (own v) W W' → C W'

theorem cells_pull {w : World} {g off n cap : Nat} {l : List FileP} (h : Row w 101 3 (.slice (some ⟨g, off, none⟩) n cap) n (plsV l)) (k : Nat) (p : FileP) (hp : l[k]? = some p) (hk : k < n) :
    w.cell? ⟨g, off + k * 3, none⟩ = some (.int .i64 p.n) ∧ w.cell? ⟨g, off + k * 3 + 1, none⟩ = some (.int .i64 (p.sure : Nat)) ∧ w.cell? ⟨g, off + k * 3 + 2, none⟩ = some (.string ⟨p.text.toArray⟩) := by
  have e : ∀ i, i < 3 → w.cell? ⟨g, off + k * 3 + i, none⟩ = (cells p)[i]? := fun i hi => by
    rw [show off + k * 3 + i = off + (k * 3 + i) by omega, (h.cell (k * 3 + i) (by omega)).1, plsV_at l k p hp i hi]
  exact ⟨e 0 (by omega), e 1 (by omega), e 2 (by omega)⟩

theorem frozen_pull {w : World} {g off n cap : Nat} {l : List FileP} (h : Row w 101 3 (.slice (some ⟨g, off, none⟩) n cap) n (plsV l)) (k : Nat) (hk : k < n) :
    w.frozen? ⟨g, off + k * 3, none⟩ = false ∧ w.frozen? ⟨g, off + k * 3 + 1, none⟩ = false ∧ w.frozen? ⟨g, off + k * 3 + 2, none⟩ = false := by
  have e : ∀ i, i < 3 → w.frozen? ⟨g, off + k * 3 + i, none⟩ = false := fun i hi => by
    rw [show off + k * 3 + i = off + (k * 3 + i) by omega, (h.cell (k * 3 + i) (by omega)).2]
  exact ⟨e 0 (by omega), e 1 (by omega), e 2 (by omega)⟩

set_option maxHeartbeats 2000000 in
set_option maxRecDepth 100000 in
theorem index_any (g : Nat) (lb : Array Value) (p : FileP → Bool) (C : World → Prop) (eg : ∀ args w, (callFunc g args).run Tryz.prog w = .ok (.enter g args) w)
    (v : Value) (l : List FileP) (w : World) (hrow : Row w 101 3 v l.length (plsV l)) (hl : l.length ≤ 1000) (hC : C w) (hk : KeptBy v C) (hp : Tells g lb p C)
    (r : Int) (hr : (r = -1 ∧ ∀ x ∈ l, p x = false) ∨ ∃ (k : Nat) (x : FileP), r = (k : Int) ∧ l[k]? = some x ∧ p x = true ∧ ∀ y ∈ l.take k, p y = false) :
    Calls Tryz.prog 182 #[v, .func (.func g) #[] lb] w fun e w' => e = .returned (.int .i64 r) ∧ Below w.heap.size w w' := by
  rcases hrow.2 with ⟨rfl, h0⟩ | ⟨b, off, cap, cur, rfl, hg, _⟩
  · obtain rfl : l = [] := List.eq_nil_of_length_eq_zero h0
    have : r = -1 := by
      rcases hr with h | ⟨k, x, _, h, _⟩
      · exact h.1
      · simp at h
    subst this
    clear hrow hr hp hk
    go_enter Tryz.func182, Tryz.ntmps182
    go_wp2_with fail
    go_loopw [5, 8] (fun _ i wr => i = .int .i64 0 ∧ wr = w) (fun _ _ _ => 0)
    case atStart => exact ⟨rfl, rfl⟩
    case round =>
      obtain ⟨rfl, rfl⟩ := hrel
      go_wp2
      go_ret
      exact ⟨rfl, Below.refl _ _⟩
  · have hb : b < w.heap.size := heap_lt hg
    have HR := Lib.hid hrow; have HQ := Lib.hid hr; have HP := Lib.hid hp; have HKB := Lib.hid hk; have HCC := Lib.hid hC
    clear hrow hr hp hk hC hg
    generalize hn : l.length = n at *
    have HN := Lib.hid hn
    clear hn
    go_enter Tryz.func182, Tryz.ntmps182
    go_wp2_with fail
    go_loopw [5, 8] (fun _ i wr => ∃ k : Nat, k ≤ n ∧ i = .int .i64 k ∧ Below w.heap.size w wr ∧ Hid (∀ y ∈ l.take k, p y = false)) (fun _ i _ => n - (intOf i).toNat)
    case atStart => exact ⟨0, Nat.zero_le _, rfl, Below.refl _ _, Lib.hid fun y h => by simp at h⟩
    case round =>
      obtain ⟨k, hkn, rfl, BW, A⟩ := hrel
      have BB := Lib.hid BW
      by_cases hlt : k < n
      · have hltz : (k : Int) < (n : Int) := by omega
        have hlt' : k < l.length := by rw [HN.out]; exact hlt
        obtain ⟨x, hx⟩ : ∃ x, l[k]? = some x := ⟨l[k], List.getElem?_eq_getElem hlt'⟩
        have hrow' := HR.out.kept (w' := wr) (fun j _ hj => BW.block j hj)
        obtain ⟨c0, c1, c2⟩ := cells_pull hrow' k x hx hlt
        have hcall := HP.out wr x (HKB.out w wr HCC.out (Heap.Touch.ofBelow BW))
        have X := Lib.hid hx
        clear hrow' hx BW
        cases hq : p x with
        | true =>
          rw [hq] at hcall
          have hrk : r = (k : Int) := by
            rcases HQ.out with ⟨_, h⟩ | ⟨k', x', rfl, h1, h2, h3⟩
            · have := h x (List.mem_of_getElem? X.out)
              rw [hq] at this; cases this
            · have e : k' = k := by
                rcases Nat.lt_trichotomy k' k with hlt2 | hlt2 | hlt2
                · have := A.out x' (List.mem_of_getElem? (i := k') (by rw [List.getElem?_take, if_pos hlt2]; exact h1))
                  rw [h2] at this; cases this
                · exact hlt2
                · have := h3 x (List.mem_of_getElem? (i := k) (by rw [List.getElem?_take, if_pos hlt2]; exact X.out))
                  rw [hq] at this; cases this
              rw [e]
          subst hrk
          go_wp2_with (go_at_fn g; refine hcall.mono ?_; rintro e w' ⟨rfl, hb'⟩)
          go_ret
          exact ⟨rfl, BB.out.trans (hb'.mono BB.out.size)⟩
        | false =>
          rw [hq] at hcall
          go_wp2_with (go_at_fn g; refine hcall.mono ?_; rintro e w' ⟨rfl, hb'⟩)
          refine ⟨⟨k + 1, by omega, by go_num, BB.out.trans (hb'.mono BB.out.size), Lib.hid fun y hy => ?_⟩, by simp [intOf]; omega⟩
          obtain ⟨j, hj, rfl⟩ := List.mem_iff_getElem.1 hy
          rw [List.length_take] at hj
          rw [List.getElem_take]
          by_cases e : j = k
          · subst e
            have := X.out
            rw [List.getElem?_eq_getElem hlt'] at this
            simp at this
            rw [this]; exact hq
          · exact A.out _ (List.mem_of_getElem? (i := j) (by rw [List.getElem?_take, if_pos (by omega)]; exact List.getElem?_eq_getElem (by omega)))
      · have hltz : ¬ (k : Int) < (n : Int) := by omega
        obtain rfl : k = n := by omega
        have hrk : r = -1 := by
          rcases HQ.out with ⟨h, _⟩ | ⟨k', x', rfl, h1, h2, h3⟩
          · exact h
          · have h4 := (List.getElem?_eq_some_iff.1 h1).1
            have := A.out x' (List.mem_of_getElem? (i := k') (by rw [List.getElem?_take, if_pos (by rw [← HN.out]; exact h4)]; exact h1))
            rw [h2] at this; cases this
        subst hrk
        go_wp2
        go_ret
        exact ⟨rfl, BB.out⟩

end Go.Proofs.YtbgchhgdlceceaaGreatDoor.Drw

namespace Go.Proofs.YtbgchhgdlceceaaGreatDoor.Dsk
open Go.RowKit Go.Maps Heap

/-- How a pointer to a file reads: as the number of its block. -/
def ptrElem : Value → Option (DataW Unit × List MemPlace)
  | .pointer (some ⟨b, 0, none⟩) => some (.lit (.int .i64 b), [])
  | .pointer none => some (.lit (.bool false), [])
  | _ => none

theorem ptrElem_inv {v : Value} {b : Nat} {ps : List MemPlace} (h : ptrElem v = some (.lit (.int .i64 b), ps)) : v = .pointer (some ⟨b, 0, none⟩) := by
  unfold ptrElem at h
  split at h
  · rename_i b'
    simp only [Option.some.injEq, Prod.mk.injEq, DataW.lit.injEq, Lit.int.injEq, true_and] at h
    have : b' = b := by omega
    rw [this]
  · simp at h
  · cases h

theorem ptrElem_any {v : Value} {y : DataW Unit × List MemPlace} (h : ptrElem v = some y) : ∃ c : Option Nat, v = .pointer (c.map fun b => ⟨b, 0, none⟩) := by
  unfold ptrElem at h
  split at h
  · rename_i b; exact ⟨some b, rfl⟩
  · exact ⟨none, rfl⟩
  · cases h

theorem keyLaw : Keyed Tryz.prog 3 := int_keyed Tryz.underlying3
theorem zeroP (w : World) : (zeroValue 204).run Tryz.prog w = .ok (.pointer none) w := by kernel_rfl

theorem wf64 {n : Int} (h : -9223372036854775808 ≤ n) (h2 : n ≤ 9223372036854775807) : (Lit.int .i64 n).wf = true := WalkArith.wf_i64 ⟨h, h2⟩

theorem key64 {n : Int} (h : -9223372036854775808 ≤ n ∧ n ≤ 9223372036854775807) : keyOf Tryz.prog 3 (.int .i64 n) = some (.int .i64 n) := keyOf_int_mk Tryz.underlying3 (wf64 h.1 h.2)

theorem ownsMap_of_block {w w' : World} {b n : Nat} {X : DataW Unit} (h : w.ownsMap Tryz.prog 3 ptrElem b n X) (he : w'.heap[b]? = w.heap[b]?) : w'.ownsMap Tryz.prog 3 ptrElem b n X := by
  obtain ⟨es, clock, hb, r⟩ := h
  exact ⟨es, clock, he.trans hb, r⟩

structure DM (F : Nat → Prop) (D M : Nat) (β : Int → Nat) (X : DataW Unit) (room : Int) (A : List FileP) (w : World) : Prop where
  cells : w.heap[D]? = some (.cells #[.int .i64 room, .int .i64 (total A : Nat), .map (some M)] 189 (0, 0))
  own : w.ownsMap Tryz.prog 3 ptrElem M A.length X
  size : Maps.size X = A.length
  has : ∀ k : Int, Maps.has X (.int .i64 k) = (getF A k).isSome
  at_ : ∀ p ∈ A, ∀ z, X.atKey (.int .i64 p.n) z = .lit (.int .i64 (β p.n : Nat))
  files : ∀ p ∈ A, w.heap[β p.n]? = some (.cells #[.string ⟨p.text.toArray⟩, .int .i64 (p.sure : Nat)] 206 (0, 0))
  inj : ∀ p ∈ A, ∀ q ∈ A, β p.n = β q.n → p.n = q.n
  fD : F D
  fM : F M
  fF : ∀ p ∈ A, F (β p.n)

namespace DM
variable {F : Nat → Prop} {D M : Nat} {β : Int → Nat} {X : DataW Unit} {room : Int} {A : List FileP} {w w' : World}

theorem mono (h : DM F D M β X room A w) {G : Nat → Prop} (hG : ∀ k, F k → G k) : DM G D M β X room A w :=
  { h with fD := hG _ h.fD, fM := hG _ h.fM, fF := fun p hp => hG _ (h.fF p hp) }

theorem mapBlk (h : DM F D M β X room A w) : ∃ es c, w.heap[M]? = some (.map es c) := by
  obtain ⟨es, c, hb, _⟩ := h.own
  exact ⟨es, c, hb⟩

theorem neDM (h : DM F D M β X room A w) : D ≠ M := fun e => by
  obtain ⟨es, c, hb⟩ := h.mapBlk
  have := h.cells
  rw [e, hb] at this; cases this

theorem neDF (h : DM F D M β X room A w) {p : FileP} (hp : p ∈ A) : D ≠ β p.n := fun e => by
  have h1 := h.cells
  have h2 := h.files p hp
  rw [← e, h1] at h2
  simp at h2

theorem neMF (h : DM F D M β X room A w) {p : FileP} (hp : p ∈ A) : M ≠ β p.n := fun e => by
  obtain ⟨es, c, hb⟩ := h.mapBlk
  have h2 := h.files p hp
  rw [← e, hb] at h2; cases h2

theorem ltD (h : DM F D M β X room A w) : D < w.heap.size := heap_lt h.cells
theorem ltM (h : DM F D M β X room A w) : M < w.heap.size := by obtain ⟨es, c, hb⟩ := h.mapBlk; exact heap_lt hb
theorem ltF (h : DM F D M β X room A w) {p : FileP} (hp : p ∈ A) : β p.n < w.heap.size := heap_lt (h.files p hp)

/-- The disk stands while others are turned. -/
theorem kept (h : DM F D M β X room A w) (hs : Same F w w') : DM F D M β X room A w' :=
  { h with
    cells := (hs D h.fD h.ltD).trans h.cells
    own := ownsMap_of_block h.own (hs M h.fM h.ltM)
    files := fun p hp => (hs _ (h.fF p hp) (h.ltF hp)).trans (h.files p hp) }

/-- A file that is there is turned. -/
theorem set (h : DM F D M β X room A w) (hr : RightD room A) {p q : FileP} (hp : getF A q.n = some p) (ht : Heap.Touch (fun k => k = D ∨ k = β q.n) w w')
    (hD : w'.heap[D]? = some (.cells #[.int .i64 room, .int .i64 (total (setF A q) : Nat), .map (some M)] 189 (0, 0)))
    (hB : w'.heap[β q.n]? = some (.cells #[.string ⟨q.text.toArray⟩, .int .i64 (q.sure : Nat)] 206 (0, 0))) : DM F D M β X room (setF A q) w' := by
  obtain ⟨hpn, hpm⟩ := getF_n hp
  have hM := ht.block M h.ltM (by rintro (e | e); exact h.neDM e.symm; exact h.neMF hpm (by rw [hpn]; exact e))
  refine ⟨hD, ?_, ?_, fun k => ?_, fun x hx z => ?_, fun x hx => ?_, fun x hx y hy e => ?_, h.fD, h.fM, fun x hx => ?_⟩
  · rw [len_setF]; exact ownsMap_of_block h.own hM
  · rw [len_setF]; exact h.size
  · rw [h.has, getF_setF]
    by_cases e : k = q.n
    · rw [if_pos e, e, hp]; rfl
    · rw [if_neg e]
  · rcases mem_setF hr.sorted hx with rfl | ⟨hx, _⟩
    · rw [← hpn]; exact h.at_ p hpm z
    · exact h.at_ x hx z
  · rcases mem_setF hr.sorted hx with rfl | ⟨hx, hne⟩
    · exact hB
    · rw [ht.block _ (h.ltF hx) (by
        rintro (e | e)
        · exact h.neDF hx e.symm
        · exact hne ((h.inj x hx p hpm (by rw [hpn]; exact e)).trans hpn))]
      exact h.files x hx
  · have hx' : ∃ x' ∈ A, x'.n = x.n := by rcases mem_setF hr.sorted hx with rfl | ⟨hx, _⟩; exact ⟨p, hpm, hpn⟩; exact ⟨x, hx, rfl⟩
    have hy' : ∃ y' ∈ A, y'.n = y.n := by rcases mem_setF hr.sorted hy with rfl | ⟨hy, _⟩; exact ⟨p, hpm, hpn⟩; exact ⟨y, hy, rfl⟩
    obtain ⟨x', hx', ex⟩ := hx'
    obtain ⟨y', hy', ey⟩ := hy'
    rw [← ex, ← ey] at e ⊢
    exact h.inj x' hx' y' hy' e
  · rcases mem_setF hr.sorted hx with rfl | ⟨hx, _⟩
    · rw [← hpn]; exact h.fF p hpm
    · exact h.fF x hx

/-- A new file is laid. -/
theorem ins (h : DM F D M β X room A w) (hr : RightD room A) {q : FileP} {N : Nat} (hp : getF A q.n = none) (hN : w.heap.size ≤ N) (ht : Heap.Touch (fun k => k = D ∨ k = M) w w')
    (hD : w'.heap[D]? = some (.cells #[.int .i64 room, .int .i64 (total (insF A q) : Nat), .map (some M)] 189 (0, 0)))
    (hO : w'.ownsMap Tryz.prog 3 ptrElem M (A.length + 1) (X.put (.int .i64 q.n) (.lit (.int .i64 (N : Nat)))))
    (hB : w'.heap[N]? = some (.cells #[.string ⟨q.text.toArray⟩, .int .i64 (q.sure : Nat)] 206 (0, 0))) :
    DM (fun k => F k ∨ w.heap.size ≤ k) D M (fun k => if k = q.n then N else β k) (X.put (.int .i64 q.n) (.lit (.int .i64 (N : Nat)))) room (insF A q) w' := by
  have hne := getF_none hp
  have hmap := h.own.isMap
  have htidy := h.own.tidy keyLaw
  have hhas : Maps.has X (.int .i64 q.n) = false := by rw [h.has, hp]; rfl
  refine ⟨hD, ?_, ?_, fun k => ?_, fun x hx z => ?_, fun x hx => ?_, fun x hx y hy e => ?_, .inl h.fD, .inl h.fM, fun x hx => ?_⟩
  · rw [len_insF]; exact hO
  · rw [Maps.size_put htidy, hhas, len_insF, ← h.size]; rfl
  · rw [getF_insF hr.sorted q hne]
    by_cases e : k = q.n
    · rw [if_pos e, e, Maps.has_put_same hmap (show WideAt.IsKeyLit (.int .i64 q.n) from trivial)]; rfl
    · rw [if_neg e, Maps.has_put_other (by intro c; simp only [Lit.int.injEq, true_and] at c; exact e c), h.has]
  · rcases mem_insF.1 hx with rfl | hx
    · simp only [if_true]; exact Maps.atKey_put_same hmap (show WideAt.IsKeyLit (.int .i64 _) from trivial) _ _
    · have e := hne x hx
      simp only [if_neg e]
      rw [Maps.atKey_put_other (by intro c; simp only [Lit.int.injEq, true_and] at c; exact e c)]
      exact h.at_ x hx z
  · rcases mem_insF.1 hx with rfl | hx
    · simp only [if_true]; exact hB
    · simp only [if_neg (hne x hx)]
      rw [ht.block _ (h.ltF hx) (by rintro (e | e); exact h.neDF hx e.symm; exact h.neMF hx e.symm)]
      exact h.files x hx
  · rcases mem_insF.1 hx with ex | hx
    · rcases mem_insF.1 hy with ey | hy
      · rw [ex, ey]
      · rw [ex] at e
        simp only [if_true, if_neg (hne y hy)] at e
        have := h.ltF hy; omega
    · rcases mem_insF.1 hy with ey | hy
      · rw [ey] at e
        simp only [if_true, if_neg (hne x hx)] at e
        have := h.ltF hx; omega
      · simp only [if_neg (hne x hx), if_neg (hne y hy)] at e
        exact h.inj x hx y hy e
  · rcases mem_insF.1 hx with rfl | hx
    · simp only [if_true]; exact .inr hN
    · simp only [if_neg (hne x hx)]; exact .inl (h.fF x hx)

/-- A file is taken away. -/
theorem del (h : DM F D M β X room A w) (hr : RightD room A) {p : FileP} {n : Int} (hp : getF A n = some p) (ht : Heap.Touch (fun k => k = D ∨ k = M) w w')
    (hD : w'.heap[D]? = some (.cells #[.int .i64 room, .int .i64 (total (delF A n) : Nat), .map (some M)] 189 (0, 0)))
    (hO : w'.ownsMap Tryz.prog 3 ptrElem M A.length (X.del (.int .i64 n))) : DM F D M β (X.del (.int .i64 n)) room (delF A n) w' := by
  have htidy := h.own.tidy keyLaw
  have hhas : Maps.has X (.int .i64 n) = true := by rw [h.has, hp]; rfl
  have hsz : Maps.size (X.del (.int .i64 n)) = (delF A n).length := by
    have h1 := Maps.size_del (k := .int .i64 n) htidy
    rw [hhas, if_pos rfl, h.size] at h1
    have h2 := len_delF hr.sorted hp
    omega
  have hsub : ∀ x ∈ delF A n, x ∈ A ∧ x.n ≠ n := fun x hx => (mem_delF hr.sorted).1 hx
  refine ⟨hD, ?_, hsz, fun k => ?_, fun x hx z => ?_, fun x hx => ?_, fun x hx y hy e => h.inj x (hsub x hx).1 y (hsub y hy).1 e, h.fD, h.fM, fun x hx => h.fF x (hsub x hx).1⟩
  · rw [← hsz]
    obtain ⟨es, clock, hb, F', _, hX⟩ := hO
    exact ⟨es, clock, hb, F', by rw [hX]; simp [Maps.size, length_sorted], hX⟩
  · rw [getF_delF hr.sorted]
    by_cases e : k = n
    · rw [if_pos e, e, Maps.has_del_same]; rfl
    · rw [if_neg e, Maps.has_del_other (by intro c; simp only [Lit.int.injEq, true_and] at c; exact e c), h.has]
  · obtain ⟨hx, e⟩ := hsub x hx
    rw [Maps.atKey_del_other (by intro c; simp only [Lit.int.injEq, true_and] at c; exact e c)]
    exact h.at_ x hx z
  · obtain ⟨hx, e⟩ := hsub x hx
    rw [ht.block _ (h.ltF hx) (by rintro (e | e); exact h.neDF hx e.symm; exact h.neMF hx e.symm)]
    exact h.files x hx
end DM

/-- The disk at block D, of the blocks F. -/
structure DiskAt (W : World) (F : Nat → Prop) (D : Nat) (room : Int) (A : List FileP) (w : World) : Prop where
  right : RightD room A
  below : Below W.heap.size W w
  newF : ∀ k, F k → W.heap.size ≤ k
  mem : ∃ M β X, DM F D M β X room A w

/-- What has come to be since w. -/
abbrev Grow (F : Nat → Prop) (w : World) : Nat → Prop := fun k => F k ∨ w.heap.size ≤ k

/-! ### a look-up -/
section
variable {P : Program} (w : World) {ops : Array Oper} {rest : List Oper} {o : Oper} {a : Act} {Q : Exit → Act → World → Prop}

theorem look_hit (hg : o.guard = none) (m x : Operand) (hop : o.op = Op.lookup 187 m x true) (b n : Nat) (X : DataW Unit) (hm : a.eval m = .map (some b)) (hown : w.ownsMap Tryz.prog 3 ptrElem b n X)
    (k : Int) (hx : a.eval x = .int .i64 k) (hk : -9223372036854775808 ≤ k ∧ k ≤ 9223372036854775807) (B : Nat) (hhas : Maps.has X (.int .i64 k) = true) (hat : ∀ z, X.atKey (.int .i64 k) z = .lit (.int .i64 (B : Nat)))
    (hK : wpList Tryz.prog ops Q rest (a.put o.dst (.tuple #[.pointer (some ⟨B, 0, none⟩), .bool true])) w) : wpList Tryz.prog ops Q (o :: rest) a w :=
  wpList_lookup_own_ok w hg m x _ hop 3 204 keyLaw Tryz.underlying187 ptrElem (zeroP w) (.lit (.bool false)) [] rfl b n X hm hown _ _ hx (key64 hk) (fun v ps hv => by
    rw [hat] at hv
    obtain rfl := ptrElem_inv hv
    rw [hhas]; exact hK)

theorem look_miss (hg : o.guard = none) (m x : Operand) (hop : o.op = Op.lookup 187 m x true) (b n : Nat) (X : DataW Unit) (hm : a.eval m = .map (some b)) (hown : w.ownsMap Tryz.prog 3 ptrElem b n X)
    (k : Int) (hx : a.eval x = .int .i64 k) (hk : -9223372036854775808 ≤ k ∧ k ≤ 9223372036854775807) (hhas : Maps.has X (.int .i64 k) = false)
    (hK : wpList Tryz.prog ops Q rest (a.put o.dst (.tuple #[.pointer none, .bool false])) w) : wpList Tryz.prog ops Q (o :: rest) a w :=
  wpList_lookup_own_ok w hg m x _ hop 3 204 keyLaw Tryz.underlying187 ptrElem (zeroP w) (.lit (.bool false)) [] rfl b n X hm hown _ _ hx (key64 hk) (fun v ps hv => by
    rw [Maps.atKey_of_not_has hhas] at hv
    obtain rfl : v = .pointer none := by
      unfold ptrElem at hv
      split at hv
      · simp at hv
      · rfl
      · cases hv
    rw [hhas]; exact hK)

/-- 'd.files[n]' of a file that is there. -/
theorem look_at (hg : o.guard = none) (m x : Operand) (hop : o.op = Op.lookup 187 m x false) (b n : Nat) (X : DataW Unit) (hm : a.eval m = .map (some b)) (hown : w.ownsMap Tryz.prog 3 ptrElem b n X)
    (k : Int) (hx : a.eval x = .int .i64 k) (hk : -9223372036854775808 ≤ k ∧ k ≤ 9223372036854775807) (B : Nat) (hat : ∀ z, X.atKey (.int .i64 k) z = .lit (.int .i64 (B : Nat)))
    (hK : wpList Tryz.prog ops Q rest (a.put o.dst (.pointer (some ⟨B, 0, none⟩))) w) : wpList Tryz.prog ops Q (o :: rest) a w := by
  refine wpList_plain hg fun K' hK' => ?_
  obtain ⟨v, ps, hrun, hv⟩ := hown.lookup keyLaw Tryz.underlying187 (zeroP w) (zd := .lit (.bool false)) (zp := []) rfl (key64 hk)
  rw [hat] at hv
  obtain rfl := ptrElem_inv hv
  unfold Oper.wp
  simp [execOp, hop, hm, hx, hrun, Result.andThen]
  exact hK' _ _ hK
end

end Go.Proofs.YtbgchhgdlceceaaGreatDoor.Dsk
