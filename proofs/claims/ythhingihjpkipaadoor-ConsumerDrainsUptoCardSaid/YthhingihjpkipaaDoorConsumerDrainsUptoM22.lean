/- Parts of the proof, joined: The laws SubjectTwo, SubjectThree, SubjectSelf, walked: each returns true.; rillref.Subject, Filter, walked; and these and subject's as calls that keep.; The bounds of a plan's numbers, walked.; plan.Check, walked: a plan's first error.; A plan's ten cells in memory; a prefix that is cut.; rillref.values and rillref.Plan, walked.; What is wrong with a consumer's plan: taker.Check, walked.; What is wrong with a consumer's plan: taker.Check and rillref.Taker, walked. -/
import Derived.Test.YthhingihjpkipaaDoorConsumerDrainsUptoM21
import Derived.Shelf.Abstract
import Derived.Handy
import Derived.Deep.DeepCutAuto
namespace Go.Proofs.YthhingihjpkipaaDoor.Subj
open Go.RowKit

/-! ### What 'is' tells, on lists -/

def isM (f s : List UInt8) : Bool := err true f == 0 && err false s == 0 && takes (pieces f) (pieces s)
def isO (f g : List UInt8) : Bool := err true f == 0 && err true g == 0 && overlap (pieces f) (pieces g)
def isC (f g : List UInt8) : Bool := err true f == 0 && err true g == 0 && covers (pieces f) (pieces g)

theorem isB_match (f s : List UInt8) : isB (matchR f s) = isM f s := by
  unfold isB matchR isM
  by_cases h1 : err true f = 0
  · by_cases h2 : err false s = 0
    · simp [h1, h2]
    · simp [h1, h2]
  · simp [h1]

theorem isB_overlap (f g : List UInt8) : isB (overlapR f g) = isO f g := by
  unfold isB overlapR pairErr isO
  by_cases h1 : err true f = 0
  · by_cases h2 : err true g = 0
    · simp [h1, h2]
    · simp [h1, h2]
  · simp [h1]

theorem isB_covers (f g : List UInt8) : isB (coversR f g) = isC f g := by
  unfold isB coversR pairErr isC
  by_cases h1 : err true f = 0
  · by_cases h2 : err true g = 0
    · simp [h1, h2]
    · simp [h1, h2]
  · simp [h1]

theorem isO_comm (f g : List UInt8) : isO g f = isO f g := by
  unfold isO
  rw [overlap_comm, Bool.and_comm (err true g == 0)]

theorem isO_of_isM {f g s : List UInt8} (h1 : isM f s = true) (h2 : isM g s = true) : isO f g = true := by
  unfold isM at h1 h2
  simp only [Bool.and_eq_true] at h1 h2
  unfold isO
  rw [h1.1.1, h2.1.1, overlap_of_takes _ _ _ h1.2 h2.2]
  rfl

theorem isM_of_isC {f g s : List UInt8} (h1 : isC f g = true) (h2 : isM g s = true) : isM f s = true := by
  unfold isM at h2 ⊢
  unfold isC at h1
  simp only [Bool.and_eq_true] at h1 h2
  rw [h1.1.1, h2.1.2, takes_of_covers _ _ _ h1.2 h2.2]
  rfl

theorem isO_of_isC {f g : List UInt8} (h1 : isC f g = true) : isO f g = true := by
  unfold isC at h1
  unfold isO
  simp only [Bool.and_eq_true] at h1
  rw [h1.1.1, h1.1.2, overlap_of_covers _ _ h1.2]
  rfl

theorem isC_trans {f g h : List UInt8} (h1 : isC f g = true) (h2 : isC g h = true) : isC f h = true := by
  unfold isC at h1 h2 ⊢
  simp only [Bool.and_eq_true] at h1 h2
  rw [h1.1.1, h2.1.2, covers_trans _ _ _ h1.2 h2.2]
  rfl

theorem isO_trans {f g h : List UInt8} (h1 : isC f g = true) (h2 : isO g h = true) : isO f h = true := by
  unfold isC at h1
  unfold isO at h2 ⊢
  simp only [Bool.and_eq_true] at h1 h2
  rw [h1.1.1, h2.1.2, overlap_trans _ _ _ h1.2 h2.2]
  rfl

theorem isC_antisymm {f g : List UInt8} (h1 : isC f g = true) (h2 : isC g f = true) : f = g := by
  unfold isC at h1 h2
  simp only [Bool.and_eq_true, beq_iff_eq] at h1 h2
  have a := (err_zero true f).1 h1.1.1
  have b := (err_zero true g).1 h1.1.2
  exact pieces_inj (covers_antisymm _ _ a.2 b.2 h1.2 h2.2)

/-! ### The calls, from a world to a world -/

/-- What every call keeps: the length's cell is there; nothing of the first world is turned. -/
def Inv (w0 w : World) : Prop := ML w ∧ Below w0.heap.size w0 w

theorem Inv.refl {w : World} (h : ML w) : Inv w w := ⟨h, Below.refl _ _⟩
theorem Inv.step {w0 w w' : World} (h : Inv w0 w) (hb : Below w.heap.size w w') : Inv w0 w' := ⟨h.1.below hb, h.2.trans (hb.mono h.2.size)⟩

def IsRet (w0 : World) (b : Bool) (e : Ending) (w' : World) : Prop := e = .returned (.bool b) ∧ Inv w0 w'

theorem match_inv {w0 : World} (f g : ByteArray) (hf : f.size ≤ 1048576) (hg : g.size ≤ 1048576) (w : World) (h : Inv w0 w) :
    Calls Tryd.prog 22 #[.func (.func 23) #[] #[], .string f, .string g] w (IsRet w0 (isM f.data.toList g.data.toList)) := by
  rw [← isB_match]
  exact (is_match f g w hf hg h.1).mono fun e w' ⟨a, b⟩ => ⟨a, h.step b⟩

end Go.Proofs.YthhingihjpkipaaDoor.Subj

namespace Go.Proofs.YthhingihjpkipaaDoor.Subj
open Go.RowKit

/-- A call that returns a number and keeps. -/
def IntRet (w0 : World) (n : Nat) (e : Ending) (w' : World) : Prop := e = .returned (.int .i64 n) ∧ Inv w0 w'

theorem subjectN_inv {w0 : World} (s : ByteArray) (hs : s.size ≤ 1048576) (w : World) (h : Inv w0 w) : Calls Tryd.prog 78 #[.string s] w (IntRet w0 (err false s.data.toList)) :=
  (subject_any s w hs h.1).mono fun _ _ ⟨a, b⟩ => ⟨a, h.step b⟩
theorem filterN_inv {w0 : World} (s : ByteArray) (hs : s.size ≤ 1048576) (w : World) (h : Inv w0 w) : Calls Tryd.prog 79 #[.string s] w (IntRet w0 (err true s.data.toList)) :=
  (filter_any s w hs h.1).mono fun _ _ ⟨a, b⟩ => ⟨a, h.step b⟩
theorem refSubject_inv {w0 : World} (s : ByteArray) (hs : s.size ≤ 1048576) (w : World) (h : Inv w0 w) : Calls Tryd.prog 76 #[.string s] w (IntRet w0 (err false s.data.toList)) :=
  (refSubject_any s w hs).mono fun _ _ ⟨a, b⟩ => ⟨a, h.step b⟩
theorem refFilter_inv {w0 : World} (s : ByteArray) (hs : s.size ≤ 1048576) (w : World) (h : Inv w0 w) : Calls Tryd.prog 77 #[.string s] w (IntRet w0 (err true s.data.toList)) :=
  (refFilter_any s w hs).mono fun _ _ ⟨a, b⟩ => ⟨a, h.step b⟩

end Go.Proofs.YthhingihjpkipaaDoor.Subj

namespace Go.Proofs.YthhingihjpkipaaDoor.Subj
open Go.RowKit

def wordAt (k : Nat) : ByteArray := ⟨(words.getD k []).toArray⟩
def mostAt (k : Nat) : Int := mosts.getD k 0

def bndCells (P : Nat) : Array Value := #[
  .string (wordAt 0), .pointer (some ⟨P, 2, none⟩), .int .i64 (mostAt 0), .string (wordAt 1), .pointer (some ⟨P, 3, none⟩), .int .i64 (mostAt 1),
  .string (wordAt 2), .pointer (some ⟨P, 4, none⟩), .int .i64 (mostAt 2), .string (wordAt 3), .pointer (some ⟨P, 5, none⟩), .int .i64 (mostAt 3),
  .string (wordAt 4), .pointer (some ⟨P, 6, none⟩), .int .i64 (mostAt 4), .string (wordAt 5), .pointer (some ⟨P, 7, none⟩), .int .i64 (mostAt 5),
  .string (wordAt 6), .pointer (some ⟨P, 8, none⟩), .int .i64 (mostAt 6), .string (wordAt 7), .pointer (some ⟨P, 9, none⟩), .int .i64 (mostAt 7)]

/-- Block G holds the bounds of the plan in block P. -/
def BndAt (P G : Nat) (w : World) : Prop := ∀ k, k < 8 → w.cell? ⟨G, k * 3, none⟩ = some (.string (wordAt k)) ∧ w.cell? ⟨G, k * 3 + 1, none⟩ = some (.pointer (some ⟨P, 2 + k, none⟩)) ∧ w.cell? ⟨G, k * 3 + 2, none⟩ = some (.int .i64 (mostAt k))

theorem bndAt_made (P : Nat) (w : World) (t : TypeId) : BndAt P w.heap.size (w.alloc (.cells (bndCells P) t)) := by
  have h : ∀ j, (w.alloc (.cells (bndCells P) t)).cell? ⟨w.heap.size, j, none⟩ = (bndCells P)[j]? := fun j => World.cell?_alloc_at _ _ _ _ rfl
  intro k hk
  rw [h, h, h]
  rcases k with _ | _ | _ | _ | _ | _ | _ | _ | k
  all_goals first | exact ⟨rfl, rfl, rfl⟩ | omega

def BndPost (P : Nat) (w : World) (e : Ending) (w' : World) : Prop :=
  e = .returned (.slice (some ⟨w.heap.size, 0, none⟩) 8 8) ∧ BndAt P w.heap.size w' ∧ Below w.heap.size w w'

/-- The numbers of the plan in block P. -/
def ValsAt (P : Nat) (vs : List Int) (w : World) : Prop := ∀ k, k < 8 → w.cell? ⟨P, 2 + k, none⟩ = some (.int .i64 (vs.getD k 0))

theorem BndAt.below {P G : Nat} {w w' : World} (h : BndAt P G w) (hb : Below w.heap.size w w') : BndAt P G w' := fun k hk => by
  obtain ⟨h1, h2, h3⟩ := h k hk
  exact ⟨(hb.cell (World.block_lt_of_cell? w _ h1)).trans h1, (hb.cell (World.block_lt_of_cell? w _ h2)).trans h2, (hb.cell (World.block_lt_of_cell? w _ h3)).trans h3⟩

theorem ValsAt.below {P : Nat} {vs : List Int} {w w' : World} (h : ValsAt P vs w) (hb : Below w.heap.size w w') : ValsAt P vs w' := fun k hk =>
  (hb.cell (World.block_lt_of_cell? w _ (h k hk))).trans (h k hk)

def OutPost (b : Bool) (w : World) (e : Ending) (w' : World) : Prop := e = .returned (.bool b) ∧ Below w.heap.size w w'

end Go.Proofs.YthhingihjpkipaaDoor.Subj

namespace Go.Proofs.YthhingihjpkipaaDoor.Subj
open Go.RowKit
/-! ### The filters -/
theorem filt_inv {w0 : World} (f : Tok) (hf : f.length ≤ 1048576) (w : World) (h : Inv w0 w) : Calls Tryd.prog 79 #[.string ⟨f.toArray⟩] w (IntRet w0 (err true f)) :=
  filterN_inv ⟨f.toArray⟩ (by show f.toArray.size ≤ _; simpa using hf) w h

def Small (fs : List Tok) : Prop := ∀ i, (fs.getD i []).length ≤ 1048576

/-! ### The check -/
theorem Inv.made {w : World} (hm : ML w) (o : Obj) : Inv w (w.alloc o) := ⟨hm.below ((Below.refl _ _).alloc (Nat.le_refl _) _), (Below.refl _ _).alloc (Nat.le_refl _) _⟩
theorem Inv.thru {w w1 w2 : World} (h : Inv w w1) (h2 : Inv w1 w2) : Inv w w2 := ⟨h2.1, h.2.trans (h2.2.mono h.2.size)⟩

def planCells (name : ByteArray) (v : Value) (x0 x1 x2 x3 x4 x5 x6 x7 : Int) : Array Value := #[.string name, v, .int .i64 x0, .int .i64 x1, .int .i64 x2, .int .i64 x3, .int .i64 x4, .int .i64 x5, .int .i64 x6, .int .i64 x7]

theorem vals_made (name : ByteArray) (v : Value) (x0 x1 x2 x3 x4 x5 x6 x7 : Int) (w : World) (t : TypeId) : ValsAt w.heap.size [x0, x1, x2, x3, x4, x5, x6, x7] (w.alloc (.cells (planCells name v x0 x1 x2 x3 x4 x5 x6 x7) t)) := by
  have h : ∀ j, (w.alloc (.cells (planCells name v x0 x1 x2 x3 x4 x5 x6 x7) t)).cell? ⟨w.heap.size, j, none⟩ = (planCells name v x0 x1 x2 x3 x4 x5 x6 x7)[j]? := fun j => World.cell?_alloc_at _ _ _ _ rfl
  intro k hk
  rw [h]
  rcases k with _ | _ | _ | _ | _ | _ | _ | _ | k
  all_goals first | rfl | omega

end Go.Proofs.YthhingihjpkipaaDoor.Subj

namespace Go.Proofs.YthhingihjpkipaaDoor.Subj
open Go.RowKit

def planArr (name : ByteArray) (v : Value) (vals : List Int) : Array Value := (.string name :: v :: vals.map (Value.int .i64)).toArray
def zeroArr : Array Value := planArr ByteArray.empty (.slice none 0 0) (List.replicate 8 0)

/-- The cells of a plan in memory. -/
theorem ten {B : Nat} {w : World} {t : TypeId} {a0 a1 a2 a3 a4 a5 a6 a7 a8 a9 : Value} (h : w.heap[B]? = some (.cells #[a0, a1, a2, a3, a4, a5, a6, a7, a8, a9] t (0, 0))) :
    w.cell? ⟨B, 0, none⟩ = some a0 ∧ w.cell? ⟨B, 1, none⟩ = some a1 ∧ w.cell? ⟨B, 2, none⟩ = some a2 ∧ w.cell? ⟨B, 3, none⟩ = some a3 ∧ w.cell? ⟨B, 4, none⟩ = some a4 ∧ w.cell? ⟨B, 5, none⟩ = some a5 ∧
      w.cell? ⟨B, 6, none⟩ = some a6 ∧ w.cell? ⟨B, 7, none⟩ = some a7 ∧ w.cell? ⟨B, 8, none⟩ = some a8 ∧ w.cell? ⟨B, 9, none⟩ = some a9 ∧ ∀ j, w.frozen? ⟨B, j, none⟩ = false :=
  ⟨cell_of_row w B 0 _ _ (0, 0) h, cell_of_row w B 1 _ _ (0, 0) h, cell_of_row w B 2 _ _ (0, 0) h, cell_of_row w B 3 _ _ (0, 0) h, cell_of_row w B 4 _ _ (0, 0) h, cell_of_row w B 5 _ _ (0, 0) h,
    cell_of_row w B 6 _ _ (0, 0) h, cell_of_row w B 7 _ _ (0, 0) h, cell_of_row w B 8 _ _ (0, 0) h, cell_of_row w B 9 _ _ (0, 0) h, fun j => by simp [World.frozen?, h]⟩

theorem setCell_block {w : World} {B : Nat} {cs : Array Value} {t : TypeId} (h : w.heap[B]? = some (.cells cs t (0, 0))) (j : Nat) (u : Value) :
    (w.setCell ⟨B, j, none⟩ u).heap[B]? = some (.cells (cs.setIfInBounds j u) t (0, 0)) := by
  rw [setCell_eq_setRow w B j cs t (0, 0) u h]
  exact setRow_heap w B cs _ t _ h

theorem set10 {w : World} {B : Nat} {t : TypeId} {a0 a1 a2 a3 a4 a5 a6 a7 a8 a9 : Value} (b0 b1 b2 b3 b4 b5 b6 b7 b8 b9 : Value) (h : w.heap[B]? = some (.cells #[a0, a1, a2, a3, a4, a5, a6, a7, a8, a9] t (0, 0))) :
    ((((((((((w.setCell ⟨B, 0, none⟩ b0).setCell ⟨B, 1, none⟩ b1).setCell ⟨B, 2, none⟩ b2).setCell ⟨B, 3, none⟩ b3).setCell ⟨B, 4, none⟩ b4).setCell ⟨B, 5, none⟩ b5).setCell ⟨B, 6, none⟩ b6).setCell ⟨B, 7, none⟩ b7).setCell ⟨B, 8, none⟩ b8).setCell ⟨B, 9, none⟩ b9).heap[B]? = some (.cells #[b0, b1, b2, b3, b4, b5, b6, b7, b8, b9] t (0, 0)) :=
  by
  have := setCell_block (setCell_block (setCell_block (setCell_block (setCell_block (setCell_block (setCell_block (setCell_block (setCell_block (setCell_block h 0 b0) 1 b1) 2 b2) 3 b3) 4 b4) 5 b5) 6 b6) 7 b7) 8 b8) 9 b9
  simpa only [List.setIfInBounds_toArray, List.set_cons_zero, List.set_cons_succ] using this

theorem touch10 {w : World} {B : Nat} (b0 b1 b2 b3 b4 b5 b6 b7 b8 b9 : Value) : Heap.Touch (· = B) w ((((((((((w.setCell ⟨B, 0, none⟩ b0).setCell ⟨B, 1, none⟩ b1).setCell ⟨B, 2, none⟩ b2).setCell ⟨B, 3, none⟩ b3).setCell ⟨B, 4, none⟩ b4).setCell ⟨B, 5, none⟩ b5).setCell ⟨B, 6, none⟩ b6).setCell ⟨B, 7, none⟩ b7).setCell ⟨B, 8, none⟩ b8).setCell ⟨B, 9, none⟩ b9) := by
  exact ((((((((((Heap.Touch.refl (· = B) _).setCell (p := ⟨B, 0, none⟩) (.inl rfl) b0).setCell (p := ⟨B, 1, none⟩) (.inl rfl) b1).setCell (p := ⟨B, 2, none⟩) (.inl rfl) b2).setCell (p := ⟨B, 3, none⟩) (.inl rfl) b3).setCell (p := ⟨B, 4, none⟩) (.inl rfl) b4).setCell (p := ⟨B, 5, none⟩) (.inl rfl) b5).setCell (p := ⟨B, 6, none⟩) (.inl rfl) b6).setCell (p := ⟨B, 7, none⟩) (.inl rfl) b7).setCell (p := ⟨B, 8, none⟩) (.inl rfl) b8).setCell (p := ⟨B, 9, none⟩) (.inl rfl) b9

theorem planArr_zero (name : ByteArray) (v : Value) : planArr name v (List.replicate 8 0) = #[.string name, v, .int .i64 0, .int .i64 0, .int .i64 0, .int .i64 0, .int .i64 0, .int .i64 0, .int .i64 0, .int .i64 0] := rfl
theorem zeroArr_eq : zeroArr = #[.string ⟨#[]⟩, .slice none 0 0, .int .i64 0, .int .i64 0, .int .i64 0, .int .i64 0, .int .i64 0, .int .i64 0, .int .i64 0, .int .i64 0] := rfl

/-- Eight numbers, each by its name. -/
theorem eight {vals : List Int} (h : vals.length = 8) : ∃ x0 x1 x2 x3 x4 x5 x6 x7, vals = [x0, x1, x2, x3, x4, x5, x6, x7] := by
  match vals, h with
  | [x0, x1, x2, x3, x4, x5, x6, x7], _ => exact ⟨_, _, _, _, _, _, _, _, rfl⟩

theorem trim_yes {t p : List UInt8} (h : p.isPrefixOf t = true) : Lib.trimPrefix t p = t.drop p.length := by unfold Lib.trimPrefix Lib.hasPrefix; rw [h]; rfl
theorem trim_no {t p : List UInt8} (h : p.isPrefixOf t = false) : Lib.trimPrefix t p = t := by unfold Lib.trimPrefix Lib.hasPrefix; rw [h]; rfl

theorem wordAt_size : ∀ j, (wordAt j).size ≤ 7 := by
  intro j
  by_cases h : j < 8
  · have : ∀ j, j < 8 → (wordAt j).size ≤ 7 := by decide
    exact this j h
  · unfold wordAt
    simp [List.getD, words]
    rcases j with _ | _ | _ | _ | _ | _ | _ | _ | j <;> simp_all
    show (0 : Nat) ≤ 7
    omega

theorem below10 {W w : World} {B0 B : Nat} (b0 b1 b2 b3 b4 b5 b6 b7 b8 b9 : Value) (h : Below B0 W w) (hB : B0 ≤ B) : Below B0 W ((((((((((w.setCell ⟨B, 0, none⟩ b0).setCell ⟨B, 1, none⟩ b1).setCell ⟨B, 2, none⟩ b2).setCell ⟨B, 3, none⟩ b3).setCell ⟨B, 4, none⟩ b4).setCell ⟨B, 5, none⟩ b5).setCell ⟨B, 6, none⟩ b6).setCell ⟨B, 7, none⟩ b7).setCell ⟨B, 8, none⟩ b8).setCell ⟨B, 9, none⟩ b9) :=
  ((((((((((h).setCell (p := ⟨B, 0, none⟩) hB b0).setCell (p := ⟨B, 1, none⟩) hB b1).setCell (p := ⟨B, 2, none⟩) hB b2).setCell (p := ⟨B, 3, none⟩) hB b3).setCell (p := ⟨B, 4, none⟩) hB b4).setCell (p := ⟨B, 5, none⟩) hB b5).setCell (p := ⟨B, 6, none⟩) hB b6).setCell (p := ⟨B, 7, none⟩) hB b7).setCell (p := ⟨B, 8, none⟩) hB b8).setCell (p := ⟨B, 9, none⟩) hB b9

end Go.Proofs.YthhingihjpkipaaDoor.Subj

namespace Go.Proofs.YthhingihjpkipaaDoor.Subj
open Go.RowKit

/-- Numbers that lie somewhere. -/
def NumsAt (g : Nat) (vs : List Int) (w : World) : Prop := ∀ k, k < 8 → w.cell? ⟨g, k, none⟩ = some (.int .i64 (vs.getD k 0))

theorem NumsAt.below {g : Nat} {vs : List Int} {w w' : World} (h : NumsAt g vs w) (hb : Below w.heap.size w w') : NumsAt g vs w' := fun k hk =>
  (hb.cell (World.block_lt_of_cell? w _ (h k hk))).trans (h k hk)

theorem nums_made (vs : List Int) (hl : vs.length = 8) (w : World) (t : TypeId) (g : Nat) (hg : g = w.heap.size) : NumsAt g vs (w.alloc (.cells (vs.map (Value.int .i64)).toArray t)) := fun k hk => by
  subst hg
  rw [World.cell?_alloc_at _ _ _ _ rfl]
  simp [List.getD, show k < vs.length by omega]

def ValuesPost (w : World) (vs : List Int) (e : Ending) (w' : World) : Prop :=
  ∃ g1 g2, e = .returned (.tuple #[.slice (some ⟨g1, 0, none⟩) 8 8, .slice (some ⟨g2, 0, none⟩) 8 8]) ∧ NumsAt g1 vs w' ∧ NumsAt g2 mosts w' ∧ Below w.heap.size w w'

/-! ### The check -/
theorem over_comm (f g : Tok) : over f g = over g f := overlap_comm _ _

def ROver (w0 : World) (b : Bool) (e : Ending) (w' : World) : Prop := e = .returned (.bool b) ∧ Inv w0 w'

theorem refFilt_inv {w0 : World} (f : Tok) (hf : f.length ≤ 1048576) (w : World) (h : Inv w0 w) : Calls Tryd.prog 77 #[.string ⟨f.toArray⟩] w (IntRet w0 (err true f)) :=
  refFilter_inv ⟨f.toArray⟩ (by show f.toArray.size ≤ _; simpa using hf) w h

theorem in_flip (n lo hi : Int) (w : World) : Calls Tryd.prog 75 #[.int .i64 n, .int .i64 lo, .int .i64 hi] w fun e w' => e = .returned (.bool (decide (lo ≤ n) && decide (n ≤ hi))) ∧ w' = w :=
  (in_any n lo hi w).mono fun _ _ ⟨a, b⟩ => ⟨a, b.symm⟩

theorem ten_alloc (w : World) (t : TypeId) (a0 a1 a2 a3 a4 a5 a6 a7 a8 a9 : Value) : (w.alloc (.cells #[a0, a1, a2, a3, a4, a5, a6, a7, a8, a9] t)).heap[w.heap.size]? = some (.cells #[a0, a1, a2, a3, a4, a5, a6, a7, a8, a9] t (0, 0)) := heap_alloc_new w _

theorem Inv.blk {w0 w : World} (h : Inv w0 w) {B : Nat} {o : Obj} (hz : w0.heap[B]? = some o) : w.heap[B]? = some o :=
  (h.2.block _ (Array.getElem?_eq_some_iff.1 hz).1).trans hz

end Go.Proofs.YthhingihjpkipaaDoor.Subj

namespace Go.Proofs.YthhingihjpkipaaDoor.Subj
open Go.RowKit

def IntsAt (w : World) (g off : Nat) (zs : List Int) : Prop := ∀ k, k < zs.length → w.cell? ⟨g, off + k, none⟩ = some (.int .i64 (zs.getD k 0))
/-- A slice holds these numbers. -/
def Ints (w : World) (v : Value) (zs : List Int) : Prop :=
  ∃ (ao : Option Addr) (cap : Nat), v = .slice ao zs.length cap ∧ zs.length ≤ cap ∧ (zs ≠ [] → ∃ g off, ao = some ⟨g, off, none⟩ ∧ IntsAt w g off zs)

theorem IntsAt.below {w w' : World} {g off : Nat} {zs : List Int} (h : IntsAt w g off zs) (hb : Below w.heap.size w w') : IntsAt w' g off zs := fun k hk =>
  (hb.cell (World.block_lt_of_cell? w _ (h k hk))).trans (h k hk)
theorem Ints.below {w w' : World} {v : Value} {zs : List Int} (h : Ints w v zs) (hb : Below w.heap.size w w') : Ints w' v zs := by
  obtain ⟨ao, cap, e, hc, hat⟩ := h
  exact ⟨ao, cap, e, hc, fun hn => by obtain ⟨g, off, e2, h2⟩ := hat hn; exact ⟨g, off, e2, h2.below hb⟩⟩

theorem within_any (n lo hi : Int) (w : World) :
    Calls Tryd.prog 96 #[.int .i64 n, .int .i64 lo, .int .i64 hi] w fun e w' => e = .returned (.bool (inB n lo hi)) ∧ w' = w := by
  unfold inB
  by_cases h1 : lo ≤ n
  · have d1 : decide (lo ≤ n) = true := by simp [h1]
    rw [d1]
    go_enter Tryd.func96, Tryd.ntmps96
    go_wp2
    go_ret
    all_goals exact ⟨by simp, rfl⟩
  · have d1 : decide (lo ≤ n) = false := by simp [h1]
    rw [d1]
    go_enter Tryd.func96, Tryd.ntmps96
    go_wp2
    go_ret
    all_goals exact ⟨by simp, rfl⟩

theorem badTime_any (n : Int) (w : World) :
    Calls Tryd.prog 117 #[.int .i64 n] w fun e w' => e = .returned (.bool (!inB n 1 100000)) ∧ w' = w := by
  have HC := Lib.hid fun w => within_any n 1 100000 w
  generalize inB n 1 100000 = b at *
  go_enter Tryd.func117, Tryd.ntmps117
  go_wp2_with (go_at_call 96; refine (HC.out _).mono ?_; rintro e w' ⟨rfl, rfl⟩)
  go_ret
  exact ⟨rfl, rfl⟩

theorem fn_badTime : ∀ args w, (callFunc 117 args).run Tryd.prog w = .ok (.enter 117 args) w := enters_of Tryd.func117 (by kernel_rfl) rfl

def badTime (z : Int) : Bool := !inB z 1 100000

theorem any_at {zs : List Int} {k : Nat} (hk : k < zs.length) (h : badTime (zs.getD k 0) = true) : zs.any badTime = true := by
  rw [List.any_eq_true]
  exact ⟨zs.getD k 0, by simp [List.getD, hk], h⟩
theorem any_none {zs : List Int} (h : ∀ k, k < zs.length → badTime (zs.getD k 0) = false) : zs.any badTime = false := by
  rw [List.any_eq_false]
  intro f hf
  obtain ⟨k, hk, rfl⟩ := List.getElem_of_mem hf
  have := h k hk
  simp only [List.getD, List.getElem?_eq_getElem hk, Option.getD_some] at this
  rw [this]; simp

set_option maxHeartbeats 2000000 in
set_option maxRecDepth 100000 in
theorem index_times (zs : List Int) (v : Value) (w : World) (hS : Ints w v zs) (hl : zs.length ≤ 9223372036854775806) :
    Calls Tryd.prog 136 #[v, .func (.func 117) #[] #[]] w
      fun e w' => ∃ n : Int, e = .returned (.int .i64 n) ∧ (decide (0 ≤ n) = zs.any badTime) ∧ w = w' := by
  have eg := fn_badTime
  obtain ⟨ao, cap, rfl, hc, hat⟩ := hS
  obtain ⟨n, hn⟩ : ∃ n, zs.length = n := ⟨_, rfl⟩
  rw [hn] at hc hl ⊢
  have HAT := Lib.hid (fun (h : 0 < n) => hat (by intro e; rw [e] at hn; simp at hn; omega))
  have HN := Lib.hid hn
  have HC := Lib.hid fun z w => badTime_any z w
  clear hat hn
  go_enter Tryd.func136, Tryd.ntmps136
  go_wp2_with fail
  go_loop [5, 8] (fun _ i => ∃ k : Nat, k ≤ n ∧ i = .int .i64 k ∧ Hid (∀ j, j < k → badTime (zs.getD j 0) = false)) (fun _ i => n - (intOf i).toNat)
  case atStart => exact ⟨0, Nat.zero_le _, rfl, Lib.hid fun j hj => by omega⟩
  case round =>
    obtain ⟨k, hk, rfl, A⟩ := hrel
    by_cases hlt : k < n
    · have hltz : (k : Int) < n := by omega
      obtain ⟨g, off, rfl, hst⟩ := HAT.out (by omega)
      have c0 := hst k (by rw [HN.out]; exact hlt)
      have HCALL := Lib.hid (HC.out (zs.getD k 0) w)
      clear hst
      cases hq : badTime (zs.getD k 0) with
      | true =>
        have hc1 : (!inB (zs.getD k 0) 1 100000) = true := hq
        rw [hc1] at HCALL
        have HH := Lib.hid (any_at (by rw [HN.out]; exact hlt) hq)
        clear hc1 hq
        generalize zs.getD k 0 = T at *
        go_wp2_with (go_at_fn 117; refine HCALL.out.mono ?_; rintro e w' ⟨rfl, rfl⟩)
        go_ret
        exact ⟨_, rfl, by rw [HH.out]; simp, rfl⟩
      | false =>
        have hc1 : (!inB (zs.getD k 0) 1 100000) = false := hq
        rw [hc1] at HCALL
        have HQ := Lib.hid (fun j (hj : j = k) => (by rw [hj]; exact hq : badTime (zs.getD j 0) = false))
        clear hc1 hq
        generalize zs.getD k 0 = T at *
        go_wp2_with (go_at_fn 117; refine HCALL.out.mono ?_; rintro e w' ⟨rfl, rfl⟩)
        refine ⟨⟨k + 1, by omega, by go_num, Lib.hid fun j hj => ?_⟩, by simp [intOf]; omega⟩
        by_cases e : j = k
        · exact HQ.out j e
        · exact A.out j (by omega)
    · have hltz : ¬ (k : Int) < n := by omega
      have HH := Lib.hid (any_none fun j hj => A.out j (by rw [HN.out] at hj; omega))
      go_wp2
      go_ret
      exact ⟨_, rfl, by rw [HH.out]; simp, rfl⟩

set_option maxRecDepth 100000 in
theorem contains_times (zs : List Int) (v : Value) (w : World) (hS : Ints w v zs) (hl : zs.length ≤ 9223372036854775806) :
    Calls Tryd.prog 116 #[v, .func (.func 117) #[] #[]] w
      fun e w' => e = .returned (.bool (zs.any badTime)) ∧ w' = w := by
  have H := Lib.hid (index_times zs v w hS hl)
  obtain ⟨ao, cap, rfl, _⟩ := hS
  generalize zs.any badTime = b at *
  generalize zs.length = n at *
  go_enter Tryd.func116, Tryd.ntmps116
  go_wp2_with fail
  refine H.out.mono ?_
  rintro e w' ⟨n, rfl, hn, rfl⟩
  go_wp2
  go_ret
  first | exact ⟨rfl, rfl⟩ | exact ⟨ret_bool hn, rfl⟩

set_option maxHeartbeats 4000000 in
set_option maxRecDepth 100000 in
theorem times_any (name filt : ByteArray) (src start ack wait most pend : Int) (push : Bool) (ao : Option Addr) (n cap : Nat) (back : List Int) (w : World) (hn : back.length = n) (hnl : n ≤ 5) (hB : Ints w (.slice ao n cap) back) (hm : ML w) :
    Calls Tryd.prog 97 #[.agg #[.string name, .string filt, .int .i64 src, .int .i64 start, .int .i64 ack, .int .i64 wait, .slice ao n cap, .int .i64 most, .int .i64 pend, .bool push]] w
      fun e w' => e = .returned (.bool (timesOk ack wait back most pend)) ∧ Inv w w' := by
  obtain ⟨r, hr⟩ : ∃ r, timesOk ack wait back most pend = r := ⟨_, rfl⟩
  rw [hr]
  unfold timesOk at hr
  rw [hn] at hr
  obtain ⟨w1, hw1⟩ : ∃ w1, w1 = w.alloc (.cells #[.string name, .string filt, .int .i64 src, .int .i64 start, .int .i64 ack, .int .i64 wait, .slice ao n cap, .int .i64 most, .int .i64 pend, .bool push] 36) := ⟨_, rfl⟩
  have hI1 : Inv w w1 := by rw [hw1]; exact Inv.made hm _
  have hB1 := ten_alloc w 36 (.string name) (.string filt) (.int .i64 src) (.int .i64 start) (.int .i64 ack) (.int .i64 wait) (.slice ao n cap) (.int .i64 most) (.int .i64 pend) (.bool push)
  rw [← hw1] at hB1
  have HC := Lib.hid (contains_times back _ w1 (hB.below hI1.2) (by omega))
  have e1 : (fun z => inB z 1 100000) = fun z => !badTime z := by funext z; simp [badTime]
  have hall : (back.all fun z => inB z 1 100000) = !back.any badTime := by
    rw [e1, ← any_not]; simp
  rw [hall] at hr
  have HI1 := Lib.hid hI1
  have HW := Lib.hid fun w => within_any wait 1 100000 w
  have HM := Lib.hid fun w => within_any most 0 20 w
  have HP := Lib.hid fun w => within_any pend 0 50 w
  obtain ⟨y0, y1, y2, y3, y4, y5, y6, y7, y8, y9, yf⟩ := ten hB1
  clear hI1 hB1 hall e1 hB hm hn hnl
  generalize back.any badTime = b4 at *
  generalize inB wait 1 100000 = b1 at *
  generalize inB most 0 20 = b2 at *
  generalize inB pend 0 50 = b3 at *
  cases ha : (ack == 0) with
  | true =>
    rw [ha, if_pos rfl] at hr
    clear HC HW HM HP
    cases h1 : (wait == 0) <;> cases h2 : ((n : Int) == 0) <;> cases h3 : (most == 0) <;> cases h4 : (pend == 0)
    all_goals
      rw [h1, h2, h3, h4] at hr
      subst hr
      go_enter Tryd.func97, Tryd.ntmps97
      go_upto_region 1 with fail
      rw [← hw1]
      clear hw1
      go_wp2
      go_ret
      exact ⟨rfl, HI1.out⟩
  | false =>
    rw [ha, if_neg (by decide)] at hr
    cases b1 <;> cases b2 <;> cases b3 <;> cases b4
    all_goals
      subst hr
      go_enter Tryd.func97, Tryd.ntmps97
      go_upto_region 1 with fail
      rw [← hw1]
      clear hw1
      go_wp2_with (first
        | (go_at_call 96; (with_reducible first | refine (HW.out _).mono ?_ | refine (HM.out _).mono ?_ | refine (HP.out _).mono ?_); rintro e w' ⟨rfl, rfl⟩)
        | (go_at_call 116; refine HC.out.mono ?_; rintro e w' ⟨rfl, rfl⟩))
      go_ret
      exact ⟨rfl, HI1.out⟩
end Go.Proofs.YthhingihjpkipaaDoor.Subj

namespace Go.Proofs.YthhingihjpkipaaDoor.Subj
open Go.RowKit

/-- The ways of the answer. -/
theorem takerErr_ways (name filt : List UInt8) (src start ack wait : Int) (back : List Int) (most pend : Int) :
    (nameOk name = false ∧ takerErr name filt src start ack wait back most pend = 3) ∨
    (nameOk name = true ∧ err true filt ≠ 0 ∧ takerErr name filt src start ack wait back most pend = err true filt) ∨
    (nameOk name = true ∧ err true filt = 0 ∧ 5 < back.length ∧ takerErr name filt src start ack wait back most pend = 2) ∨
    (nameOk name = true ∧ err true filt = 0 ∧ ¬ 5 < back.length ∧ takerErr name filt src start ack wait back most pend = if argsOk src start ack wait back most pend = true then 0 else 1) := by
  unfold takerErr
  cases h1 : nameOk name with
  | false => exact .inl ⟨rfl, rfl⟩
  | true =>
    rw [if_pos rfl]
    by_cases h2 : err true filt = 0
    · rw [if_pos h2]
      by_cases h3 : 5 < back.length
      · rw [if_pos h3]; exact .inr (.inr (.inl ⟨rfl, h2, h3, rfl⟩))
      · rw [if_neg h3]; exact .inr (.inr (.inr ⟨rfl, h2, h3, rfl⟩))
    · rw [if_neg h2]; exact .inr (.inl ⟨rfl, h2, rfl⟩)

set_option maxHeartbeats 4000000 in
set_option maxRecDepth 100000 in
theorem takerCheck_any (name filt : ByteArray) (src start ack wait most pend : Int) (push : Bool) (ao : Option Addr) (n cap : Nat) (back : List Int) (w : World) (hnm : name.size ≤ maxLen) (hfl : filt.size ≤ 1048576) (hn : back.length = n) (hB : Ints w (.slice ao n cap) back) (hm : ML w) :
    Calls Tryd.prog 55 #[.agg #[.string name, .string filt, .int .i64 src, .int .i64 start, .int .i64 ack, .int .i64 wait, .slice ao n cap, .int .i64 most, .int .i64 pend, .bool push]] w (IntRet w (takerErr name.data.toList filt.data.toList src start ack wait back most pend)) := by
  have hways := takerErr_ways name.data.toList filt.data.toList src start ack wait back most pend
  generalize takerErr name.data.toList filt.data.toList src start ack wait back most pend = r at *
  obtain ⟨w1, hw1⟩ : ∃ w1, w1 = w.alloc (.cells #[.string name, .string filt, .int .i64 src, .int .i64 start, .int .i64 ack, .int .i64 wait, .slice ao n cap, .int .i64 most, .int .i64 pend, .bool push] 36) := ⟨_, rfl⟩
  have hI1 : Inv w w1 := by rw [hw1]; exact Inv.made hm _
  have hB1 := ten_alloc w 36 (.string name) (.string filt) (.int .i64 src) (.int .i64 start) (.int .i64 ack) (.int .i64 wait) (.slice ao n cap) (.int .i64 most) (.int .i64 pend) (.bool push)
  rw [← hw1] at hB1
  have hBk := hB.below hI1.2
  rw [hn] at hways
  have HNM := Lib.hid (fun w => named_any name w hnm)
  have HFI := Lib.hid (filterN_inv filt hfl w1 (Inv.refl hI1.1))
  have HTM := Lib.hid (fun (q : ¬ 5 < n) wr (h : Inv w1 wr) => times_any name filt src start ack wait most pend push ao n cap back wr hn (by omega) (hBk.below h.2) h.1)
  have HIR := Lib.hid (Inv.refl hI1.1)
  have HI1 := Lib.hid hI1; have HB1 := Lib.hid hB1
  have HWS := Lib.hid hways
  clear hI1 hB1 hBk hB hm hn hnm hfl hways
  obtain ⟨y0, y1, y2, y3, y4, y5, y6, y7, y8, y9, yf⟩ := ten HB1.out
  go_enter Tryd.func55, Tryd.ntmps55
  go_upto_region 1 with fail
  rw [← hw1]
  clear hw1
  rcases HWS.out with ⟨h1, rfl⟩ | ⟨h1, h2, h3⟩ | ⟨h1, h2, h3, rfl⟩ | ⟨h1, h2, h3, h4⟩
  · rw [h1] at HNM
    clear h1 HFI HTM HWS
    go_wp2_with (go_at_call 95; refine (HNM.out _).mono ?_; rintro e w' ⟨rfl, rfl⟩)
    go_ret
    exact ⟨rfl, HI1.out⟩
  · have hd : ((err true filt.data.toList : Int) != 0) = true := by simpa using h2
    rw [h1] at HNM
    rw [← h3] at HFI hd
    clear h1 h2 h3 HTM HWS
    go_wp2_with (go_at_call 95; refine (HNM.out _).mono ?_; rintro e w' ⟨rfl, rfl⟩)
    refine HFI.out.mono ?_
    rintro e w2 ⟨rfl, hI2⟩
    have HI2 := Lib.hid hI2
    clear hI2
    go_wp2
    go_ret
    exact ⟨rfl, HI1.out.thru HI2.out⟩
  · rw [h1] at HNM
    rw [h2] at HFI
    have h5 : (5 : Int) < n := by omega
    clear h1 h2 h3 HTM HWS
    go_wp2_with (go_at_call 95; refine (HNM.out _).mono ?_; rintro e w' ⟨rfl, rfl⟩)
    refine HFI.out.mono ?_
    rintro e w2 ⟨rfl, hI2⟩
    have HI2 := Lib.hid hI2
    clear y0 y1 y2 y3 y4 y5 y6 y7 y8 y9 yf
    obtain ⟨y0, y1, y2, y3, y4, y5, y6, y7, y8, y9, yf⟩ := ten (hI2.blk HB1.out)
    clear hI2
    go_wp2
    go_ret
    exact ⟨rfl, HI1.out.thru HI2.out⟩
  · rw [h1] at HNM
    rw [h2] at HFI
    have h5 : ¬ (5 : Int) < n := by omega
    have HT := Lib.hid (HTM.out h3)
    have H4 := Lib.hid h4
    clear h1 h2 h3 h4 HTM HWS
    go_wp2_with (go_at_call 95; refine (HNM.out _).mono ?_; rintro e w' ⟨rfl, rfl⟩)
    refine HFI.out.mono ?_
    rintro e w2 ⟨rfl, hI2⟩
    have HI2 := Lib.hid hI2
    have HT2 := Lib.hid (HT.out _ hI2)
    clear y0 y1 y2 y3 y4 y5 y6 y7 y8 y9 yf
    obtain ⟨y0, y1, y2, y3, y4, y5, y6, y7, y8, y9, yf⟩ := ten (hI2.blk HB1.out)
    clear hI2 HT HFI HNM
    have h4 := H4.out
    clear H4
    unfold argsOk at h4
    have hst : startOk src start = if (src == 3) = true then inB start 1 999999999 else start == 0 := rfl
    have HSRC := Lib.hid fun w => within_any src 0 3 w
    have HACK := Lib.hid fun w => within_any ack 0 2 w
    have HSTA := Lib.hid fun w => within_any start 1 999999999 w
    generalize startOk src start = st at *
    generalize timesOk ack wait back most pend = b4 at *
    generalize inB src 0 3 = b1 at *
    generalize inB ack 0 2 = b2 at *
    generalize inB start 1 999999999 = b3 at *
    cases hs : (src == 3) with
    | true =>
      rw [hs, if_pos rfl] at hst
      subst hst
      cases b1 <;> cases st <;> cases b2 <;> cases b4
      all_goals
        obtain rfl := h4
        go_wp2_with (first
          | (go_at_call 96; (with_reducible first | refine (HSRC.out _).mono ?_ | refine (HACK.out _).mono ?_ | refine (HSTA.out _).mono ?_); rintro e w' ⟨rfl, rfl⟩)
          | (go_at_call 97; refine HT2.out.mono ?_; rintro e w3 ⟨rfl, hI3⟩; have HI3 := Lib.hid hI3; clear hI3))
        go_ret
        first
          | exact ⟨rfl, HI1.out.thru HI2.out⟩
          | exact ⟨rfl, HI1.out.thru (HI2.out.thru HI3.out)⟩
    | false =>
      rw [hs, if_neg (by decide)] at hst
      cases hz : (start == 0) <;> cases b1 <;> cases b2 <;> cases b4
      all_goals
        rw [hz] at hst
        subst hst
        obtain rfl := h4
        go_wp2_with (first
          | (go_at_call 96; (with_reducible first | refine (HSRC.out _).mono ?_ | refine (HACK.out _).mono ?_ | refine (HSTA.out _).mono ?_); rintro e w' ⟨rfl, rfl⟩)
          | (go_at_call 97; refine HT2.out.mono ?_; rintro e w3 ⟨rfl, hI3⟩; have HI3 := Lib.hid hI3; clear hI3))
        go_ret
        first
          | exact ⟨rfl, HI1.out.thru HI2.out⟩
          | exact ⟨rfl, HI1.out.thru (HI2.out.thru HI3.out)⟩
end Go.Proofs.YthhingihjpkipaaDoor.Subj
