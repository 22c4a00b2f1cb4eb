/- The laws SubjectTwo, SubjectThree, SubjectSelf, walked: each returns true. -/
import Derived.Test.YtglgbidcmkncgaaDoorSubjIs
import Derived.Test.YtglgbidcmkncgaaDoorSubjLaws
namespace Go.Proofs.YtglgbidcmkncgaaDoor.Subj
open Go.RowKit

/-! ### What 'is' tells, on lists -/

def isM (f s : List UInt8) : Bool := err true f == 0 && err false s == 0 && takes (pieces f) (pieces s)
def isO (f g : List UInt8) : Bool := err true f == 0 && err true g == 0 && overlap (pieces f) (pieces g)
def isC (f g : List UInt8) : Bool := err true f == 0 && err true g == 0 && covers (pieces f) (pieces g)

theorem isB_match (f s : List UInt8) : isB (matchR f s) = isM f s := by
  unfold isB matchR isM
  by_cases h1 : err true f = 0
  · by_cases h2 : err false s = 0
    · simp [h1, h2]
    · simp [h1, h2]
  · simp [h1]

theorem isB_overlap (f g : List UInt8) : isB (overlapR f g) = isO f g := by
  unfold isB overlapR pairErr isO
  by_cases h1 : err true f = 0
  · by_cases h2 : err true g = 0
    · simp [h1, h2]
    · simp [h1, h2]
  · simp [h1]

theorem isB_covers (f g : List UInt8) : isB (coversR f g) = isC f g := by
  unfold isB coversR pairErr isC
  by_cases h1 : err true f = 0
  · by_cases h2 : err true g = 0
    · simp [h1, h2]
    · simp [h1, h2]
  · simp [h1]

theorem isO_comm (f g : List UInt8) : isO g f = isO f g := by
  unfold isO
  rw [overlap_comm, Bool.and_comm (err true g == 0)]

theorem isO_of_isM {f g s : List UInt8} (h1 : isM f s = true) (h2 : isM g s = true) : isO f g = true := by
  unfold isM at h1 h2
  simp only [Bool.and_eq_true] at h1 h2
  unfold isO
  rw [h1.1.1, h2.1.1, overlap_of_takes _ _ _ h1.2 h2.2]
  rfl

theorem isM_of_isC {f g s : List UInt8} (h1 : isC f g = true) (h2 : isM g s = true) : isM f s = true := by
  unfold isM at h2 ⊢
  unfold isC at h1
  simp only [Bool.and_eq_true] at h1 h2
  rw [h1.1.1, h2.1.2, takes_of_covers _ _ _ h1.2 h2.2]
  rfl

theorem isO_of_isC {f g : List UInt8} (h1 : isC f g = true) : isO f g = true := by
  unfold isC at h1
  unfold isO
  simp only [Bool.and_eq_true] at h1
  rw [h1.1.1, h1.1.2, overlap_of_covers _ _ h1.2]
  rfl

theorem isC_trans {f g h : List UInt8} (h1 : isC f g = true) (h2 : isC g h = true) : isC f h = true := by
  unfold isC at h1 h2 ⊢
  simp only [Bool.and_eq_true] at h1 h2
  rw [h1.1.1, h2.1.2, covers_trans _ _ _ h1.2 h2.2]
  rfl

theorem isO_trans {f g h : List UInt8} (h1 : isC f g = true) (h2 : isO g h = true) : isO f h = true := by
  unfold isC at h1
  unfold isO at h2 ⊢
  simp only [Bool.and_eq_true] at h1 h2
  rw [h1.1.1, h2.1.2, overlap_trans _ _ _ h1.2 h2.2]
  rfl

theorem isC_antisymm {f g : List UInt8} (h1 : isC f g = true) (h2 : isC g f = true) : f = g := by
  unfold isC at h1 h2
  simp only [Bool.and_eq_true, beq_iff_eq] at h1 h2
  have a := (err_zero true f).1 h1.1.1
  have b := (err_zero true g).1 h1.1.2
  exact pieces_inj (covers_antisymm _ _ a.2 b.2 h1.2 h2.2)

/-! ### The calls, from a world to a world -/

/-- What every call keeps: the length's cell is there; nothing of the first world is turned. -/
def Inv (w0 w : World) : Prop := ML w ∧ Below w0.heap.size w0 w

theorem Inv.refl {w : World} (h : ML w) : Inv w w := ⟨h, Below.refl _ _⟩
theorem Inv.step {w0 w w' : World} (h : Inv w0 w) (hb : Below w.heap.size w w') : Inv w0 w' := ⟨h.1.below hb, h.2.trans (hb.mono h.2.size)⟩

def IsRet (w0 : World) (b : Bool) (e : Ending) (w' : World) : Prop := e = .returned (.bool b) ∧ Inv w0 w'

theorem match_inv {w0 : World} (f g : ByteArray) (hf : f.size ≤ 1048576) (hg : g.size ≤ 1048576) (w : World) (h : Inv w0 w) :
    Calls Tryd.prog 13 #[.func (.func 16) #[] #[], .string f, .string g] w (IsRet w0 (isM f.data.toList g.data.toList)) := by
  rw [← isB_match]
  exact (is_match f g w hf hg h.1).mono fun e w' ⟨a, b⟩ => ⟨a, h.step b⟩

theorem overlap_inv {w0 : World} (f g : ByteArray) (hf : f.size ≤ 1048576) (hg : g.size ≤ 1048576) (w : World) (h : Inv w0 w) :
    Calls Tryd.prog 13 #[.func (.func 14) #[] #[], .string f, .string g] w (IsRet w0 (isO f.data.toList g.data.toList)) := by
  rw [← isB_overlap]
  exact (is_overlap f g w hf hg h.1).mono fun e w' ⟨a, b⟩ => ⟨a, h.step b⟩

theorem covers_inv {w0 : World} (f g : ByteArray) (hf : f.size ≤ 1048576) (hg : g.size ≤ 1048576) (w : World) (h : Inv w0 w) :
    Calls Tryd.prog 13 #[.func (.func 50) #[] #[], .string f, .string g] w (IsRet w0 (isC f.data.toList g.data.toList)) := by
  rw [← isB_covers]
  exact (is_covers f g w hf hg h.1).mono fun e w' ⟨a, b⟩ => ⟨a, h.step b⟩

theorem known_inv {w0 : World} (w : World) (h : Inv w0 w) : Calls Tryd.prog 12 #[] w (IsRet w0 true) :=
  (known_any w h.1).mono fun e w' ⟨a, b⟩ => ⟨a, h.step b⟩

end Go.Proofs.YtglgbidcmkncgaaDoor.Subj
