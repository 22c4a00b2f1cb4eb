/- Parts of the proof, joined: The laws of filters, of the Lean functions. No program here.; The laws SubjectTwo, SubjectThree, SubjectSelf, walked: each returns true.; rillref.Subject, Filter, walked; and these and subject's as calls that keep.; The law SubjectSays, walked: it returns true. -/
import Derived.Test.YtidacfhdhdnidaaGreatDoorVaultSureUptoM7
namespace Go.Proofs.YtidacfhdhdnidaaGreatDoor.Subj

theorem overlap_comm : ∀ f g : List Tok, overlap f g = overlap g f
  | [], [] => rfl
  | [], _ :: _ => rfl
  | _ :: _, [] => rfl
  | x :: f, y :: g => by
    simp only [overlap]
    rw [overlap_comm f g, Bool.or_comm (x == [62])]
    have h1 : (x == y) = (y == x) := by rw [Bool.eq_iff_iff]; simp; exact eq_comm
    rw [h1, Bool.or_assoc, Bool.or_comm (x == [42]), ← Bool.or_assoc]

theorem overlap_of_takes : ∀ f g s : List Tok, takes f s = true → takes g s = true → overlap f g = true
  | [], [], _, _, _ => rfl
  | [], y :: g, s, h1, h2 => by
    simp [takes] at h1; subst h1
    simp [takes] at h2
  | x :: f, [], s, h1, h2 => by
    simp [takes] at h2; subst h2
    simp [takes] at h1
  | x :: f, y :: g, s, h1, h2 => by
    simp only [overlap]
    by_cases hx : x = [62]
    · simp [hx]
    · by_cases hy : y = [62]
      · simp [hy]
      · cases s with
        | nil => simp [takes, hx] at h1
        | cons z s =>
          simp [takes, hx] at h1
          simp [takes, hy] at h2
          have ih := overlap_of_takes f g s h1.2 h2.2
          simp [hx, hy, ih]
          rcases h1.1 with a | a <;> rcases h2.1 with b | b <;> simp [a, b]

theorem takes_of_covers : ∀ f g s : List Tok, covers f g = true → takes g s = true → takes f s = true
  | [], g, s, h1, h2 => by
    simp [covers] at h1; subst h1; exact h2
  | x :: f, [], s, h1, _ => by simp [covers] at h1
  | x :: f, y :: g, s, h1, h2 => by
    have hs : s ≠ [] := by
      intro e; subst e; simp [takes] at h2
    cases s with
    | nil => exact absurd rfl hs
    | cons z s =>
      by_cases hx : x = [62]
      · simp [takes, hx]
      · simp [covers, hx] at h1
        obtain ⟨⟨hy, hxy⟩, hc⟩ := h1
        simp [takes, hy] at h2
        have ih := takes_of_covers f g s hc h2.2
        simp [takes, hx, ih]
        rcases hxy with a | a
        · exact .inl a
        · rcases h2.1 with b | b
          · exact .inl (a.trans b)
          · exact .inr (a.trans b)

theorem overlap_of_covers : ∀ f g : List Tok, covers f g = true → overlap f g = true
  | [], g, h => by simpa [covers, overlap] using h
  | x :: f, [], h => by simp [covers] at h
  | x :: f, y :: g, h => by
    by_cases hx : x = [62]
    · simp [overlap, hx]
    · simp [covers, hx] at h
      obtain ⟨⟨hy, hxy⟩, hc⟩ := h
      simp [overlap, hx, hy, overlap_of_covers f g hc]
      rcases hxy with a | a
      · exact .inl (.inr a)
      · exact .inl (.inl a)

theorem covers_trans : ∀ f g h : List Tok, covers f g = true → covers g h = true → covers f h = true
  | [], g, h, h1, h2 => by
    simp [covers] at h1; subst h1; exact h2
  | x :: f, [], h, h1, _ => by simp [covers] at h1
  | x :: f, y :: g, [], _, h2 => by simp [covers] at h2
  | x :: f, y :: g, z :: h, h1, h2 => by
    by_cases hx : x = [62]
    · simp [covers, hx]
    · simp [covers, hx] at h1
      obtain ⟨⟨hy, hxy⟩, hc⟩ := h1
      simp [covers, hy] at h2
      obtain ⟨⟨hz, hyz⟩, hd⟩ := h2
      simp [covers, hx, hz, covers_trans f g h hc hd]
      rcases hxy with a | a
      · exact .inl a
      · rcases hyz with b | b
        · exact .inl (a.trans b)
        · exact .inr (a.trans b)

theorem overlap_trans : ∀ f g h : List Tok, covers f g = true → overlap g h = true → overlap f h = true
  | [], g, h, h1, h2 => by
    simp [covers] at h1; subst h1; exact h2
  | x :: f, [], h, h1, _ => by simp [covers] at h1
  | x :: f, y :: g, [], _, h2 => by simp [overlap] at h2
  | x :: f, y :: g, z :: h, h1, h2 => by
    by_cases hx : x = [62]
    · simp [overlap, hx]
    · by_cases hz : z = [62]
      · simp [overlap, hz]
      · simp [covers, hx] at h1
        obtain ⟨⟨hy, hxy⟩, hc⟩ := h1
        simp [overlap, hy, hz] at h2
        obtain ⟨hyz, hd⟩ := h2
        simp [overlap, hx, hz, overlap_trans f g h hc hd]
        rcases hxy with a | a
        · exact .inl (.inr a)
        · rcases hyz with (b | b) | b
          · exact .inl (.inl (a.trans b))
          · exact .inl (.inr (a.trans b))
          · exact .inr b

theorem covers_refl : ∀ f : List Tok, covers f f = true
  | [] => rfl
  | x :: f => by
    by_cases hx : x = [62]
    · simp [covers, hx]
    · simp [covers, hx, covers_refl f]

theorem covers_antisymm : ∀ f g : List Tok, okPieces true f = true → okPieces true g = true → covers f g = true → covers g f = true → f = g
  | [], g, _, _, h1, _ => by simp [covers] at h1; exact h1.symm
  | x :: f, [], _, _, h1, _ => by simp [covers] at h1
  | x :: f, y :: g, o1, o2, h1, h2 => by
    have last : ∀ (t : Tok) (ts : List Tok), okPieces true (t :: ts) = true → t = [62] → ts = [] := by
      intro t ts h e
      subst e
      simp only [okPieces] at h
      have : tokenOk [62] = false := by decide
      rw [this] at h
      simp at h
      exact h.1
    have rest : ∀ (t : Tok) (ts : List Tok), okPieces true (t :: ts) = true → okPieces true ts = true := by
      intro t ts h
      simp only [okPieces, Bool.and_eq_true] at h
      exact h.2
    by_cases hx : x = [62]
    · have hy : y = [62] := by
        by_cases hy : y = [62]
        · exact hy
        · simp [covers, hy, hx] at h2
      have a := last x f o1 hx
      have b := last y g o2 hy
      rw [hx, hy, a, b]
    · by_cases hy : y = [62]
      · simp [covers, hx, hy] at h1
      · simp [covers, hx, hy] at h1 h2
        have ih := covers_antisymm f g (rest x f o1) (rest y g o2) h1.2 h2.2
        rw [ih]
        rcases h1.1 with a | a
        · rcases h2.1 with b | b
          · rw [a, b]
          · rw [b]
        · rw [a]

theorem okPieces_wild : ∀ l : List Tok, okPieces false l = true → okPieces true l = true
  | [], _ => rfl
  | t :: ts, h => by
    simp only [okPieces, Bool.false_and, Bool.false_or, Bool.and_eq_true] at h ⊢
    exact ⟨by rw [h.1]; simp, okPieces_wild ts h.2⟩

theorem token_plain (t : Tok) (h : tokenOk t = true) : t ≠ [42] ∧ t ≠ [62] := by
  constructor
  · intro e; subst e; exact absurd h (by decide)
  · intro e; subst e; exact absurd h (by decide)

theorem takes_plain : ∀ f s : List Tok, okPieces false f = true → (takes f s = true ↔ f = s)
  | [], s, _ => by simp [takes]
  | t :: f, s, h => by
    simp only [okPieces, Bool.false_and, Bool.false_or, Bool.and_eq_true] at h
    obtain ⟨h1, h2⟩ := token_plain t h.1
    cases s with
    | nil => simp [takes, h2]
    | cons x s =>
      simp [takes, h1, h2]
      intro _
      exact takes_plain f s h.2

/-- The text of pieces. -/
def joined : List Tok → List UInt8
  | [] => []
  | [t] => t
  | t :: u :: ts => t ++ 46 :: joined (u :: ts)

theorem joined_pieces : ∀ l : List UInt8, joined (pieces l) = l
  | [] => rfl
  | b :: l => by
    have ih := joined_pieces l
    unfold pieces
    split
    · rename_i h
      cases hp : pieces l with
      | nil => exact absurd hp (pieces_ne l)
      | cons p ps =>
        rw [hp] at ih
        simp [joined, ih, h]
    · split
      · rename_i p ps hp
        rw [hp] at ih
        cases ps with
        | nil => simp [joined] at ih ⊢; exact ih
        | cons q ps => simp [joined] at ih ⊢; exact ih
      · rename_i hp
        exact absurd hp (pieces_ne l)

theorem pieces_inj {a b : List UInt8} (h : pieces a = pieces b) : a = b := by
  rw [← joined_pieces a, ← joined_pieces b, h]

theorem err_zero (wild : Bool) (l : List UInt8) : err wild l = 0 ↔ (pieces l).length ≤ 8 ∧ okPieces wild (pieces l) = true := by
  unfold err
  split
  · constructor
    · intro h; cases h
    · rintro ⟨h, _⟩; omega
  · split
    · rename_i h1 h2; exact ⟨fun _ => ⟨by omega, h2⟩, fun _ => rfl⟩
    · rename_i h1 h2; exact ⟨fun h => (by cases h), fun ⟨_, h⟩ => absurd h h2⟩

theorem err_wild (l : List UInt8) (h : err false l = 0) : err true l = 0 := by
  rw [err_zero] at h ⊢
  exact ⟨h.1, okPieces_wild _ h.2⟩

end Go.Proofs.YtidacfhdhdnidaaGreatDoor.Subj

namespace Go.Proofs.YtidacfhdhdnidaaGreatDoor.Subj
open Go.RowKit

/-! ### What 'is' tells, on lists -/

def isM (f s : List UInt8) : Bool := err true f == 0 && err false s == 0 && takes (pieces f) (pieces s)
def isO (f g : List UInt8) : Bool := err true f == 0 && err true g == 0 && overlap (pieces f) (pieces g)
def isC (f g : List UInt8) : Bool := err true f == 0 && err true g == 0 && covers (pieces f) (pieces g)

theorem isB_match (f s : List UInt8) : isB (matchR f s) = isM f s := by
  unfold isB matchR isM
  by_cases h1 : err true f = 0
  · by_cases h2 : err false s = 0
    · simp [h1, h2]
    · simp [h1, h2]
  · simp [h1]

theorem isB_overlap (f g : List UInt8) : isB (overlapR f g) = isO f g := by
  unfold isB overlapR pairErr isO
  by_cases h1 : err true f = 0
  · by_cases h2 : err true g = 0
    · simp [h1, h2]
    · simp [h1, h2]
  · simp [h1]

theorem isB_covers (f g : List UInt8) : isB (coversR f g) = isC f g := by
  unfold isB coversR pairErr isC
  by_cases h1 : err true f = 0
  · by_cases h2 : err true g = 0
    · simp [h1, h2]
    · simp [h1, h2]
  · simp [h1]

theorem isO_comm (f g : List UInt8) : isO g f = isO f g := by
  unfold isO
  rw [overlap_comm, Bool.and_comm (err true g == 0)]

theorem isO_of_isM {f g s : List UInt8} (h1 : isM f s = true) (h2 : isM g s = true) : isO f g = true := by
  unfold isM at h1 h2
  simp only [Bool.and_eq_true] at h1 h2
  unfold isO
  rw [h1.1.1, h2.1.1, overlap_of_takes _ _ _ h1.2 h2.2]
  rfl

theorem isM_of_isC {f g s : List UInt8} (h1 : isC f g = true) (h2 : isM g s = true) : isM f s = true := by
  unfold isM at h2 ⊢
  unfold isC at h1
  simp only [Bool.and_eq_true] at h1 h2
  rw [h1.1.1, h2.1.2, takes_of_covers _ _ _ h1.2 h2.2]
  rfl

theorem isO_of_isC {f g : List UInt8} (h1 : isC f g = true) : isO f g = true := by
  unfold isC at h1
  unfold isO
  simp only [Bool.and_eq_true] at h1
  rw [h1.1.1, h1.1.2, overlap_of_covers _ _ h1.2]
  rfl

theorem isC_trans {f g h : List UInt8} (h1 : isC f g = true) (h2 : isC g h = true) : isC f h = true := by
  unfold isC at h1 h2 ⊢
  simp only [Bool.and_eq_true] at h1 h2
  rw [h1.1.1, h2.1.2, covers_trans _ _ _ h1.2 h2.2]
  rfl

theorem isO_trans {f g h : List UInt8} (h1 : isC f g = true) (h2 : isO g h = true) : isO f h = true := by
  unfold isC at h1
  unfold isO at h2 ⊢
  simp only [Bool.and_eq_true] at h1 h2
  rw [h1.1.1, h2.1.2, overlap_trans _ _ _ h1.2 h2.2]
  rfl

theorem isC_antisymm {f g : List UInt8} (h1 : isC f g = true) (h2 : isC g f = true) : f = g := by
  unfold isC at h1 h2
  simp only [Bool.and_eq_true, beq_iff_eq] at h1 h2
  have a := (err_zero true f).1 h1.1.1
  have b := (err_zero true g).1 h1.1.2
  exact pieces_inj (covers_antisymm _ _ a.2 b.2 h1.2 h2.2)

/-! ### The calls, from a world to a world -/

/-- What every call keeps: the length's cell is there; nothing of the first world is turned. -/
def Inv (w0 w : World) : Prop := ML w ∧ Below w0.heap.size w0 w

theorem Inv.refl {w : World} (h : ML w) : Inv w w := ⟨h, Below.refl _ _⟩
theorem Inv.step {w0 w w' : World} (h : Inv w0 w) (hb : Below w.heap.size w w') : Inv w0 w' := ⟨h.1.below hb, h.2.trans (hb.mono h.2.size)⟩

def IsRet (w0 : World) (b : Bool) (e : Ending) (w' : World) : Prop := e = .returned (.bool b) ∧ Inv w0 w'

end Go.Proofs.YtidacfhdhdnidaaGreatDoor.Subj

namespace Go.Proofs.YtidacfhdhdnidaaGreatDoor.Subj
open Go.RowKit

/-- A call that returns a number and keeps. -/
def IntRet (w0 : World) (n : Nat) (e : Ending) (w' : World) : Prop := e = .returned (.int .i64 n) ∧ Inv w0 w'

theorem subjectN_inv {w0 : World} (s : ByteArray) (hs : s.size ≤ 1048576) (w : World) (h : Inv w0 w) : Calls Tryz.prog 170 #[.string s] w (IntRet w0 (err false s.data.toList)) :=
  (subject_any s w hs h.1).mono fun _ _ ⟨a, b⟩ => ⟨a, h.step b⟩
theorem filterN_inv {w0 : World} (s : ByteArray) (hs : s.size ≤ 1048576) (w : World) (h : Inv w0 w) : Calls Tryz.prog 137 #[.string s] w (IntRet w0 (err true s.data.toList)) :=
  (filter_any s w hs h.1).mono fun _ _ ⟨a, b⟩ => ⟨a, h.step b⟩
theorem refSubject_inv {w0 : World} (s : ByteArray) (hs : s.size ≤ 1048576) (w : World) (h : Inv w0 w) : Calls Tryz.prog 157 #[.string s] w (IntRet w0 (err false s.data.toList)) :=
  (refSubject_any s w hs).mono fun _ _ ⟨a, b⟩ => ⟨a, h.step b⟩
theorem refFilter_inv {w0 : World} (s : ByteArray) (hs : s.size ≤ 1048576) (w : World) (h : Inv w0 w) : Calls Tryz.prog 83 #[.string s] w (IntRet w0 (err true s.data.toList)) :=
  (refFilter_any s w hs).mono fun _ _ ⟨a, b⟩ => ⟨a, h.step b⟩

end Go.Proofs.YtidacfhdhdnidaaGreatDoor.Subj

namespace Go.Proofs.YtidacfhdhdnidaaGreatDoor.Subj
open Go.RowKit
end Go.Proofs.YtidacfhdhdnidaaGreatDoor.Subj
