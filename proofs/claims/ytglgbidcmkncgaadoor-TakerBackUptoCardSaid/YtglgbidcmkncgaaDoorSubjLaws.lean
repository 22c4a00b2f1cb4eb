/- The laws of filters, of the Lean functions. No program here. -/
import Derived.Test.YtglgbidcmkncgaaDoorSubjPlain
namespace Go.Proofs.YtglgbidcmkncgaaDoor.Subj

theorem overlap_comm : ∀ f g : List Tok, overlap f g = overlap g f
  | [], [] => rfl
  | [], _ :: _ => rfl
  | _ :: _, [] => rfl
  | x :: f, y :: g => by
    simp only [overlap]
    rw [overlap_comm f g, Bool.or_comm (x == [62])]
    have h1 : (x == y) = (y == x) := by rw [Bool.eq_iff_iff]; simp; exact eq_comm
    rw [h1, Bool.or_assoc, Bool.or_comm (x == [42]), ← Bool.or_assoc]

theorem overlap_of_takes : ∀ f g s : List Tok, takes f s = true → takes g s = true → overlap f g = true
  | [], [], _, _, _ => rfl
  | [], y :: g, s, h1, h2 => by
    simp [takes] at h1; subst h1
    simp [takes] at h2
  | x :: f, [], s, h1, h2 => by
    simp [takes] at h2; subst h2
    simp [takes] at h1
  | x :: f, y :: g, s, h1, h2 => by
    simp only [overlap]
    by_cases hx : x = [62]
    · simp [hx]
    · by_cases hy : y = [62]
      · simp [hy]
      · cases s with
        | nil => simp [takes, hx] at h1
        | cons z s =>
          simp [takes, hx] at h1
          simp [takes, hy] at h2
          have ih := overlap_of_takes f g s h1.2 h2.2
          simp [hx, hy, ih]
          rcases h1.1 with a | a <;> rcases h2.1 with b | b <;> simp [a, b]

theorem takes_of_covers : ∀ f g s : List Tok, covers f g = true → takes g s = true → takes f s = true
  | [], g, s, h1, h2 => by
    simp [covers] at h1; subst h1; exact h2
  | x :: f, [], s, h1, _ => by simp [covers] at h1
  | x :: f, y :: g, s, h1, h2 => by
    have hs : s ≠ [] := by
      intro e; subst e; simp [takes] at h2
    cases s with
    | nil => exact absurd rfl hs
    | cons z s =>
      by_cases hx : x = [62]
      · simp [takes, hx]
      · simp [covers, hx] at h1
        obtain ⟨⟨hy, hxy⟩, hc⟩ := h1
        simp [takes, hy] at h2
        have ih := takes_of_covers f g s hc h2.2
        simp [takes, hx, ih]
        rcases hxy with a | a
        · exact .inl a
        · rcases h2.1 with b | b
          · exact .inl (a.trans b)
          · exact .inr (a.trans b)

theorem overlap_of_covers : ∀ f g : List Tok, covers f g = true → overlap f g = true
  | [], g, h => by simpa [covers, overlap] using h
  | x :: f, [], h => by simp [covers] at h
  | x :: f, y :: g, h => by
    by_cases hx : x = [62]
    · simp [overlap, hx]
    · simp [covers, hx] at h
      obtain ⟨⟨hy, hxy⟩, hc⟩ := h
      simp [overlap, hx, hy, overlap_of_covers f g hc]
      rcases hxy with a | a
      · exact .inl (.inr a)
      · exact .inl (.inl a)

theorem covers_trans : ∀ f g h : List Tok, covers f g = true → covers g h = true → covers f h = true
  | [], g, h, h1, h2 => by
    simp [covers] at h1; subst h1; exact h2
  | x :: f, [], h, h1, _ => by simp [covers] at h1
  | x :: f, y :: g, [], _, h2 => by simp [covers] at h2
  | x :: f, y :: g, z :: h, h1, h2 => by
    by_cases hx : x = [62]
    · simp [covers, hx]
    · simp [covers, hx] at h1
      obtain ⟨⟨hy, hxy⟩, hc⟩ := h1
      simp [covers, hy] at h2
      obtain ⟨⟨hz, hyz⟩, hd⟩ := h2
      simp [covers, hx, hz, covers_trans f g h hc hd]
      rcases hxy with a | a
      · exact .inl a
      · rcases hyz with b | b
        · exact .inl (a.trans b)
        · exact .inr (a.trans b)

theorem overlap_trans : ∀ f g h : List Tok, covers f g = true → overlap g h = true → overlap f h = true
  | [], g, h, h1, h2 => by
    simp [covers] at h1; subst h1; exact h2
  | x :: f, [], h, h1, _ => by simp [covers] at h1
  | x :: f, y :: g, [], _, h2 => by simp [overlap] at h2
  | x :: f, y :: g, z :: h, h1, h2 => by
    by_cases hx : x = [62]
    · simp [overlap, hx]
    · by_cases hz : z = [62]
      · simp [overlap, hz]
      · simp [covers, hx] at h1
        obtain ⟨⟨hy, hxy⟩, hc⟩ := h1
        simp [overlap, hy, hz] at h2
        obtain ⟨hyz, hd⟩ := h2
        simp [overlap, hx, hz, overlap_trans f g h hc hd]
        rcases hxy with a | a
        · exact .inl (.inr a)
        · rcases hyz with (b | b) | b
          · exact .inl (.inl (a.trans b))
          · exact .inl (.inr (a.trans b))
          · exact .inr b

theorem covers_refl : ∀ f : List Tok, covers f f = true
  | [] => rfl
  | x :: f => by
    by_cases hx : x = [62]
    · simp [covers, hx]
    · simp [covers, hx, covers_refl f]

theorem covers_antisymm : ∀ f g : List Tok, okPieces true f = true → okPieces true g = true → covers f g = true → covers g f = true → f = g
  | [], g, _, _, h1, _ => by simp [covers] at h1; exact h1.symm
  | x :: f, [], _, _, h1, _ => by simp [covers] at h1
  | x :: f, y :: g, o1, o2, h1, h2 => by
    have last : ∀ (t : Tok) (ts : List Tok), okPieces true (t :: ts) = true → t = [62] → ts = [] := by
      intro t ts h e
      subst e
      simp only [okPieces] at h
      have : tokenOk [62] = false := by decide
      rw [this] at h
      simp at h
      exact h.1
    have rest : ∀ (t : Tok) (ts : List Tok), okPieces true (t :: ts) = true → okPieces true ts = true := by
      intro t ts h
      simp only [okPieces, Bool.and_eq_true] at h
      exact h.2
    by_cases hx : x = [62]
    · have hy : y = [62] := by
        by_cases hy : y = [62]
        · exact hy
        · simp [covers, hy, hx] at h2
      have a := last x f o1 hx
      have b := last y g o2 hy
      rw [hx, hy, a, b]
    · by_cases hy : y = [62]
      · simp [covers, hx, hy] at h1
      · simp [covers, hx, hy] at h1 h2
        have ih := covers_antisymm f g (rest x f o1) (rest y g o2) h1.2 h2.2
        rw [ih]
        rcases h1.1 with a | a
        · rcases h2.1 with b | b
          · rw [a, b]
          · rw [b]
        · rw [a]

theorem okPieces_wild : ∀ l : List Tok, okPieces false l = true → okPieces true l = true
  | [], _ => rfl
  | t :: ts, h => by
    simp only [okPieces, Bool.false_and, Bool.false_or, Bool.and_eq_true] at h ⊢
    exact ⟨by rw [h.1]; simp, okPieces_wild ts h.2⟩

theorem token_plain (t : Tok) (h : tokenOk t = true) : t ≠ [42] ∧ t ≠ [62] := by
  constructor
  · intro e; subst e; exact absurd h (by decide)
  · intro e; subst e; exact absurd h (by decide)

theorem takes_plain : ∀ f s : List Tok, okPieces false f = true → (takes f s = true ↔ f = s)
  | [], s, _ => by simp [takes]
  | t :: f, s, h => by
    simp only [okPieces, Bool.false_and, Bool.false_or, Bool.and_eq_true] at h
    obtain ⟨h1, h2⟩ := token_plain t h.1
    cases s with
    | nil => simp [takes, h2]
    | cons x s =>
      simp [takes, h1, h2]
      intro _
      exact takes_plain f s h.2

/-- The text of pieces. -/
def joined : List Tok → List UInt8
  | [] => []
  | [t] => t
  | t :: u :: ts => t ++ 46 :: joined (u :: ts)

theorem joined_pieces : ∀ l : List UInt8, joined (pieces l) = l
  | [] => rfl
  | b :: l => by
    have ih := joined_pieces l
    unfold pieces
    split
    · rename_i h
      cases hp : pieces l with
      | nil => exact absurd hp (pieces_ne l)
      | cons p ps =>
        rw [hp] at ih
        simp [joined, ih, h]
    · split
      · rename_i p ps hp
        rw [hp] at ih
        cases ps with
        | nil => simp [joined] at ih ⊢; exact ih
        | cons q ps => simp [joined] at ih ⊢; exact ih
      · rename_i hp
        exact absurd hp (pieces_ne l)

theorem pieces_inj {a b : List UInt8} (h : pieces a = pieces b) : a = b := by
  rw [← joined_pieces a, ← joined_pieces b, h]

theorem err_zero (wild : Bool) (l : List UInt8) : err wild l = 0 ↔ (pieces l).length ≤ 8 ∧ okPieces wild (pieces l) = true := by
  unfold err
  split
  · constructor
    · intro h; cases h
    · rintro ⟨h, _⟩; omega
  · split
    · rename_i h1 h2; exact ⟨fun _ => ⟨by omega, h2⟩, fun _ => rfl⟩
    · rename_i h1 h2; exact ⟨fun h => (by cases h), fun ⟨_, h⟩ => absurd h h2⟩

theorem err_wild (l : List UInt8) (h : err false l = 0) : err true l = 0 := by
  rw [err_zero] at h ⊢
  exact ⟨h.1, okPieces_wild _ h.2⟩

end Go.Proofs.YtglgbidcmkncgaaDoor.Subj
