/- A subject that two overlapping filters take, token by token. No program here. -/
import Derived.Test.YtglgbidcmkncgaaDoorSubjInv
namespace Go.Proofs.YtglgbidcmkncgaaDoor.Subj

/-- A token that is none of the wild ones; else nothing. -/
def bare (t : Tok) : Tok := if t == [42] || t == [62] then [] else t
def pick (x y : Tok) : Tok := if x ≠ [] then x else if y ≠ [] then y else [120]

def shownB : List Tok → List Tok
  | [] => []
  | y :: b => pick [] (bare y) :: shownB b
def shownR : List Tok → List Tok → List Tok
  | [], b => shownB b
  | x :: a, [] => pick (bare x) [] :: shownR a []
  | x :: a, y :: b => pick (bare x) (bare y) :: shownR a b

theorem shown_nil : shownR [] [] = [] := rfl
theorem shown_left (x : Tok) (a : List Tok) : shownR (x :: a) [] = pick (bare x) [] :: shownR a [] := rfl
theorem shown_right (y : Tok) (b : List Tok) : shownR [] (y :: b) = pick [] (bare y) :: shownR [] b := rfl
theorem shown_both (x y : Tok) (a b : List Tok) : shownR (x :: a) (y :: b) = pick (bare x) (bare y) :: shownR a b := rfl

theorem shownR_len : ∀ a b, (shownR a b).length = max a.length b.length
  | [], [] => rfl
  | x :: a, [] => by simp [shown_left, shownR_len a []]
  | [], y :: b => by simp [shown_right, shownR_len [] b]
  | x :: a, y :: b => by simp [shown_both, shownR_len a b]

/-- A list's token at a place: nothing beyond its end. -/
def tk (a : List Tok) (i : Nat) : Tok := if i < a.length then bare (a.getD i []) else []

theorem shownR_get : ∀ (a b : List Tok) (i : Nat), i < max a.length b.length → (shownR a b)[i]? = some (pick (tk a i) (tk b i))
  | [], [], i, h => by simp at h
  | x :: a, [], 0, _ => by simp [shown_left, shown_right, shown_both, tk]
  | x :: a, [], i + 1, h => by
    have := shownR_get a [] i (by simpa using h)
    simp [shown_left, shown_right, shown_both, tk] at this ⊢
    exact this
  | [], y :: b, 0, _ => by simp [shown_left, shown_right, shown_both, tk]
  | [], y :: b, i + 1, h => by
    have := shownR_get [] b i (by simpa using h)
    simp [shown_left, shown_right, shown_both, tk] at this ⊢
    exact this
  | x :: a, y :: b, 0, _ => by simp [shown_left, shown_right, shown_both, tk]
  | x :: a, y :: b, i + 1, h => by
    have := shownR_get a b i (by simp at h ⊢; omega)
    simp [shown_left, shown_right, shown_both, tk] at this ⊢
    exact this

theorem bare_wild {wild : Bool} {t : Tok} {l : List Tok} (h : okPieces wild (t :: l) = true) : (t = [42] ∨ (t = [62] ∧ l = [])) ∧ bare t = [] ∨ tokenOk t = true ∧ bare t = t := by
  simp only [okPieces, Bool.and_eq_true] at h
  rcases Bool.or_eq_true_iff.1 h.1 with h1 | h1
  · left
    simp only [Bool.and_eq_true, Bool.or_eq_true, beq_iff_eq, List.isEmpty_iff] at h1
    refine ⟨h1.2, ?_⟩
    rcases h1.2 with h2 | h2
    · simp [bare, h2]
    · simp [bare, h2.1]
  · right
    obtain ⟨a, b⟩ := token_plain t h1
    exact ⟨h1, by simp [bare, a, b]⟩

theorem token_ne {t : Tok} (h : tokenOk t = true) : t ≠ [] := by
  rintro rfl
  simp [tokenOk] at h

theorem ok_tail {wild : Bool} {t : Tok} {l : List Tok} (h : okPieces wild (t :: l) = true) : okPieces wild l = true := by
  simp only [okPieces, Bool.and_eq_true] at h
  exact h.2

theorem pick_ok {x y : Tok} {a b : List Tok} (hx : okPieces true (x :: a) = true) (hy : okPieces true (y :: b) = true) : tokenOk (pick (bare x) (bare y)) = true := by
  rcases bare_wild hx with ⟨_, e1⟩ | ⟨h1, e1⟩
  · rcases bare_wild hy with ⟨_, e2⟩ | ⟨h2, e2⟩
    · rw [e1, e2]; decide
    · rw [e1, e2, pick, if_neg (by simp), if_pos (token_ne h2)]; exact h2
  · rw [e1, pick, if_pos (token_ne h1)]; exact h1
theorem pick_left {x : Tok} {a : List Tok} (hx : okPieces true (x :: a) = true) : tokenOk (pick (bare x) []) = true := by
  rcases bare_wild hx with ⟨_, e1⟩ | ⟨h1, e1⟩
  · rw [e1]; decide
  · rw [e1, pick, if_pos (token_ne h1)]; exact h1
theorem pick_right {y : Tok} {b : List Tok} (hy : okPieces true (y :: b) = true) : tokenOk (pick [] (bare y)) = true := by
  rcases bare_wild hy with ⟨_, e1⟩ | ⟨h1, e1⟩
  · rw [e1]; decide
  · rw [e1, pick, if_neg (by simp), if_pos (token_ne h1)]; exact h1

theorem ok_cons {t : Tok} {l : List Tok} (h : tokenOk t = true) (h2 : okPieces false l = true) : okPieces false (t :: l) = true := by
  simp [okPieces, h, h2]

theorem shownR_ok : ∀ a b : List Tok, okPieces true a = true → okPieces true b = true → okPieces false (shownR a b) = true
  | [], [], _, _ => rfl
  | x :: a, [], ha, _ => ok_cons (pick_left ha) (shownR_ok a [] (ok_tail ha) rfl)
  | [], y :: b, _, hb => ok_cons (pick_right hb) (shownR_ok [] b rfl (ok_tail hb))
  | x :: a, y :: b, ha, hb => ok_cons (pick_ok ha hb) (shownR_ok a b (ok_tail ha) (ok_tail hb))

theorem takes_cons {t : Tok} {f : List Tok} {x : Tok} {s : List Tok} (h : t = [62] ∨ ((t = [42] ∨ t = x) ∧ takes f s = true)) : takes (t :: f) (x :: s) = true := by
  unfold takes
  by_cases e : t = [62]
  · simp [e]
  · rcases h with h | ⟨h, h2⟩
    · exact absurd h e
    · simp [e, h, h2]

theorem takes_left : ∀ a : List Tok, okPieces true a = true → takes a (shownR a []) = true
  | [], _ => rfl
  | x :: a, h => by
    refine takes_cons ?_
    rcases bare_wild h with ⟨h1 | h1, _⟩ | ⟨h1, e⟩
    · exact .inr ⟨.inl h1, takes_left a (ok_tail h)⟩
    · exact .inl h1.1
    · exact .inr ⟨.inr (by rw [e, pick, if_pos (token_ne h1)]), takes_left a (ok_tail h)⟩
theorem takes_right : ∀ b : List Tok, okPieces true b = true → takes b (shownR [] b) = true
  | [], _ => rfl
  | x :: a, h => by
    refine takes_cons ?_
    rcases bare_wild h with ⟨h1 | h1, _⟩ | ⟨h1, e⟩
    · exact .inr ⟨.inl h1, takes_right a (ok_tail h)⟩
    · exact .inl h1.1
    · exact .inr ⟨.inr (by rw [e, pick, if_neg (by simp), if_pos (token_ne h1)]), takes_right a (ok_tail h)⟩

theorem takes_shown : ∀ a b : List Tok, okPieces true a = true → okPieces true b = true → overlap a b = true → takes a (shownR a b) = true ∧ takes b (shownR a b) = true
  | [], [], _, _, _ => ⟨rfl, rfl⟩
  | x :: a, [], _, _, h => by simp [overlap] at h
  | [], y :: b, _, _, h => by simp [overlap] at h
  | x :: a, y :: b, ha, hb, h => by
    have ih := takes_shown a b (ok_tail ha) (ok_tail hb)
    unfold overlap at h
    rcases bare_wild ha with ⟨h1, e1⟩ | ⟨h1, e1⟩ <;> rcases bare_wild hb with ⟨h2, e2⟩ | ⟨h2, e2⟩
    · rcases h1 with h1 | ⟨h1, rfl⟩
      · rcases h2 with h2 | ⟨h2, rfl⟩
        · subst h1 h2
          have := ih (by simpa using h)
          exact ⟨takes_cons (.inr ⟨.inl rfl, this.1⟩), takes_cons (.inr ⟨.inl rfl, this.2⟩)⟩
        · exact ⟨takes_cons (.inr ⟨.inl h1, takes_left a (ok_tail ha)⟩), takes_cons (.inl h2)⟩
      · refine ⟨takes_cons (.inl h1), takes_cons ?_⟩
        rcases h2 with h2 | ⟨h2, rfl⟩
        · exact .inr ⟨.inl h2, takes_right b (ok_tail hb)⟩
        · exact .inl h2
    · obtain ⟨p1, p2⟩ := token_plain y h2
      have hp : pick (bare x) (bare y) = y := by rw [e1, e2, pick, if_neg (by simp), if_pos (token_ne h2)]
      rcases h1 with h1 | ⟨h1, rfl⟩
      · subst h1
        have := ih (by simpa [p2] using h)
        exact ⟨takes_cons (.inr ⟨.inl rfl, this.1⟩), takes_cons (.inr ⟨.inr hp.symm, this.2⟩)⟩
      · exact ⟨takes_cons (.inl h1), takes_cons (.inr ⟨.inr hp.symm, takes_right b (ok_tail hb)⟩)⟩
    · obtain ⟨p1, p2⟩ := token_plain x h1
      have hp : pick (bare x) (bare y) = x := by rw [e1, pick, if_pos (token_ne h1)]
      rcases h2 with h2 | ⟨h2, rfl⟩
      · subst h2
        have := ih (by simpa [p2] using h)
        exact ⟨takes_cons (.inr ⟨.inr hp.symm, this.1⟩), takes_cons (.inr ⟨.inl rfl, this.2⟩)⟩
      · exact ⟨takes_cons (.inr ⟨.inr hp.symm, takes_left a (ok_tail ha)⟩), takes_cons (.inl h2)⟩
    · obtain ⟨p1, p2⟩ := token_plain x h1
      obtain ⟨q1, q2⟩ := token_plain y h2
      have hp : pick (bare x) (bare y) = x := by rw [e1, pick, if_pos (token_ne h1)]
      simp [p1, p2, q1, q2] at h
      obtain ⟨rfl, h3⟩ := h
      have := ih h3
      exact ⟨takes_cons (.inr ⟨.inr hp.symm, this.1⟩), takes_cons (.inr ⟨.inr hp.symm, this.2⟩)⟩

/-- Tokens of right subjects hold no dot where they came out of a text. -/
theorem pieces_nodot : ∀ l : List UInt8, ∀ t ∈ pieces l, (46 : UInt8) ∉ t
  | [], t, h => by simp [pieces] at h; subst h; simp
  | b :: l, t, h => by
    have ih := pieces_nodot l
    unfold pieces at h
    split at h
    · rcases List.mem_cons.1 h with rfl | h
      · simp
      · exact ih t h
    · rename_i hb
      split at h
      · rename_i p ps e
        rw [e] at ih
        rcases List.mem_cons.1 h with rfl | h
        · intro hc
          rcases List.mem_cons.1 hc with hc | hc
          · exact hb hc.symm
          · exact ih p (by simp) hc
        · exact ih t (by simp [h])
      · simp at h; subst h
        simp; exact fun e => hb e.symm

theorem pieces_single (t : Tok) (h : (46 : UInt8) ∉ t) : pieces t = [t] := by
  induction t with
  | nil => rfl
  | cons b t ih =>
    unfold pieces
    rw [if_neg (fun e => h (by simp [e])), ih (fun e => h (by simp [e]))]

theorem pieces_append (t : Tok) (l : List UInt8) (h : (46 : UInt8) ∉ t) : pieces (t ++ 46 :: l) = t :: pieces l := by
  induction t with
  | nil => simp [pieces]
  | cons b t ih =>
    show pieces (b :: (t ++ 46 :: l)) = _
    conv => lhs; unfold pieces
    rw [if_neg (fun e => h (by simp [e])), ih (fun e => h (by simp [e]))]

theorem pieces_joined : ∀ L : List Tok, L ≠ [] → (∀ t ∈ L, (46 : UInt8) ∉ t) → pieces (joined L) = L
  | [], h, _ => absurd rfl h
  | [t], _, h => by
    show pieces t = _
    exact pieces_single t (h t (by simp))
  | t :: u :: L, _, h => by
    show pieces (t ++ 46 :: joined (u :: L)) = _
    rw [pieces_append t _ (h t (by simp)), pieces_joined (u :: L) (by simp) (fun x hx => h x (by simp [hx]))]

theorem shownR_nodot : ∀ a b : List Tok, (∀ t ∈ a, (46 : UInt8) ∉ t) → (∀ t ∈ b, (46 : UInt8) ∉ t) → ∀ t ∈ shownR a b, (46 : UInt8) ∉ t := by
  have hb : ∀ t : Tok, (46 : UInt8) ∉ t → (46 : UInt8) ∉ bare t := fun t h => by unfold bare; split <;> simp [h]
  have hp : ∀ x y : Tok, (46 : UInt8) ∉ x → (46 : UInt8) ∉ y → (46 : UInt8) ∉ pick x y := fun x y h1 h2 => by
    unfold pick; split
    · exact h1
    · split
      · exact h2
      · decide
  intro a b ha hbb t ht
  obtain ⟨i, hi, e⟩ := List.mem_iff_getElem.1 ht
  rw [shownR_len] at hi
  have h1 := shownR_get a b i hi
  rw [List.getElem?_eq_getElem (by rw [shownR_len]; exact hi), e] at h1
  rw [Option.some.inj h1]
  have hk : ∀ l : List Tok, (∀ t ∈ l, (46 : UInt8) ∉ t) → (46 : UInt8) ∉ tk l i := fun l hl => by
    unfold tk; split
    · rename_i hlt
      refine hb _ (hl _ ?_)
      rw [List.getD_eq_getElem?_getD, List.getElem?_eq_getElem hlt]
      exact List.getElem_mem hlt
    · simp
  exact hp _ _ (hk a ha) (hk b hbb)

theorem shown_isM {f g : List UInt8} (h : isO f g = true) : isM f (joined (shownR (pieces f) (pieces g))) = true ∧ isM g (joined (shownR (pieces f) (pieces g))) = true := by
  unfold isO at h
  simp only [Bool.and_eq_true, beq_iff_eq] at h
  obtain ⟨⟨h1, h2⟩, h3⟩ := h
  obtain ⟨l1, o1⟩ := (err_zero true f).1 h1
  obtain ⟨l2, o2⟩ := (err_zero true g).1 h2
  have hne : shownR (pieces f) (pieces g) ≠ [] := by
    intro e
    have := shownR_len (pieces f) (pieces g)
    rw [e] at this
    have hp := List.length_pos_iff.2 (pieces_ne f)
    simp at this; omega
  have hpj := pieces_joined _ hne (shownR_nodot _ _ (pieces_nodot f) (pieces_nodot g))
  have he : err false (joined (shownR (pieces f) (pieces g))) = 0 := by
    rw [err_zero, hpj, shownR_len]
    exact ⟨by omega, shownR_ok _ _ o1 o2⟩
  obtain ⟨t1, t2⟩ := takes_shown _ _ o1 o2 h3
  unfold isM
  rw [h1, h2, he, hpj, t1, t2]
  exact ⟨rfl, rfl⟩
end Go.Proofs.YtglgbidcmkncgaaDoor.Subj
