/- What is printed of a right plan is read as it was: in plain Lean. -/
import Derived.Test.YtglgbidcmkncgaaDoorPlanBackPlain
namespace Go.Proofs.YtglgbidcmkncgaaDoor.Subj

theorem okPieces_mem : ∀ {wild : Bool} {l : List Tok}, okPieces wild l = true → ∀ t ∈ l, (32 : UInt8) ∉ t ∧ t.length ≤ 16
  | wild, [], _, t, ht => by cases ht
  | wild, a :: l, h, t, ht => by
    have tok : ∀ t : Tok, tokenOk t = true → (32 : UInt8) ∉ t ∧ t.length ≤ 16 := by
      intro t h
      unfold tokenOk at h
      simp only [Bool.and_eq_true, decide_eq_true_eq] at h
      refine ⟨fun hm => ?_, h.2⟩
      have := List.all_eq_true.1 h.1.1 _ hm
      revert this; decide
    have sp : ∀ t : Tok, (t == [42]) = true ∨ (t == [62]) = true → (32 : UInt8) ∉ t ∧ t.length ≤ 16 := by
      intro t h
      rcases h with h | h <;> (rw [beq_iff_eq] at h; subst h; decide)
    unfold okPieces at h
    rw [Bool.and_eq_true] at h
    rcases List.mem_cons.1 ht with rfl | ht
    · have h1 := h.1
      rw [Bool.or_eq_true, Bool.and_eq_true, Bool.or_eq_true, Bool.and_eq_true] at h1
      rcases h1 with ⟨_, h1 | h1⟩ | h1
      · exact sp _ (.inl h1)
      · exact sp _ (.inr h1.1)
      · exact tok _ h1
    · exact okPieces_mem h.2 t ht

theorem glue_free {c x : UInt8} (hcx : x ≠ c) : ∀ l : List Tok, (∀ t ∈ l, x ∉ t) → x ∉ glue c l
  | [], _ => by simp [glue]
  | [a], h => by simpa [glue] using h a (by simp)
  | a :: b :: r, h => by
    rw [glue_cons a (by simp)]
    have ih := glue_free hcx (b :: r) (fun t ht => h t (List.mem_cons_of_mem _ ht))
    simp only [List.mem_append, List.mem_cons, not_or]
    exact ⟨h a (by simp), hcx, ih⟩

theorem glue_len (c : UInt8) (B : Nat) : ∀ l : List Tok, (∀ t ∈ l, t.length ≤ B) → (glue c l).length ≤ l.length * (B + 1)
  | [], _ => by simp [glue]
  | [a], h => by have := h a (by simp); simp [glue]; omega
  | a :: b :: r, h => by
    rw [glue_cons a (by simp)]
    have h1 := h a (by simp)
    have ih := glue_len c B (b :: r) (fun t ht => h t (List.mem_cons_of_mem _ ht))
    have e : (a :: b :: r).length * (B + 1) = (b :: r).length * (B + 1) + (B + 1) := by
      rw [List.length_cons, Nat.add_mul, Nat.one_mul]
    rw [e, List.length_append, List.length_cons]
    omega

theorem filter_facts {f : List UInt8} (h : err true f = 0) : (32 : UInt8) ∉ f ∧ f.length ≤ 136 := by
  unfold err at h
  split at h
  · cases h
  · rename_i hn
    split at h
    · rename_i hok
      have hm := okPieces_mem hok
      have hg : glue 46 (pieces f) = f := by rw [← piecesC_46]; exact glue_pieces f
      constructor
      · rw [← hg]; exact glue_free (by decide) _ (fun t ht => (hm t ht).1)
      · have := glue_len 46 16 (pieces f) (fun t ht => (hm t ht).2)
        rw [hg] at this
        have h2 : (pieces f).length * (16 + 1) ≤ 8 * 17 := Nat.mul_le_mul (by omega) (by omega)
        omega
    · cases h

theorem name_facts {n : List UInt8} (h : nameOk n = true) : (32 : UInt8) ∉ n ∧ n.length ≤ 16 := by
  unfold nameOk at h
  simp only [Bool.and_eq_true, decide_eq_true_eq] at h
  refine ⟨fun hm => ?_, h.2.2⟩
  have := List.all_eq_true.1 h.1 _ hm
  revert this; decide

theorem plan_facts {n : List UInt8} {fs : List Tok} {vs : List Int} (h : planErr n fs vs = 0) : nameOk n = true ∧ 1 ≤ fs.length ∧ fs.length ≤ 4 ∧ (∀ f ∈ fs, err true f = 0) ∧ inAll vs = true := by
  unfold planErr at h
  split at h
  · rename_i hn
    split at h
    · rename_i hf
      split at h
      · rename_i hi
        unfold filtersErr at hf
        split at hf
        · cases hf
        · split at hf
          · cases hf
          · split at hf
            · contradiction
            · rename_i h1
              refine ⟨hn, by omega, by omega, fun f hm => ?_, hi⟩
              have h2 : firstErr fs = 0 := by
                by_cases e : firstErr fs = 0
                · exact e
                · exact absurd e h1
              obtain ⟨i, hi', rfl⟩ := List.getElem_of_mem hm
              have := firstErr_zero.1 h2 i hi'
              simpa [List.getD, hi'] using this
      · cases h
    · contradiction
  · cases h

theorem words_nodup : words.Nodup := by decide
theorem words_no61 : ∀ w ∈ words, (61 : UInt8) ∉ w := by decide
theorem words_no32 : ∀ w ∈ words, (32 : UInt8) ∉ w := by decide

theorem printL_len {n : List UInt8} {fs : List Tok} {vs : List Int} (h : planErr n fs vs = 0) : (printL n fs vs).length ≤ 1024 := by
  obtain ⟨h1, h2, h3, h4, h5⟩ := plan_facts h
  have l1 := (name_facts h1).2
  have l2 := joinC_len 136 fs (fun f hf => (filter_facts (h4 f hf)).2)
  have hb := inAll_bound h5
  have l3 := tailK_len (vs := vs) (fun k hk => ⟨(hb k hk).1, by have := (hb k hk).2; omega⟩) 8 (Nat.le_refl _)
  have l4 : fs.length * (136 + 1) ≤ 4 * 137 := Nat.mul_le_mul h3 (by omega)
  unfold printL
  simp only [List.length_append, List.length_cons, List.length_nil]
  omega

/-- What is printed is read as it was. -/
theorem parse_print {n : List UInt8} {fs : List Tok} {vs : List Int} (h : planErr n fs vs = 0) (hv : vs.length = 8) (hc : hasComma fs = false) : parseP (printL n fs vs) = (some ⟨n, fs, vs⟩, 0) := by
  have hlen := printL_len h
  obtain ⟨h1, h2, h3, h4, h5⟩ := plan_facts h
  have hb := inAll_bound h5
  have hne : fs ≠ [] := by intro e; rw [e] at h2; simp at h2
  have hpf : piecesC 44 (joinC fs) = fs := by
    rw [joinC_glue]
    refine pieces_glue fs hne fun t ht => ?_
    unfold hasComma at hc
    rw [List.any_eq_false] at hc
    have := hc t ht
    simpa using this
  have hj : (32 : UInt8) ∉ joinC fs := by
    rw [joinC_glue]
    exact glue_free (by decide) _ (fun t ht => (filter_facts (h4 t ht)).1)
  have hpp : piecesC 32 (printL n fs vs) = n :: joinC fs :: tokD words vs := by
    match vs, hv with
    | [x0, x1, x2, x3, x4, x5, x6, x7], _ =>
      unfold printL
      rw [tail_eight]
      have := pieces_tail words [x0, x1, x2, x3, x4, x5, x6, x7] (joinC fs) words_no32 hj
      rw [← this, ← piecesC_sep (name_facts h1).1]
      simp
  have hr : readVals words (tokD words vs) = some (vs, []) := by
    refine readVals_tok words vs (by rw [hv]; rfl) words_nodup words_no61 fun v hvm => ?_
    obtain ⟨i, hi, rfl⟩ := List.getElem_of_mem hvm
    have := hb i (by omega)
    simp only [List.getD, List.getElem?_eq_getElem hi, Option.getD_some] at this
    omega
  unfold parseP
  rw [if_neg (by omega), hpp]
  simp only [hr, hpf, h, if_true]

end Go.Proofs.YtglgbidcmkncgaaDoor.Subj
