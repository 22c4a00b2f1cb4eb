/- What is printed of a consumer's plan is read as it was, and the other way round: in plain Lean. -/
import Derived.Test.YtglgbidcmkncgaaDoorTakePrint2
namespace Go.Proofs.YtglgbidcmkncgaaDoor.Subj

/-- The words of the option i. -/
def optW (i : Nat) (t : TakerP) : List Tok :=
  match i with
  | 0 => fromWs t.src t.start
  | 1 => ackWs t.ack
  | 2 => numWs waitE t.wait
  | 3 => backWs t.back
  | 4 => numWs mostE t.most
  | 5 => numWs pendE t.pend
  | _ => pushWs t.push

def optsF : Nat → Nat → TakerP → List Tok
  | 0, _, _ => []
  | k + 1, i, t => optW i t ++ optsF k (i + 1) t

theorem words_opts (t : TakerP) : wordsT t = t.name :: t.filt :: optsF 7 0 t := by
  simp [wordsT, optsF, optW]

theorem backWs_nil {l : List Int} (h : backWs l = []) : l = [] := by
  unfold backWs at h
  split at h
  · cases h
  · exact List.eq_nil_of_length_eq_zero (by omega)

theorem list_pieces {v : Tok} (h : ((piecesC 44 v).all fun x => decide (0 < numberOf x)) = true) : listT ((piecesC 44 v).map numberOf) = v := by
  have e : ((piecesC 44 v).map numberOf).map Lib.itoa = piecesC 44 v := by
    rw [List.map_map]
    conv => rhs; rw [← List.map_id (piecesC 44 v)]
    refine List.map_congr_left fun x hx => ?_
    have := List.all_eq_true.1 h x hx
    rw [decide_eq_true_eq] at this
    exact (itoa_numberOf this).1
  unfold listT
  rw [e]
  show joinC (piecesC 44 v) = v
  rw [joinC_glue, glue_pieces]

/-- One option, read, stands among the words as it was. -/
theorem optT_words : ∀ {i : Nat} {v : Tok} {t u : TakerP}, i < 7 → optT i v t = some u → optW i t = [] → optW i u = [heads.getD i [] ++ v] ∧ ∀ j, j ≠ i → j < 7 → optW j u = optW j t
  | 0, v, t, u, _, h, _ => by
    unfold optT at h
    simp only at h
    split at h
    · rename_i e; simp only [Option.some.injEq] at h; subst h; subst e
      exact ⟨rfl, fun j hj _ => by match j with | 0 => exact absurd rfl hj | 1 => rfl | 2 => rfl | 3 => rfl | 4 => rfl | 5 => rfl | _ + 6 => rfl⟩
    · split at h
      · rename_i e; simp only [Option.some.injEq] at h; subst h; subst e
        exact ⟨rfl, fun j hj _ => by match j with | 0 => exact absurd rfl hj | 1 => rfl | 2 => rfl | 3 => rfl | 4 => rfl | 5 => rfl | _ + 6 => rfl⟩
      · split at h
        · rename_i e; simp only [Option.some.injEq] at h; subst h
          refine ⟨?_, fun j hj _ => by match j with | 0 => exact absurd rfl hj | 1 => rfl | 2 => rfl | 3 => rfl | 4 => rfl | 5 => rfl | _ + 6 => rfl⟩
          show [fromE ++ Lib.itoa (numberOf v)] = _
          rw [(itoa_numberOf e).1]; rfl
        · cases h
  | 1, v, t, u, _, h, _ => by
    unfold optT at h
    simp only at h
    split at h
    · rename_i e; simp only [Option.some.injEq] at h; subst h; subst e
      exact ⟨rfl, fun j hj _ => by match j with | 0 => rfl | 1 => exact absurd rfl hj | 2 => rfl | 3 => rfl | 4 => rfl | 5 => rfl | _ + 6 => rfl⟩
    · split at h
      · rename_i e; simp only [Option.some.injEq] at h; subst h; subst e
        exact ⟨rfl, fun j hj _ => by match j with | 0 => rfl | 1 => exact absurd rfl hj | 2 => rfl | 3 => rfl | 4 => rfl | 5 => rfl | _ + 6 => rfl⟩
      · cases h
  | 2, v, t, u, _, h, _ => by
    unfold optT at h
    simp only at h
    split at h
    · rename_i e; simp only [Option.some.injEq] at h; subst h
      refine ⟨?_, fun j hj _ => by match j with | 0 => rfl | 1 => rfl | 2 => exact absurd rfl hj | 3 => rfl | 4 => rfl | 5 => rfl | _ + 6 => rfl⟩
      show numWs waitE (numberOf v) = _
      unfold numWs
      rw [if_pos e, (itoa_numberOf e).1]; rfl
    · cases h
  | 3, v, t, u, _, h, hn => by
    unfold optT at h
    simp only at h
    split at h
    · rename_i e; simp only [Option.some.injEq] at h; subst h
      refine ⟨?_, fun j hj _ => by match j with | 0 => rfl | 1 => rfl | 2 => rfl | 3 => exact absurd rfl hj | 4 => rfl | 5 => rfl | _ + 6 => rfl⟩
      have hb : t.back = [] := backWs_nil hn
      show backWs (t.back ++ (piecesC 44 v).map numberOf) = _
      rw [hb, List.nil_append]
      unfold backWs
      have hl : 0 < ((piecesC 44 v).map numberOf).length := by
        rw [List.length_map]; exact List.length_pos_iff.2 (piecesC_ne 44 v)
      rw [if_pos hl, list_pieces e]; rfl
    · cases h
  | 4, v, t, u, _, h, _ => by
    unfold optT at h
    simp only at h
    split at h
    · rename_i e; simp only [Option.some.injEq] at h; subst h
      refine ⟨?_, fun j hj _ => by match j with | 0 => rfl | 1 => rfl | 2 => rfl | 3 => rfl | 4 => exact absurd rfl hj | 5 => rfl | _ + 6 => rfl⟩
      show numWs mostE (numberOf v) = _
      unfold numWs
      rw [if_pos e, (itoa_numberOf e).1]; rfl
    · cases h
  | 5, v, t, u, _, h, _ => by
    unfold optT at h
    simp only at h
    split at h
    · rename_i e; simp only [Option.some.injEq] at h; subst h
      refine ⟨?_, fun j hj _ => by match j with | 0 => rfl | 1 => rfl | 2 => rfl | 3 => rfl | 4 => rfl | 5 => exact absurd rfl hj | _ + 6 => rfl⟩
      show numWs pendE (numberOf v) = _
      unfold numWs
      rw [if_pos e, (itoa_numberOf e).1]; rfl
    · cases h
  | 6, v, t, u, _, h, _ => by
    unfold optT at h
    simp only at h
    split at h
    · rename_i e; simp only [Option.some.injEq] at h; subst h; subst e
      exact ⟨rfl, fun j hj h7 => by match j with | 0 => rfl | 1 => rfl | 2 => rfl | 3 => rfl | 4 => rfl | 5 => rfl | 6 => exact absurd rfl hj | _ + 7 => omega⟩
    · cases h
  | _ + 7, _, _, _, hi, _, _ => by omega

theorem seqF_words : ∀ (k i : Nat) (r : List Tok) (t u : TakerP), k + i = 7 → seqF k i r t = some u → (∀ j, i ≤ j → j < 7 → optW j t = []) → r = optsF k i u ∧ (∀ j, j < i → optW j u = optW j t) ∧ u.name = t.name ∧ u.filt = t.filt
  | 0, i, r, t, u, _, h, _ => by
    unfold seqF at h
    split at h
    · rename_i e; simp only [Option.some.injEq] at h; subst h; subst e
      exact ⟨rfl, fun _ _ => rfl, rfl, rfl⟩
    · cases h
  | k + 1, i, [], t, u, hk, h, hc => by
    rw [seqF_nil] at h
    simp only [Option.some.injEq] at h; subst h
    refine ⟨?_, fun _ _ => rfl, rfl, rfl⟩
    have : ∀ k i, k + i = 7 → (∀ j, i ≤ j → j < 7 → optW j t = []) → optsF k i t = [] := by
      intro k
      induction k with
      | zero => intros; rfl
      | succ k ih => intro i hk hc; unfold optsF; rw [hc i (Nat.le_refl _) (by omega), ih (i + 1) (by omega) (fun j h1 h2 => hc j (by omega) h2)]; rfl
    exact (this (k + 1) i hk hc).symm
  | k + 1, i, x :: r, t, u, hk, h, hc => by
    have h1 : (if (heads.getD i []).isPrefixOf x = true then (optT i (x.drop (heads.getD i []).length) t).bind (seqF k (i + 1) r) else seqF k (i + 1) (x :: r) t) = some u := h
    split at h1
    · rename_i hp
      have h0 := h1
      cases ho : optT i (x.drop (heads.getD i []).length) t with
      | none => rw [ho] at h0; cases h0
      | some t1 =>
        rw [ho] at h0
        have h' : seqF k (i + 1) r t1 = some u := h0
        obtain ⟨w1, w2⟩ := optT_words (by omega) ho (hc i (Nat.le_refl _) (by omega))
        obtain ⟨n1, n2⟩ := optT_name ho
        obtain ⟨a1, a2, a3, a4⟩ := seqF_words k (i + 1) r t1 u (by omega) h' (fun j h1 h2 => by rw [w2 j (by omega) h2]; exact hc j (by omega) h2)
        refine ⟨?_, fun j hj => by rw [a2 j (by omega), w2 j (by omega) (by omega)], by rw [a3, n1], by rw [a4, n2]⟩
        unfold optsF
        rw [a2 i (by omega), w1, ← a1, ← prefix_form hp]
        rfl
    · obtain ⟨a1, a2, a3, a4⟩ := seqF_words k (i + 1) (x :: r) t u (by omega) h1 (fun j h1 h2 => hc j (by omega) h2)
      refine ⟨?_, fun j hj => a2 j (by omega), a3, a4⟩
      unfold optsF
      rw [a2 i (by omega), hc i (Nat.le_refl _) (by omega)]
      exact a1

theorem join_glue32 : ∀ l : List Tok, Lib.join l [32] = glue 32 l
  | [] => rfl
  | a :: r => by rw [join_flat, glue_flat]; rfl

/-- What is read is printed as it stood. -/
theorem printT_parse {s : List UInt8} {t : TakerP} (h : parseT s = (some t, 0)) : textT t = s ∧ errT t = 0 := by
  unfold parseT at h
  split at h
  · cases h
  · split at h
    · rename_i n f r e
      cases hs : seqT 0 r (startT n f) with
      | none => rw [hs] at h; cases h
      | some u =>
        rw [hs] at h
        unfold ansT at h
        simp only at h
        split at h
        · rename_i hz
          simp only [Prod.mk.injEq, Option.some.injEq, and_true] at h
          subst h
          refine ⟨?_, hz⟩
          obtain ⟨a1, _, a3, a4⟩ := seqF_words 7 0 r (startT n f) u rfl hs (fun j _ h7 => by match j with | 0 => rfl | 1 => rfl | 2 => rfl | 3 => rfl | 4 => rfl | 5 => rfl | 6 => rfl | _ + 7 => omega)
          have hg := glue_pieces (c := 32) s
          rw [e, a1] at hg
          unfold textT
          rw [words_opts, a3, a4, join_glue32]
          exact hg
        · rename_i hz
          simp only [Prod.mk.injEq] at h
          exact absurd h.2 hz
    · cases h

/-! ### The other way -/

/-- A plan as far as its first i options are read. -/
def uptoT (i : Nat) (t : TakerP) : TakerP :=
  ⟨t.name, t.filt, if 0 < i then t.src else 0, if 0 < i then t.start else 0, if 1 < i then t.ack else 2, if 2 < i then t.wait else 0, if 3 < i then t.back else [], if 4 < i then t.most else 0, if 5 < i then t.pend else 0, if 6 < i then t.push else false⟩

theorem itoa_isDigit {v : Int} (h0 : 0 < v) : ∀ b ∈ Lib.itoa v, isDigit b = true := by
  unfold Lib.itoa
  rw [if_neg (by omega)]
  obtain ⟨f1, _⟩ := decDigits_facts v.toNat v.toNat (Nat.le_refl _)
  exact List.all_eq_true.1 f1

theorem itoa_no (c : UInt8) (hc : isDigit c = false) {v : Int} (h0 : 0 < v) : c ∉ Lib.itoa v := fun h => by
  have := itoa_isDigit h0 c h
  rw [hc] at this; cases this

theorem itoa_word {v : Int} (h0 : 0 < v) {c : UInt8} {r : Tok} (hc : isDigit c = false) : Lib.itoa v ≠ c :: r := fun e =>
  itoa_no c hc h0 (by rw [e]; simp)

theorem listT_pieces {back : List Int} (h0 : 0 < back.length) (hb : ∀ k, k < back.length → 1 ≤ back.getD k 0 ∧ back.getD k 0 ≤ 100000) : piecesC 44 (listT back) = back.map Lib.itoa := by
  show piecesC 44 (joinC (back.map Lib.itoa)) = _
  rw [joinC_glue]
  refine pieces_glue _ (by intro e; have := congrArg List.length e; rw [List.length_map, List.length_nil] at this; omega) fun x hx => ?_
  obtain ⟨z, hz, rfl⟩ := List.mem_map.1 hx
  obtain ⟨j, hj, rfl⟩ := List.getElem_of_mem hz
  have := (hb j hj).1
  simp only [List.getD, List.getElem?_eq_getElem hj, Option.getD_some] at this
  exact itoa_no 44 (by decide) (by omega)

theorem back_read {back : List Int} (hb : ∀ k, k < back.length → 1 ≤ back.getD k 0 ∧ back.getD k 0 ≤ 100000) : (back.map Lib.itoa).all (fun x => decide (0 < numberOf x)) = true ∧ (back.map Lib.itoa).map numberOf = back := by
  have hz : ∀ z ∈ back, numberOf (Lib.itoa z) = z ∧ 0 < z := by
    intro z hz
    obtain ⟨j, hj, rfl⟩ := List.getElem_of_mem hz
    have := hb j hj
    simp only [List.getD, List.getElem?_eq_getElem hj, Option.getD_some] at this
    exact ⟨numberOf_itoa (by omega) (by omega), by omega⟩
  constructor
  · rw [List.all_eq_true]
    intro x hx
    obtain ⟨z, hz1, rfl⟩ := List.mem_map.1 hx
    rw [(hz z hz1).1]
    exact decide_eq_true (hz z hz1).2
  · rw [List.map_map]
    conv => rhs; rw [← List.map_id back]
    exact List.map_congr_left fun z h => (hz z h).1

/-- One option of a right plan: it is none, or it is read as it was. -/
theorem opt_step {t : TakerP} (h : errT t = 0) : ∀ {i : Nat}, i < 7 → (optW i t = [] ∧ uptoT (i + 1) t = uptoT i t) ∨ ∃ v, optW i t = [heads.getD i [] ++ v] ∧ optT i v (uptoT i t) = some (uptoT (i + 1) t) := by
  obtain ⟨_, _, _, hargs⟩ := errT_facts h
  obtain ⟨f1, f2, f3, f4, f5, _, _, f7, f8, f9⟩ := argsOk_facts hargs
  have f10 : t.src ≠ 3 → t.start = 0 := fun hne => by
    unfold argsOk at hargs
    simp only [Bool.and_eq_true] at hargs
    have := hargs.1.1.2
    unfold startOk at this
    rw [if_neg (by simpa using hne), beq_iff_eq] at this
    exact this
  obtain ⟨name, filt, src, start, ack, wait, back, most, pend, push⟩ := t
  simp only at f1 f2 f3 f4 f5 f7 f8 f9 f10
  intro i hi
  match i with
  | 0 =>
    have hs : src = 0 ∨ src = 1 ∨ src = 2 ∨ src = 3 := by omega
    rcases hs with rfl | rfl | rfl | rfl
    · left; have := f10 (by decide); subst this; exact ⟨rfl, rfl⟩
    · right; have := f10 (by decide); subst this; exact ⟨lastW, rfl, rfl⟩
    · right; have := f10 (by decide); subst this; exact ⟨newW, rfl, rfl⟩
    · right
      have h3 := f2 rfl
      refine ⟨Lib.itoa start, rfl, ?_⟩
      unfold optT
      simp only
      rw [if_neg (show Lib.itoa start ≠ lastW from itoa_word (by omega) (by decide)), if_neg (show Lib.itoa start ≠ newW from itoa_word (by omega) (by decide)), numberOf_itoa (by omega) (by omega), if_pos (by omega)]
      rfl
  | 1 =>
    have hs : ack = 0 ∨ ack = 1 ∨ ack = 2 := by omega
    rcases hs with rfl | rfl | rfl
    · right; exact ⟨noneW, rfl, rfl⟩
    · right; exact ⟨allW, rfl, rfl⟩
    · left; exact ⟨rfl, rfl⟩
  | 2 =>
    by_cases hz : 0 < wait
    · right
      refine ⟨Lib.itoa wait, by show numWs waitE wait = _; unfold numWs; rw [if_pos hz]; rfl, ?_⟩
      unfold optT
      simp only
      rw [numberOf_itoa hz (by omega), if_pos hz]; rfl
    · left
      obtain rfl : wait = 0 := by omega
      exact ⟨rfl, rfl⟩
  | 3 =>
    by_cases hz : 0 < back.length
    · right
      refine ⟨listT back, by show backWs back = _; unfold backWs; rw [if_pos hz]; rfl, ?_⟩
      obtain ⟨b1, b2⟩ := back_read f9
      unfold optT
      simp only
      rw [listT_pieces hz f9, if_pos b1, b2]
      rfl
    · left
      obtain rfl : back = [] := List.eq_nil_of_length_eq_zero (by omega)
      exact ⟨rfl, rfl⟩
  | 4 =>
    by_cases hz : 0 < most
    · right
      refine ⟨Lib.itoa most, by show numWs mostE most = _; unfold numWs; rw [if_pos hz]; rfl, ?_⟩
      unfold optT
      simp only
      rw [numberOf_itoa hz (by omega), if_pos hz]; rfl
    · left
      obtain rfl : most = 0 := by omega
      exact ⟨rfl, rfl⟩
  | 5 =>
    by_cases hz : 0 < pend
    · right
      refine ⟨Lib.itoa pend, by show numWs pendE pend = _; unfold numWs; rw [if_pos hz]; rfl, ?_⟩
      unfold optT
      simp only
      rw [numberOf_itoa hz (by omega), if_pos hz]; rfl
    · left
      obtain rfl : pend = 0 := by omega
      exact ⟨rfl, rfl⟩
  | 6 =>
    cases push
    · left; exact ⟨rfl, rfl⟩
    · right; exact ⟨[], rfl, rfl⟩
  | _ + 7 => omega

theorem heads_apart : ∀ {i j : Nat} (v : Tok), i < j → j < 7 → (heads.getD i []).isPrefixOf (heads.getD j [] ++ v) = false
  | 0, 1, v, _, _ => rfl
  | 0, 2, v, _, _ => rfl
  | 0, 3, v, _, _ => rfl
  | 0, 4, v, _, _ => rfl
  | 0, 5, v, _, _ => rfl
  | 0, 6, v, _, _ => rfl
  | 1, 2, v, _, _ => rfl
  | 1, 3, v, _, _ => rfl
  | 1, 4, v, _, _ => rfl
  | 1, 5, v, _, _ => rfl
  | 1, 6, v, _, _ => rfl
  | 2, 3, v, _, _ => rfl
  | 2, 4, v, _, _ => rfl
  | 2, 5, v, _, _ => rfl
  | 2, 6, v, _, _ => rfl
  | 3, 4, v, _, _ => rfl
  | 3, 5, v, _, _ => rfl
  | 3, 6, v, _, _ => rfl
  | 4, 5, v, _, _ => rfl
  | 4, 6, v, _, _ => rfl
  | 5, 6, v, _, _ => rfl
  | _, _ + 7, _, _, h => absurd h (by omega)
  | i + 6, j, _, h, h2 => absurd h2 (by omega)
  | _, 0, _, h, _ => absurd h (by omega)
  | 1, 1, _, h, _ => absurd h (by omega)
  | 2, 1, _, h, _ => absurd h (by omega)
  | 2, 2, _, h, _ => absurd h (by omega)
  | 3, 1, _, h, _ => absurd h (by omega)
  | 3, 2, _, h, _ => absurd h (by omega)
  | 3, 3, _, h, _ => absurd h (by omega)
  | 4, 1, _, h, _ => absurd h (by omega)
  | 4, 2, _, h, _ => absurd h (by omega)
  | 4, 3, _, h, _ => absurd h (by omega)
  | 4, 4, _, h, _ => absurd h (by omega)
  | 5, 1, _, h, _ => absurd h (by omega)
  | 5, 2, _, h, _ => absurd h (by omega)
  | 5, 3, _, h, _ => absurd h (by omega)
  | 5, 4, _, h, _ => absurd h (by omega)
  | 5, 5, _, h, _ => absurd h (by omega)

/-- The words that are left begin as one of the options that are left. -/
theorem opts_head {t : TakerP} (h : errT t = 0) : ∀ (k i : Nat), k + i = 7 → optsF k i t = [] ∨ ∃ j v r, i ≤ j ∧ j < 7 ∧ optsF k i t = (heads.getD j [] ++ v) :: r
  | 0, i, _ => .inl rfl
  | k + 1, i, hk => by
    rcases opt_step h (i := i) (by omega) with ⟨e, _⟩ | ⟨v, e, _⟩
    · unfold optsF
      rw [e, List.nil_append]
      rcases opts_head h k (i + 1) (by omega) with e2 | ⟨j, v, r, h1, h2, e2⟩
      · exact .inl e2
      · exact .inr ⟨j, v, r, by omega, h2, e2⟩
    · right
      unfold optsF
      rw [e]
      exact ⟨i, v, _, Nat.le_refl _, by omega, rfl⟩

theorem seqF_read {t : TakerP} (h : errT t = 0) : ∀ (k i : Nat), k + i = 7 → seqF k i (optsF k i t) (uptoT i t) = some (uptoT 7 t)
  | 0, i, hk => by
    obtain rfl : i = 7 := by omega
    rfl
  | k + 1, i, hk => by
    have ih := seqF_read h k (i + 1) (by omega)
    rcases opt_step h (i := i) (by omega) with ⟨e, e1⟩ | ⟨v, e, e1⟩
    · have eo : optsF (k + 1) i t = optsF k (i + 1) t := by show optW i t ++ optsF k (i + 1) t = _; rw [e]; rfl
      rw [eo, ← e1]
      rcases opts_head h k (i + 1) (by omega) with e2 | ⟨j, v, r, h1, h2, e2⟩
      · rw [e2] at ih ⊢
        exact ih
      · rw [e2] at ih ⊢
        show (if (heads.getD i []).isPrefixOf (heads.getD j [] ++ v) = true then _ else seqF k (i + 1) ((heads.getD j [] ++ v) :: r) (uptoT (i + 1) t)) = _
        rw [if_neg (by rw [heads_apart v (by omega) h2]; decide)]
        exact ih
    · have eo : optsF (k + 1) i t = (heads.getD i [] ++ v) :: optsF k (i + 1) t := by show optW i t ++ optsF k (i + 1) t = _; rw [e]; rfl
      rw [eo]
      have hp : (heads.getD i []).isPrefixOf (heads.getD i [] ++ v) = true := by rw [List.isPrefixOf_iff_prefix]; exact List.prefix_append _ _
      show (if (heads.getD i []).isPrefixOf (heads.getD i [] ++ v) = true then (optT i ((heads.getD i [] ++ v).drop (heads.getD i []).length) (uptoT i t)).bind (seqF k (i + 1) (optsF k (i + 1) t)) else _) = _
      rw [if_pos hp, List.drop_left, e1]
      exact ih

theorem opt_free {t : TakerP} (h : errT t = 0) : ∀ x ∈ wordsT t, (32 : UInt8) ∉ x := by
  obtain ⟨h1, h2, h3, h4⟩ := errT_facts h
  obtain ⟨f1, f2, f3, f4, f5, f6, f6', f7, f8, f9⟩ := argsOk_facts h4
  have num : ∀ (e : Tok) (z : Int), (32 : UInt8) ∉ e → ∀ f ∈ numWs e z, (32 : UInt8) ∉ f := fun e z he f hf => by
    unfold numWs at hf
    split at hf
    · rename_i hz
      rw [List.mem_singleton] at hf; subst hf
      rw [List.mem_append, not_or]
      exact ⟨he, itoa_no 32 (by decide) hz⟩
    · cases hf
  intro f hf
  unfold wordsT at hf
  simp only [List.mem_append, List.mem_cons, List.not_mem_nil, or_false] at hf
  rcases hf with ((((((hf | hf) | hf) | hf) | hf) | hf) | hf) | hf
  · rcases hf with rfl | rfl
    · exact (name_facts h1).1
    · exact (filter_facts h2).1
  · unfold fromWs at hf
    split at hf
    · rw [List.mem_singleton] at hf; subst hf; decide
    · split at hf
      · rw [List.mem_singleton] at hf; subst hf; decide
      · split at hf
        · rename_i e3
          rw [List.mem_singleton] at hf; subst hf
          rw [beq_iff_eq] at e3
          rw [List.mem_append, not_or]
          exact ⟨by decide, itoa_no 32 (by decide) (by have := f2 e3; omega)⟩
        · cases hf
  · unfold ackWs at hf
    split at hf
    · rw [List.mem_singleton] at hf; subst hf; decide
    · split at hf
      · rw [List.mem_singleton] at hf; subst hf; decide
      · cases hf
  · exact num waitE t.wait (by decide) f hf
  · unfold backWs at hf
    split at hf
    · rw [List.mem_singleton] at hf; subst hf
      rw [List.mem_append, not_or]
      refine ⟨by decide, ?_⟩
      show (32 : UInt8) ∉ joinC (t.back.map Lib.itoa)
      rw [joinC_glue]
      refine glue_free (by decide) _ fun x hx => ?_
      obtain ⟨z, hz, rfl⟩ := List.mem_map.1 hx
      obtain ⟨j, hj, rfl⟩ := List.getElem_of_mem hz
      have := (f9 j hj).1
      simp only [List.getD, List.getElem?_eq_getElem hj, Option.getD_some] at this
      exact itoa_no 32 (by decide) (by omega)
    · cases hf
  · exact num mostE t.most (by decide) f hf
  · exact num pendE t.pend (by decide) f hf
  · unfold pushWs at hf
    split at hf
    · rw [List.mem_singleton] at hf; subst hf; decide
    · cases hf

theorem textT_len {t : TakerP} (h : errT t = 0) : (textT t).length ≤ 1024 := by
  obtain ⟨h1, h2, h3, h4⟩ := errT_facts h
  obtain ⟨f1, f2, f3, f4, f5, f6, f6', f7, f8, f9⟩ := argsOk_facts h4
  have n1 := (name_facts h1).2
  have n2 := (filter_facts h2).2
  have i1 := itoa_len f3.1 f3.2
  have i2 := itoa_len (v := t.wait) f5.1 (by omega)
  have i3 := itoa_len (v := t.most) f7.1 (by omega)
  have i4 := itoa_len (v := t.pend) f8.1 (by omega)
  have i5 : (listT t.back).length ≤ 5 * 10 := by
    have := join_len [44] 9 (t.back.map Lib.itoa) (fun f hf => by
      obtain ⟨z, hz, rfl⟩ := List.mem_map.1 hf
      obtain ⟨j, hj, rfl⟩ := List.getElem_of_mem hz
      have h1 := f9 j hj
      have h2 : t.back.getD j 0 = t.back[j] := by simp [List.getD, hj]
      rw [h2] at h1
      exact itoa_len (v := t.back[j]) (by omega) (by omega))
    rw [List.length_map] at this
    have h5 : t.back.length * (9 + [44].length) ≤ 5 * 10 := Nat.mul_le_mul h3 (by decide)
    exact Nat.le_trans this h5
  have g1 : (flatS (fromWs t.src t.start)).length ≤ 15 := by
    unfold fromWs
    split
    · decide
    · split
      · decide
      · split
        · simp [flatS, fromE]; omega
        · simp [flatS]
  have g2 : (flatS (ackWs t.ack)).length ≤ 9 := by
    unfold ackWs
    split
    · decide
    · split
      · decide
      · simp [flatS]
  have num : ∀ (e : Tok) (z : Int), e.length ≤ 8 → (Lib.itoa z).length ≤ 9 → (flatS (numWs e z)).length ≤ 18 := fun e z he hz => by
    unfold numWs
    split
    · simp [flatS]; omega
    · simp [flatS]
  have g3 := num waitE t.wait (by decide) i2
  have g4 : (flatS (backWs t.back)).length ≤ 60 := by
    unfold backWs
    split
    · simp [flatS, backE]; omega
    · simp [flatS]
  have g5 := num mostE t.most (by decide) i3
  have g6 := num pendE t.pend (by decide) i4
  have g7 : (flatS (pushWs t.push)).length ≤ 5 := by
    unfold pushWs
    split <;> decide
  rw [textT_flat]
  simp only [List.length_append, List.length_cons, List.length_nil]
  omega

/-- What is printed is read as it was. -/
theorem parseT_print {t : TakerP} (h : errT t = 0) : parseT (textT t) = (some t, 0) := by
  have hlen := textT_len h
  have hw : piecesC 32 (textT t) = t.name :: t.filt :: optsF 7 0 t := by
    unfold textT
    rw [join_glue32, words_opts, pieces_glue _ (by simp)]
    rw [← words_opts]
    exact opt_free h
  have hs : seqT 0 (optsF 7 0 t) (startT t.name t.filt) = some t := seqF_read h 7 0 rfl
  unfold parseT
  rw [if_neg (by omega), hw]
  simp only [hs, ansT, h, if_true]
end Go.Proofs.YtglgbidcmkncgaaDoor.Subj
