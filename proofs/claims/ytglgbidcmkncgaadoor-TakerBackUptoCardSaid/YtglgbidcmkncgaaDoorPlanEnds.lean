/- How the numbers of a plan's text are read, step by step: in plain Lean. -/
import Derived.Test.YtglgbidcmkncgaaDoorPlanPlain
namespace Go.Proofs.YtglgbidcmkncgaaDoor.Subj

/-- What comes of the words bs still to be told, the numbers pre that are read, and the texts w still to be read. -/
def Ends (bs : List (List UInt8)) (pre : List Int) (w : List Tok) : Option (List Int) :=
  match readVals bs w with
  | some (vs, []) => some (pre ++ vs)
  | _ => none

theorem Ends_nil (bs : List (List UInt8)) (pre : List Int) : Ends bs pre [] = some (pre ++ bs.map (fun _ => 0)) := by
  unfold Ends; rw [readVals_nil]

theorem Ends_over (pre : List Int) (t : Tok) (w : List Tok) : Ends [] pre (t :: w) = none := rfl

theorem Ends_skip {b : List UInt8} {bs : List (List UInt8)} {pre : List Int} {t : Tok} {w : List Tok} (h : (b ++ [61]).isPrefixOf t = false) :
    Ends (b :: bs) pre (t :: w) = Ends bs (pre ++ [0]) (t :: w) := by
  unfold Ends
  conv => lhs; unfold readVals
  rw [h]
  simp only [Bool.false_eq_true, if_false]
  rcases readVals bs (t :: w) with _ | ⟨vs, _ | ⟨x, y⟩⟩ <;> simp

theorem Ends_bad {b : List UInt8} {bs : List (List UInt8)} {pre : List Int} {t : Tok} {w : List Tok} (h : (b ++ [61]).isPrefixOf t = true) (hn : numberOf (t.drop (b.length + 1)) ≤ 0) :
    Ends (b :: bs) pre (t :: w) = none := by
  unfold Ends
  conv => lhs; unfold readVals
  rw [if_pos h, if_pos hn]

theorem Ends_take {b : List UInt8} {bs : List (List UInt8)} {pre : List Int} {t : Tok} {w : List Tok} (h : (b ++ [61]).isPrefixOf t = true) (hn : ¬ numberOf (t.drop (b.length + 1)) ≤ 0) :
    Ends (b :: bs) pre (t :: w) = Ends bs (pre ++ [numberOf (t.drop (b.length + 1))]) w := by
  unfold Ends
  conv => lhs; unfold readVals
  rw [if_pos h, if_neg hn]
  rcases readVals bs w with _ | ⟨vs, _ | ⟨x, y⟩⟩ <;> simp

theorem words_len : words.length = 8 := rfl
theorem words_drop {j : Nat} (hj : j < 8) : words.drop j = words.getD j [] :: words.drop (j + 1) := by
  rw [List.drop_eq_getElem_cons (by simpa [words_len] using hj)]
  simp [List.getD, show j < words.length from hj]

/-- So far j words are told and c texts are read; vals is what stands there. -/
def PState (E : Option (List Int)) (r : List Tok) (j c : Nat) (vals : List Int) : Prop :=
  ∃ pre : List Int, pre.length = j ∧ vals = pre ++ List.replicate (8 - j) 0 ∧ E = Ends (words.drop j) pre (r.drop c)

theorem map_zero (l : List (List UInt8)) : l.map (fun _ => (0 : Int)) = List.replicate l.length 0 := by
  induction l with
  | nil => rfl
  | cons a l ih => simp only [List.map_cons, ih]; rfl

theorem PState.start (r : List Tok) : PState (Ends words [] r) r 0 0 (List.replicate 8 0) := ⟨[], rfl, rfl, rfl⟩

section
variable {E : Option (List Int)} {r : List Tok} {j c : Nat} {vals : List Int}

theorem PState.len (h : PState E r j c vals) (hj : j ≤ 8) : vals.length = 8 := by
  obtain ⟨pre, h1, rfl, _⟩ := h
  simp; omega

theorem drop_at {c : Nat} (hc : c < r.length) : r.drop c = r.getD c [] :: r.drop (c + 1) := by
  rw [List.drop_eq_getElem_cons hc]
  simp [List.getD, hc]

/-- All is read. -/
theorem PState.all (h : PState E r j c vals) (hj : j ≤ 8) (hc : r.length ≤ c) : E = some vals := by
  obtain ⟨pre, h1, rfl, h3⟩ := h
  rw [h3, List.drop_eq_nil_of_le hc, Ends_nil, map_zero, List.length_drop, words_len]

/-- All words are told, and something is left over. -/
theorem PState.over (h : PState E r 8 c vals) (hc : c < r.length) : E = none := by
  obtain ⟨pre, h1, rfl, h3⟩ := h
  rw [h3, drop_at hc]
  exact Ends_over _ _ _

theorem PState.skip (h : PState E r j c vals) (hj : j < 8) (hc : c < r.length) (hp : (words.getD j [] ++ [61]).isPrefixOf (r.getD c []) = false) : PState E r (j + 1) c vals := by
  obtain ⟨pre, h1, rfl, h3⟩ := h
  refine ⟨pre ++ [0], by simp [h1], ?_, ?_⟩
  · rw [List.append_assoc]
    congr 1
    rw [show 8 - j = (8 - (j + 1)) + 1 by omega, List.replicate_succ]; rfl
  · rw [h3, words_drop hj, drop_at hc, Ends_skip hp]

theorem PState.bad (h : PState E r j c vals) (hj : j < 8) (hc : c < r.length) (hp : (words.getD j [] ++ [61]).isPrefixOf (r.getD c []) = true)
    (hn : numberOf ((r.getD c []).drop ((words.getD j []).length + 1)) ≤ 0) : E = none := by
  obtain ⟨pre, h1, rfl, h3⟩ := h
  rw [h3, words_drop hj, drop_at hc, Ends_bad hp hn]

theorem PState.take (h : PState E r j c vals) (hj : j < 8) (hc : c < r.length) (hp : (words.getD j [] ++ [61]).isPrefixOf (r.getD c []) = true)
    (hn : ¬ numberOf ((r.getD c []).drop ((words.getD j []).length + 1)) ≤ 0) :
    PState E r (j + 1) (c + 1) (vals.set j (numberOf ((r.getD c []).drop ((words.getD j []).length + 1)))) := by
  obtain ⟨pre, h1, rfl, h3⟩ := h
  refine ⟨pre ++ [numberOf ((r.getD c []).drop ((words.getD j []).length + 1))], by simp [h1], ?_, ?_⟩
  · rw [show 8 - j = (8 - (j + 1)) + 1 by omega, List.replicate_succ, ← h1]
    simp
  · rw [h3, words_drop hj, drop_at hc, Ends_take hp hn]
end

/-- What 'Parse' answers, by that. -/
theorem parseP_ends (s : List UInt8) : parseP s = if 1024 < s.length then (none, 2) else
    match piecesC 32 s with
    | n :: f :: r => match Ends words [] r with
      | some vs => if planErr n (piecesC 44 f) vs = 0 then (some ⟨n, piecesC 44 f, vs⟩, 0) else (none, planErr n (piecesC 44 f) vs)
      | none => (none, 3)
    | _ => (none, 3) := by
  unfold parseP
  by_cases h : 1024 < s.length
  · rw [if_pos h, if_pos h]
  · rw [if_neg h, if_neg h]
    rcases piecesC 32 s with _ | ⟨n, _ | ⟨f, r⟩⟩
    · rfl
    · rfl
    · simp only [Ends]
      rcases readVals words r with _ | ⟨vs, _ | ⟨x, y⟩⟩ <;> simp

end Go.Proofs.YtglgbidcmkncgaaDoor.Subj
