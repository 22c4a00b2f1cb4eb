/- A plan's ten cells in memory; a prefix that is cut. -/
import Derived.Test.YtglgbidcmkncgaaDoorPlanCheck
import Derived.Test.YtglgbidcmkncgaaDoorHeap
import Derived.Handy
namespace Go.Proofs.YtglgbidcmkncgaaDoor.Subj
open Go.RowKit

def planArr (name : ByteArray) (v : Value) (vals : List Int) : Array Value := (.string name :: v :: vals.map (Value.int .i64)).toArray
def zeroArr : Array Value := planArr ByteArray.empty (.slice none 0 0) (List.replicate 8 0)

/-- The cells of a plan in memory. -/
theorem ten {B : Nat} {w : World} {t : TypeId} {a0 a1 a2 a3 a4 a5 a6 a7 a8 a9 : Value} (h : w.heap[B]? = some (.cells #[a0, a1, a2, a3, a4, a5, a6, a7, a8, a9] t (0, 0))) :
    w.cell? ⟨B, 0, none⟩ = some a0 ∧ w.cell? ⟨B, 1, none⟩ = some a1 ∧ w.cell? ⟨B, 2, none⟩ = some a2 ∧ w.cell? ⟨B, 3, none⟩ = some a3 ∧ w.cell? ⟨B, 4, none⟩ = some a4 ∧ w.cell? ⟨B, 5, none⟩ = some a5 ∧
      w.cell? ⟨B, 6, none⟩ = some a6 ∧ w.cell? ⟨B, 7, none⟩ = some a7 ∧ w.cell? ⟨B, 8, none⟩ = some a8 ∧ w.cell? ⟨B, 9, none⟩ = some a9 ∧ ∀ j, w.frozen? ⟨B, j, none⟩ = false :=
  ⟨cell_of_row w B 0 _ _ (0, 0) h, cell_of_row w B 1 _ _ (0, 0) h, cell_of_row w B 2 _ _ (0, 0) h, cell_of_row w B 3 _ _ (0, 0) h, cell_of_row w B 4 _ _ (0, 0) h, cell_of_row w B 5 _ _ (0, 0) h,
    cell_of_row w B 6 _ _ (0, 0) h, cell_of_row w B 7 _ _ (0, 0) h, cell_of_row w B 8 _ _ (0, 0) h, cell_of_row w B 9 _ _ (0, 0) h, fun j => by simp [World.frozen?, h]⟩

theorem setCell_block {w : World} {B : Nat} {cs : Array Value} {t : TypeId} (h : w.heap[B]? = some (.cells cs t (0, 0))) (j : Nat) (u : Value) :
    (w.setCell ⟨B, j, none⟩ u).heap[B]? = some (.cells (cs.setIfInBounds j u) t (0, 0)) := by
  rw [setCell_eq_setRow w B j cs t (0, 0) u h]
  exact setRow_heap w B cs _ t _ h

theorem set10 {w : World} {B : Nat} {t : TypeId} {a0 a1 a2 a3 a4 a5 a6 a7 a8 a9 : Value} (b0 b1 b2 b3 b4 b5 b6 b7 b8 b9 : Value) (h : w.heap[B]? = some (.cells #[a0, a1, a2, a3, a4, a5, a6, a7, a8, a9] t (0, 0))) :
    ((((((((((w.setCell ⟨B, 0, none⟩ b0).setCell ⟨B, 1, none⟩ b1).setCell ⟨B, 2, none⟩ b2).setCell ⟨B, 3, none⟩ b3).setCell ⟨B, 4, none⟩ b4).setCell ⟨B, 5, none⟩ b5).setCell ⟨B, 6, none⟩ b6).setCell ⟨B, 7, none⟩ b7).setCell ⟨B, 8, none⟩ b8).setCell ⟨B, 9, none⟩ b9).heap[B]? = some (.cells #[b0, b1, b2, b3, b4, b5, b6, b7, b8, b9] t (0, 0)) :=
  by
  have := setCell_block (setCell_block (setCell_block (setCell_block (setCell_block (setCell_block (setCell_block (setCell_block (setCell_block (setCell_block h 0 b0) 1 b1) 2 b2) 3 b3) 4 b4) 5 b5) 6 b6) 7 b7) 8 b8) 9 b9
  simpa only [List.setIfInBounds_toArray, List.set_cons_zero, List.set_cons_succ] using this

theorem touch10 {w : World} {B : Nat} (b0 b1 b2 b3 b4 b5 b6 b7 b8 b9 : Value) : Heap.Touch (· = B) w ((((((((((w.setCell ⟨B, 0, none⟩ b0).setCell ⟨B, 1, none⟩ b1).setCell ⟨B, 2, none⟩ b2).setCell ⟨B, 3, none⟩ b3).setCell ⟨B, 4, none⟩ b4).setCell ⟨B, 5, none⟩ b5).setCell ⟨B, 6, none⟩ b6).setCell ⟨B, 7, none⟩ b7).setCell ⟨B, 8, none⟩ b8).setCell ⟨B, 9, none⟩ b9) := by
  exact ((((((((((Heap.Touch.refl (· = B) _).setCell (p := ⟨B, 0, none⟩) (.inl rfl) b0).setCell (p := ⟨B, 1, none⟩) (.inl rfl) b1).setCell (p := ⟨B, 2, none⟩) (.inl rfl) b2).setCell (p := ⟨B, 3, none⟩) (.inl rfl) b3).setCell (p := ⟨B, 4, none⟩) (.inl rfl) b4).setCell (p := ⟨B, 5, none⟩) (.inl rfl) b5).setCell (p := ⟨B, 6, none⟩) (.inl rfl) b6).setCell (p := ⟨B, 7, none⟩) (.inl rfl) b7).setCell (p := ⟨B, 8, none⟩) (.inl rfl) b8).setCell (p := ⟨B, 9, none⟩) (.inl rfl) b9

theorem planArr_zero (name : ByteArray) (v : Value) : planArr name v (List.replicate 8 0) = #[.string name, v, .int .i64 0, .int .i64 0, .int .i64 0, .int .i64 0, .int .i64 0, .int .i64 0, .int .i64 0, .int .i64 0] := rfl
theorem zeroArr_eq : zeroArr = #[.string ⟨#[]⟩, .slice none 0 0, .int .i64 0, .int .i64 0, .int .i64 0, .int .i64 0, .int .i64 0, .int .i64 0, .int .i64 0, .int .i64 0] := rfl

/-- Eight numbers, each by its name. -/
theorem eight {vals : List Int} (h : vals.length = 8) : ∃ x0 x1 x2 x3 x4 x5 x6 x7, vals = [x0, x1, x2, x3, x4, x5, x6, x7] := by
  match vals, h with
  | [x0, x1, x2, x3, x4, x5, x6, x7], _ => exact ⟨_, _, _, _, _, _, _, _, rfl⟩

theorem trim_yes {t p : List UInt8} (h : p.isPrefixOf t = true) : Lib.trimPrefix t p = t.drop p.length := by unfold Lib.trimPrefix Lib.hasPrefix; rw [h]; rfl
theorem trim_no {t p : List UInt8} (h : p.isPrefixOf t = false) : Lib.trimPrefix t p = t := by unfold Lib.trimPrefix Lib.hasPrefix; rw [h]; rfl

/-- A word told, or not. -/
theorem cut_yes (t p : ByteArray) (w : World) (h : (p.data.toList ++ [61]).isPrefixOf t.data.toList = true) :
    Calls Tryd.prog 57 #[.string t, .string (p ++ ⟨#[61]⟩)] w fun e w' => e = .returned (.tuple #[.string ⟨(t.data.toList.drop (p.data.toList.length + 1)).toArray⟩, .bool true]) ∧ w' = w := by
  have hb : ((p ++ ⟨#[61]⟩ : ByteArray).data.toList) = p.data.toList ++ [61] := by simp
  refine (Tryd.strings_CutPrefix _ _ w).mono fun e w' ⟨a, b⟩ => ⟨?_, b⟩
  rw [a, hb]
  have h1 : Lib.hasPrefix t.data.toList (p.data.toList ++ [61]) = true := h
  simp only [Lib.trimPrefix, h1, if_true, List.length_append, List.length_cons, List.length_nil]

theorem cut_no (t p : ByteArray) (w : World) (h : (p.data.toList ++ [61]).isPrefixOf t.data.toList = false) :
    Calls Tryd.prog 57 #[.string t, .string (p ++ ⟨#[61]⟩)] w fun e w' => e = .returned (.tuple #[.string t, .bool false]) ∧ w' = w := by
  have hb : ((p ++ ⟨#[61]⟩ : ByteArray).data.toList) = p.data.toList ++ [61] := by simp
  refine (Tryd.strings_CutPrefix _ _ w).mono fun e w' ⟨a, b⟩ => ⟨?_, b⟩
  rw [a, hb]
  have h1 : Lib.hasPrefix t.data.toList (p.data.toList ++ [61]) = false := h
  simp only [Lib.trimPrefix, h1, Bool.false_eq_true, if_false]

theorem wordAt_size : ∀ j, (wordAt j).size ≤ 7 := by
  intro j
  by_cases h : j < 8
  · have : ∀ j, j < 8 → (wordAt j).size ≤ 7 := by decide
    exact this j h
  · unfold wordAt
    simp [List.getD, words]
    rcases j with _ | _ | _ | _ | _ | _ | _ | _ | j <;> simp_all
    show (0 : Nat) ≤ 7
    omega

theorem below10 {W w : World} {B0 B : Nat} (b0 b1 b2 b3 b4 b5 b6 b7 b8 b9 : Value) (h : Below B0 W w) (hB : B0 ≤ B) : Below B0 W ((((((((((w.setCell ⟨B, 0, none⟩ b0).setCell ⟨B, 1, none⟩ b1).setCell ⟨B, 2, none⟩ b2).setCell ⟨B, 3, none⟩ b3).setCell ⟨B, 4, none⟩ b4).setCell ⟨B, 5, none⟩ b5).setCell ⟨B, 6, none⟩ b6).setCell ⟨B, 7, none⟩ b7).setCell ⟨B, 8, none⟩ b8).setCell ⟨B, 9, none⟩ b9) :=
  ((((((((((h).setCell (p := ⟨B, 0, none⟩) hB b0).setCell (p := ⟨B, 1, none⟩) hB b1).setCell (p := ⟨B, 2, none⟩) hB b2).setCell (p := ⟨B, 3, none⟩) hB b3).setCell (p := ⟨B, 4, none⟩) hB b4).setCell (p := ⟨B, 5, none⟩) hB b5).setCell (p := ⟨B, 6, none⟩) hB b6).setCell (p := ⟨B, 7, none⟩) hB b7).setCell (p := ⟨B, 8, none⟩) hB b8).setCell (p := ⟨B, 9, none⟩) hB b9

theorem cutPrefix_any (s p : ByteArray) (w : World) :
    Calls Tryd.prog 57 #[.string s, .string p] w fun e w' => e = .returned (.tuple #[.string ⟨(Lib.trimPrefix s.data.toList p.data.toList).toArray⟩, .bool (p.data.toList.isPrefixOf s.data.toList)]) ∧ w = w' :=
  (Tryd.strings_CutPrefix s p w).mono fun _ _ ⟨a, b⟩ => ⟨a, b.symm⟩


/-- What is told where a plan and an error are told. -/
theorem res_plan {fn : Func} (hf : fn.results = #[.cell 2 29, .tmp 3]) (tmps : Array Value) (w : World) (R : Nat) {a0 a1 a2 a3 a4 a5 a6 a7 a8 a9 k : Value}
    (h2 : tmps.getD 2 undef = .pointer (some ⟨R, 0, none⟩)) (h3 : tmps.getD 3 undef = k) (hR : w.heap[R]? = some (.cells #[a0, a1, a2, a3, a4, a5, a6, a7, a8, a9] 29 (0, 0))) :
    (results fn tmps).run Tryd.prog w = .ok (.tuple #[.agg #[a0, a1, a2, a3, a4, a5, a6, a7, a8, a9], k]) w := by
  obtain ⟨z0, z1, z2, z3, z4, z5, z6, z7, z8, z9, zf⟩ := ten hR
  simp only [Array.getD_eq_getD_getElem?] at h2 h3
  simp [results, hf, go_sem, h2, h3, z0, z1, z2, z3, z4, z5, z6, z7, z8, z9]

end Go.Proofs.YtglgbidcmkncgaaDoor.Subj
