/- slices.Insert of one paper, walked. -/
import Derived.Test.YtglgbidcmkncgaaDrawCrash
import Derived.Lib.AppendZerosOnto
import Derived.Lib.Overlaps
import Derived.Laws.CopyRow
import Derived.Shelf.Spec.SlicesInsert
namespace Go.Proofs.Ytglgbidcmkncgaa.Drw
open Go.RowKit Heap Dsk

/-- 'copy' into a row of elements of so many cells each. -/
theorem run_copyN {P : Program} (w : World) (dT sT ty elem : TypeId) (size g o dLen dCap : Nat) (a : Addr) (sLen sCap : Nat) (cur : Array Value) (t : TypeId) (cs : List Value) (m : Nat)
    (hu : P.underlying dT = some (.slice elem)) (hs : (P.info? elem).map (·.size) = some size)
    (hg : w.heap[g]? = some (.cells cur t (0, 0))) (hm : Nat.min sLen dLen = m) (hn : cs.length = m * size)
    (hsrc : ∀ j v, cs[j]? = some v → w.cell? (a.add j) = some v) (hfit : o + cs.length ≤ cur.size) (h1 : ∀ v ∈ cs, v.oneCell' = true) :
    (Builtin.copy_ #[dT, sT] ty #[.slice (some ⟨g, o, none⟩) dLen dCap, .slice (some a) sLen sCap]).run P w =
      .ok (goInt m) (w.setRow g (cur.toList.take o ++ cs ++ cur.toList.drop (o + cs.length)).toArray) := by
  have hl := run_loadCells_list (P := P) w a cs hsrc
  have hst := run_storeCells_at P g o t cs 0 cur w hg (by simpa using hfit) h1
  cases hq : P.info? elem with
  | none => simp [hq] at hs
  | some i =>
    have hi : i.size = size := by simpa [hq] using hs
    rw [hn] at hl hst
    simp [Builtin.copy_, run_underlying hu, Builtin.lenOf, Builtin.firstCells, sizeOf, typeInfo, hq, hi, hm, hl, hst, hn]

/-! ### lists -/
theorem shift_list {P X1 X2 R N : List Value} {A : List Value} (hA : A.length = P.length + X1.length + N.length) (hAt : A.take (P.length + X1.length) = P ++ X1) :
    (A ++ X2 ++ R).take (P.length + X1.length) ++ N ++ (A ++ X2 ++ R).drop (P.length + X1.length + N.length) = P ++ (X1 ++ N ++ X2) ++ R := by
  rw [List.append_assoc A, List.take_append, hAt, List.drop_append, ← hA, List.drop_length, Nat.sub_self, List.drop_zero]
  rw [show P.length + X1.length - A.length = 0 by omega, List.take_zero]
  simp

theorem insertV (l : List FileP) (q : FileP) (i : Nat) : plsV (l.take i ++ q :: l.drop i) = (plsV l).take (i * 3) ++ cells q ++ (plsV l).drop (i * 3) := by
  rw [plsV_append, plsV_cons, plsV_take, plsV_drop, List.append_assoc]

section
variable {w : World} {n i vb : Nat} {l : List FileP} {q : FileP}

set_option maxHeartbeats 2000000 in
set_option maxRecDepth 100000 in
/-- At the end. -/
theorem insert_end (v : Value) (hl : l.length = n) (hn : n ≤ 20) (hrow : Row w 81 3 v n (plsV l)) (hvb : w.heap[vb]? = some (.cells #[.int .i64 q.n, .int .i64 (q.sure : Nat), .string ⟨q.text.toArray⟩] 81 (0, 0))) :
    Calls Try.prog 44 #[v, .int .i64 n, .slice (some ⟨vb, 0, none⟩) 1 1] w fun e w' => ∃ v', e = .returned v' ∧ Row w' 81 3 v' (n + 1) (plsV (l ++ [q])) ∧ Heap.Touch (own v) w w' ∧ ∀ k, own v' k → own v k ∨ w.heap.size ≤ k := by
  have HR := Lib.hid hrow
  have hnews : ∀ j u, (cells q)[j]? = some u → w.cell? ((⟨vb, 0, none⟩ : Addr).add j) = some u := fun j u hj => by
    rw [Addr.add_lit, cell_of_row w vb (0 + j) _ _ _ hvb, Nat.zero_add]
    rcases j with _ | _ | _ | j
    · simpa [cells] using hj
    · simpa [cells] using hj
    · simpa [cells] using hj
    · simp [cells] at hj
  have hone : ∀ u ∈ cells q, u.oneCell' = true := fun u hu => by
    simp only [cells, List.mem_cons, List.not_mem_nil, or_false] at hu
    rcases hu with rfl | rfl | rfl <;> rfl
  have HE := Lib.hid (show plsV (l ++ [q]) = plsV l ++ cells q from by rw [plsV_append]; simp [plsV])
  rw [HE.out]
  have HN := Lib.hid hnews; have HO := Lib.hid hone
  clear hnews hone
  obtain ⟨i0, hi, hz0, hz1, hz2⟩ := info_parts info_paper
  rcases hrow.2 with ⟨rfl, rfl⟩ | ⟨g, off, cap, cur, rfl, hg, h1, h2, _⟩
  · clear hrow hvb hl
    go_enter Try.func44, Try.ntmps44
    go_wp2_with (at_builtin; refine Heap.wpList_append_row _ rfl (.tmp 23) (.tmp 24) 57 rfl 81 i0 _ 3 32 Try.underlying57 hi hz0 hz1 hz2 rfl (by decide) _ 0 _ rfl HR.out ⟨vb, 0, none⟩ 1 1 (cells q) rfl rfl HN.out HO.out (by unfold maxLen; omega) (by omega) ?_)
    intro v2 w3 r3 t3 o3
    have HF := Lib.hid (⟨r3, t3, o3⟩ : Row w3 81 3 v2 (0 + 1) (plsV l ++ cells q) ∧ Heap.Touch (own (.slice none 0 0)) w w3 ∧ ∀ k, own v2 k → own (.slice none 0 0) k ∨ w.heap.size ≤ k)
    clear r3 t3 o3
    go_wp2
    go_ret
    exact ⟨_, rfl, HF.out⟩
  · clear hrow hvb hl hg
    have hnc : (n : Int) ≤ (n : Int) := Int.le_refl _
    go_enter Try.func44, Try.ntmps44
    go_wp2_with (at_builtin; refine Heap.wpList_append_row _ rfl (.tmp 23) (.tmp 24) 57 rfl 81 i0 _ 3 32 Try.underlying57 hi hz0 hz1 hz2 rfl (by decide) _ n _ rfl HR.out ⟨vb, 0, none⟩ 1 1 (cells q) rfl rfl HN.out HO.out (by unfold maxLen; omega) (by omega) ?_)
    all_goals
      intro v2 w3 r3 t3 o3
      have HF := Lib.hid (⟨r3, t3, o3⟩ : Row w3 81 3 v2 (n + 1) (plsV l ++ cells q) ∧ Heap.Touch (own (.slice (some ⟨g, off, none⟩) n cap)) w w3 ∧ ∀ k, own v2 k → own (.slice (some ⟨g, off, none⟩) n cap) k ∨ w.heap.size ≤ k)
      clear r3 t3 o3
      go_wp2
      go_ret
      exact ⟨_, rfl, HF.out⟩
end
end Go.Proofs.Ytglgbidcmkncgaa.Drw
