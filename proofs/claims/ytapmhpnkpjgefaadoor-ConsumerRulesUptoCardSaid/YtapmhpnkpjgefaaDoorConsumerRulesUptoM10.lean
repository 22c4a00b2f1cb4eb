/- Parts of the proof, joined: slices.Insert of one element of 1 cells, walked.; slices.Delete of one pointer to a node, walked. -/
import Derived.Test.YtapmhpnkpjgefaaDoorConsumerRulesUptoM6
import Derived.Test.YtapmhpnkpjgefaaDoorChecked
import Derived.Lib.AppendZerosOnto
import Derived.Lib.Overlaps
import Derived.Laws.CopyRow
import Derived.Shelf.Spec.SlicesInsert
import Derived.Deep.RegionLaw
import Derived.Deep.QuietTactic
import Derived.BigQuiet
namespace Go.Proofs.YtapmhpnkpjgefaaDoor.Idx.Ins
open Go.RowKit Heap

/-- 'copy' into a row of elements of so many cells each. -/
theorem run_copyN {P : Program} (w : World) (dT sT ty elem : TypeId) (size g o dLen dCap : Nat) (a : Addr) (sLen sCap : Nat) (cur : Array Value) (t : TypeId) (cs : List Value) (m : Nat)
    (hu : P.underlying dT = some (.slice elem)) (hs : (P.info? elem).map (·.size) = some size)
    (hg : w.heap[g]? = some (.cells cur t (0, 0))) (hm : Nat.min sLen dLen = m) (hn : cs.length = m * size)
    (hsrc : ∀ j v, cs[j]? = some v → w.cell? (a.add j) = some v) (hfit : o + cs.length ≤ cur.size) (h1 : ∀ v ∈ cs, v.oneCell' = true) :
    (Builtin.copy_ #[dT, sT] ty #[.slice (some ⟨g, o, none⟩) dLen dCap, .slice (some a) sLen sCap]).run P w =
      .ok (goInt m) (w.setRow g (cur.toList.take o ++ cs ++ cur.toList.drop (o + cs.length)).toArray) := by
  have hl := run_loadCells_list (P := P) w a cs hsrc
  have hst := run_storeCells_at P g o t cs 0 cur w hg (by simpa using hfit) h1
  cases hq : P.info? elem with
  | none => simp [hq] at hs
  | some i =>
    have hi : i.size = size := by simpa [hq] using hs
    rw [hn] at hl hst
    simp [Builtin.copy_, run_underlying hu, Builtin.lenOf, Builtin.firstCells, sizeOf, typeInfo, hq, hi, hm, hl, hst, hn]

theorem shift_list {P X1 X2 R N : List Value} {A : List Value} (hA : A.length = P.length + X1.length + N.length) (hAt : A.take (P.length + X1.length) = P ++ X1) :
    (A ++ X2 ++ R).take (P.length + X1.length) ++ N ++ (A ++ X2 ++ R).drop (P.length + X1.length + N.length) = P ++ (X1 ++ N ++ X2) ++ R := by
  rw [List.append_assoc A, List.take_append, hAt, List.drop_append, ← hA, List.drop_length, Nat.sub_self, List.drop_zero]
  rw [show P.length + X1.length - A.length = 0 by omega, List.take_zero]
  simp

theorem setRow_other (w : World) (g k : Nat) (cs : Array Value) (h : k ≠ g) : (w.setRow g cs).heap[k]? = w.heap[k]? := by
  simp only [World.setRow, Array.getElem?_modify]
  rw [if_neg (fun e => h e.symm)]

theorem touch_setRow {F : Nat → Prop} {a w : World} (h : Heap.Touch F a w) {g : Nat} (hg : F g) (cs : Array Value) : Heap.Touch F a (w.setRow g cs) :=
  ⟨h.os, h.tape, h.output, by simp [World.setRow]; exact h.size, fun k hk hn => by rw [setRow_other _ _ _ _ (fun e => hn (by rw [e]; exact hg))]; exact h.block k hk hn⟩

/-- The array behind an insertion in place. -/
theorem room_list {cur N X1 X2 : List Value} {off i n cap : Nat} (hi : i < n) (hroom : n + 1 ≤ cap) (hN : N.length = 1) (h3 : off + cap * 1 ≤ cur.length) (hx : (cur.drop off).take (n * 1) = X1 ++ X2) (h1 : X1.length = i * 1) (h2 : X2.length = (n - i) * 1) :
    let c1 := cur.take (off + (i + 1) * 1) ++ X2 ++ cur.drop (off + (i + 1) * 1 + (n - i) * 1)
    let c2 := c1.take (off + i * 1) ++ N ++ c1.drop (off + i * 1 + 1)
    (c2.drop off).take ((n + 1) * 1) = X1 ++ N ++ X2 ∧ c2.length = cur.length ∧ c1.length = cur.length := by
  have hP : (cur.take off).length = off := by rw [List.length_take]; omega
  have hX1 : (cur.take (off + (i + 1) * 1)).take (off + i * 1) = cur.take off ++ X1 := by
    rw [List.take_take, show min (off + i * 1) (off + (i + 1) * 1) = off + i * 1 by omega]
    have e1 : X1 = (X1 ++ X2).take (i * 1) := by rw [← h1]; exact (List.take_left).symm
    have this : X1 = (cur.drop off).take (i * 1) := by
      rw [e1, ← hx, List.take_take, show min (i * 1) (n * 1) = i * 1 by omega]
    rw [this, List.take_add]
  have hA : (cur.take (off + (i + 1) * 1)).length = (cur.take off).length + X1.length + N.length := by rw [hP, h1, hN, List.length_take]; omega
  have hs := shift_list (X2 := X2) (R := cur.drop (off + (i + 1) * 1 + (n - i) * 1)) (N := N) hA (by rw [hP, h1]; exact hX1)
  rw [hP, h1, hN] at hs
  intro c1 c2
  have e2 : c2 = cur.take off ++ (X1 ++ N ++ X2) ++ cur.drop (off + (i + 1) * 1 + (n - i) * 1) := hs
  have hl : (X1 ++ N ++ X2).length = (n + 1) * 1 := by simp only [List.length_append, h1, h2, hN]; omega
  refine ⟨?_, ?_, ?_⟩
  · rw [e2, List.append_assoc, List.drop_append, hP, Nat.sub_self, List.drop_zero, List.drop_of_length_le (by omega), List.nil_append, List.take_append, hl, Nat.sub_self, List.take_zero, List.append_nil, List.take_of_length_le (by omega)]
  · rw [e2]
    simp only [List.length_append, hP, List.length_drop] at hl ⊢
    omega
  · show (cur.take (off + (i + 1) * 1) ++ X2 ++ cur.drop (off + (i + 1) * 1 + (n - i) * 1)).length = _
    simp only [List.length_append, List.length_take, List.length_drop, h2]
    omega

/-- The new array. -/
theorem grow_list {row N X1 X2 : List Value} {i n G : Nat} (hi : i < n) (hG : n + 1 ≤ G) (hN : N.length = 1) (hr : row.length = G * 1) (hx : row.take (i * 1) = X1) (h1 : X1.length = i * 1) (h2 : X2.length = (n - i) * 1) :
    let c1 := row.take (i * 1) ++ N ++ row.drop (i * 1 + 1)
    let c2 := c1.take ((i + 1) * 1) ++ X2 ++ c1.drop ((i + 1) * 1 + (n - i) * 1)
    c2.take ((n + 1) * 1) = X1 ++ N ++ X2 ∧ c2.length = G * 1 ∧ c1.length = G * 1 := by
  intro c1 c2
  have e1 : c1.take ((i + 1) * 1) = X1 ++ N := by
    show (row.take (i * 1) ++ N ++ row.drop (i * 1 + 1)).take ((i + 1) * 1) = _
    rw [hx]
    have : (X1 ++ N).length = (i + 1) * 1 := by rw [List.length_append, h1, hN]; omega
    rw [← this]; exact List.take_left
  have l1 : c1.length = G * 1 := by
    show (row.take (i * 1) ++ N ++ row.drop (i * 1 + 1)).length = _
    rw [hx]
    simp only [List.length_append, List.length_drop, h1, hN, hr]; omega
  refine ⟨?_, ?_, l1⟩
  · show (c1.take ((i + 1) * 1) ++ X2 ++ c1.drop ((i + 1) * 1 + (n - i) * 1)).take ((n + 1) * 1) = _
    rw [e1]
    have : (X1 ++ N ++ X2).length = (n + 1) * 1 := by simp only [List.length_append, h1, h2, hN]; omega
    rw [← this]; exact List.take_left
  · show (c1.take ((i + 1) * 1) ++ X2 ++ c1.drop ((i + 1) * 1 + (n - i) * 1)).length = _
    rw [e1]
    simp only [List.length_append, List.length_drop, h1, h2, hN, l1]; omega

theorem info_el : (Tryd.prog.info? 121).map (fun i => (i.zero, i.size, i.bytes)) = some (some (Value.pointer none), 1, 8) := by kernel_rfl

/-- What is behind it all. -/
def InsPost (w : World) (v : Value) (n i : Nat) (xs N : List Value) (e : Ending) (w' : World) : Prop :=
  ∃ v', e = .returned v' ∧ Row w' 121 1 v' (n + 1) (xs.take (i * 1) ++ N ++ xs.drop (i * 1)) ∧ Heap.Touch (own v) w w' ∧ ∀ k, own v' k → own v k ∨ w.heap.size ≤ k

section
variable {w : World} {n i vb : Nat} {xs N : List Value}

set_option maxHeartbeats 2000000 in
set_option maxRecDepth 100000 in
/-- At the end. -/
theorem insert_end (v : Value) (hn : n ≤ 200000) (hrow : Row w 121 1 v n xs) (hN : N.length = 1) (hone : ∀ u ∈ N, u.oneCell' = true) (hvb : w.heap[vb]? = some (.cells N.toArray 121 (0, 0))) :
    Calls Tryd.prog 62 #[v, .int .i64 n, .slice (some ⟨vb, 0, none⟩) 1 1] w (InsPost w v n n xs N) := by
  have HR := Lib.hid hrow
  have hnews : ∀ j u, N[j]? = some u → w.cell? ((⟨vb, 0, none⟩ : Addr).add j) = some u := fun j u hj => by
    rw [Addr.add_lit, cell_of_row w vb (0 + j) _ _ _ hvb, Nat.zero_add, List.getElem?_toArray]; exact hj
  have hN1 : N.length = 1 * 1 := hN
  have HE := Lib.hid (show xs.take (n * 1) ++ N ++ xs.drop (n * 1) = xs ++ N from by
    have := hrow.1
    rw [List.take_of_length_le (by omega), List.drop_of_length_le (by omega), List.append_nil])
  unfold InsPost
  rw [HE.out]
  have HNW := Lib.hid hnews; have HO := Lib.hid hone; have HN1 := Lib.hid hN1
  clear hnews hone hN hN1
  obtain ⟨i0, hi, hz0, hz1, hz2⟩ := info_parts info_el
  rcases hrow.2 with ⟨rfl, rfl⟩ | ⟨g, off, cap, cur, rfl, hg, h1, h2, _⟩
  · clear hrow hvb
    go_enter Tryd.func62, Tryd.ntmps62
    go_wp2_with (at_builtin; refine Heap.wpList_append_row _ rfl (.tmp 23) (.tmp 24) 113 rfl 121 i0 _ 1 8 Tryd.underlying113 hi hz0 hz1 hz2 rfl (by decide) _ 0 _ rfl HR.out ⟨vb, 0, none⟩ 1 1 N rfl HN1.out HNW.out HO.out (by unfold maxLen; omega) (by omega) ?_)
    intro v2 w3 r3 t3 o3
    have HF := Lib.hid (⟨r3, t3, o3⟩ : Row w3 121 1 v2 (0 + 1) (xs ++ N) ∧ Heap.Touch (own (.slice none 0 0)) w w3 ∧ ∀ k, own v2 k → own (.slice none 0 0) k ∨ w.heap.size ≤ k)
    clear r3 t3 o3
    go_wp2
    go_ret
    exact ⟨_, rfl, HF.out⟩
  · clear hrow hvb hg
    have hnc : (n : Int) ≤ (n : Int) := Int.le_refl _
    go_enter Tryd.func62, Tryd.ntmps62
    go_wp2_with (at_builtin; refine Heap.wpList_append_row _ rfl (.tmp 23) (.tmp 24) 113 rfl 121 i0 _ 1 8 Tryd.underlying113 hi hz0 hz1 hz2 rfl (by decide) _ n _ rfl HR.out ⟨vb, 0, none⟩ 1 1 N rfl HN1.out HNW.out HO.out (by unfold maxLen; omega) (by omega) ?_)
    all_goals
      intro v2 w3 r3 t3 o3
      have HF := Lib.hid (⟨r3, t3, o3⟩ : Row w3 121 1 v2 (n + 1) (xs ++ N) ∧ Heap.Touch (own (.slice (some ⟨g, off, none⟩) n cap)) w w3 ∧ ∀ k, own v2 k → own (.slice (some ⟨g, off, none⟩) n cap) k ∨ w.heap.size ≤ k)
      clear r3 t3 o3
      go_wp2
      go_ret
      exact ⟨_, rfl, HF.out⟩

set_option maxHeartbeats 4000000 in
set_option maxRecDepth 100000 in
theorem insert_room (g off cap : Nat) (hn : n ≤ 200000) (hi : i < n) (hroom : n + 1 ≤ cap) (hrow : Row w 121 1 (.slice (some ⟨g, off, none⟩) n cap) n xs) (hones : ∀ u ∈ xs, u.oneCell' = true) (hN : N.length = 1) (hone : ∀ u ∈ N, u.oneCell' = true) (hvb : w.heap[vb]? = some (.cells N.toArray 121 (0, 0))) (hne : vb ≠ g) :
    Calls Tryd.prog 62 #[.slice (some ⟨g, off, none⟩) n cap, .int .i64 i, .slice (some ⟨vb, 0, none⟩) 1 1] w (InsPost w (.slice (some ⟨g, off, none⟩) n cap) n i xs N) := by
  have hrow2 := hrow.2
  have hxl := hrow.1
  rcases hrow2 with ⟨h2, _⟩ | ⟨g', off', cap', cur, hv, hg, h1, h2, h3, h4⟩
  · cases h2
  simp only [Value.slice.injEq, Option.some.injEq, Addr.mk.injEq] at hv
  obtain ⟨⟨rfl, rfl, _⟩, _, rfl⟩ := hv
  have hX : xs = xs.take (i * 1) ++ xs.drop (i * 1) := (List.take_append_drop _ _).symm
  have hX1 : (xs.take (i * 1)).length = i * 1 := by rw [List.length_take, hxl]; omega
  have hX2 : (xs.drop (i * 1)).length = (n - i) * 1 := by rw [List.length_drop, hxl, Nat.sub_mul]
  have hlist := room_list (N := N) hi hroom hN (by rw [Array.length_toList]; exact h3) (h4.trans hX) hX1 hX2
  obtain ⟨C1, hC1⟩ : ∃ C1 : Array Value, C1 = (cur.toList.take (off + (i + 1) * 1) ++ xs.drop (i * 1) ++ cur.toList.drop (off + (i + 1) * 1 + (n - i) * 1)).toArray := ⟨_, rfl⟩
  obtain ⟨C2, hC2⟩ : ∃ C2 : Array Value, C2 = (C1.toList.take (off + i * 1) ++ N ++ C1.toList.drop (off + i * 1 + 1)).toArray := ⟨_, rfl⟩
  have hc1s : C1.size = cur.size := by rw [hC1, List.size_toArray, hlist.2.2, Array.length_toList]
  have hc2 : (C2.toList.drop off).take ((n + 1) * 1) = xs.take (i * 1) ++ N ++ xs.drop (i * 1) ∧ C2.size = cur.size := by
    rw [hC2, hC1]
    exact ⟨hlist.1, by rw [List.size_toArray, hlist.2.1, Array.length_toList]⟩
  have hcn : ∀ j u, N[j]? = some u → w.cell? ((⟨vb, 0, none⟩ : Addr).add j) = some u := fun j u hj => by
    rw [Addr.add_lit, cell_of_row w vb (0 + j) _ _ _ hvb, Nat.zero_add, List.getElem?_toArray]; exact hj
  have hov : ∀ lb cb, (callFunc 69 #[.slice (some ⟨vb, 0, none⟩) 1 1, .slice (some ⟨g, off + (i + 1) * 1, none⟩) lb cb]).run Tryd.prog w = .ok (.value (.bool false)) w := fun lb cb => by
    have hsz : cur.size ≠ 0 := by omega
    rw [run_callFunc_extern Tryd.func69 (by kernel_rfl) (by kernel_rfl) (by kernel_rfl) (e := Extern.SlicesOverlaps.overlaps #[113, 113] #[4]) (by kernel_rfl),
      Lib.run_overlaps_apart w 113 4 121 Tryd.underlying113 1 Tryd.sizeOf121 ⟨vb, 0, none⟩ ⟨g, off + (i + 1) * 1, none⟩ 1 1 lb cb hne 121 121 1 cur.size (by simp [World.shape?, hvb, hN]) (by simp [World.shape?, hg]) hsz (frozen_of_row w vb 0 _ _ hvb) (frozen_of_row w vb 1 _ _ hvb)]
    rfl
  have hcp1 : ∀ ty dc sc, (Builtin.copy_ #[113, 113] ty #[.slice (some ⟨g, off + (i + 1) * 1, none⟩) (n - i) dc, .slice (some ⟨g, off + i * 1, none⟩) (n + 1 - i) sc]).run Tryd.prog w.drew = .ok (goInt ((n - i : Nat) : Int)) (w.drew.setRow g C1) := fun ty dc sc => by
    have h := run_copyN w.drew 113 113 ty 121 1 g (off + (i + 1) * 1) (n - i) dc ⟨g, off + i * 1, none⟩ (n + 1 - i) sc cur 121 (xs.drop (i * 1)) (n - i) Tryd.underlying113 (by kernel_rfl) hg (by simp only [Nat.min_def]; split <;> omega) hX2
      (fun j v hj => by
        rw [List.getElem?_drop] at hj
        rw [Addr.add_lit]
        have hjl := (List.getElem?_eq_some_iff.1 hj).1
        rw [hxl] at hjl
        have := (hrow.cell (i * 1 + j) (by omega)).1
        rw [← Nat.add_assoc] at this
        exact this.trans hj) (by rw [hX2]; omega) (fun v hv => hones v (List.mem_of_mem_drop hv))
    rw [hX2] at h
    rw [hC1]
    exact h
  have hg1 : (w.drew.setRow g C1).heap[g]? = some (.cells C1 121 (0, 0)) := setRow_heap w.drew g cur C1 _ (0, 0) hg
  have hcp2 : ∀ ty dc, (Builtin.copy_ #[113, 113] ty #[.slice (some ⟨g, off + i * 1, none⟩) (n + 1 - i) dc, .slice (some ⟨vb, 0, none⟩) 1 1]).run Tryd.prog (w.drew.setRow g C1) = .ok (goInt 1) ((w.drew.setRow g C1).setRow g C2) := fun ty dc => by
    have h := run_copyN (w.drew.setRow g C1) 113 113 ty 121 1 g (off + i * 1) (n + 1 - i) dc ⟨vb, 0, none⟩ 1 1 C1 121 N 1 Tryd.underlying113 (by kernel_rfl) hg1 (by simp only [Nat.min_def]; split <;> omega) hN
      (fun j v hj => by
        have hvb1 : (w.drew.setRow g C1).heap[vb]? = some (.cells N.toArray 121 (0, 0)) := (setRow_other _ _ _ _ hne).trans hvb
        rw [Addr.add_lit, cell_of_row _ vb (0 + j) _ _ _ hvb1, Nat.zero_add, List.getElem?_toArray]; exact hj) (by rw [hc1s, hN]; omega) hone
    rw [hN] at h
    rw [hC2]
    exact h
  have hend : Row ((w.drew.setRow g C1).setRow g C2) 121 1 (.slice (some ⟨g, off, none⟩) (n + 1) cap) (n + 1) (xs.take (i * 1) ++ N ++ xs.drop (i * 1)) ∧ Heap.Touch (own (.slice (some ⟨g, off, none⟩) n cap)) w ((w.drew.setRow g C1).setRow g C2) := by
    refine ⟨⟨by simp only [List.length_append, hX1, hX2, hN]; omega, .inr ⟨g, off, cap, C2, rfl, setRow_heap _ g C1 C2 _ (0, 0) hg1, hroom, h2, by rw [hc2.2]; exact h3, hc2.1⟩⟩, touch_setRow (touch_setRow (Heap.Touch.refl _ w).drew (by simp [own, Value.ownBlock]) _) (by simp [own, Value.ownBlock]) _⟩
  have HEND := Lib.hid hend
  have hz2 : ¬ ((i : Int) = (n : Int)) := by omega
  have hw1 : IntKind.i64.wrap ((i : Int) + 1) = (i : Int) + 1 := IntWalk.i64_in _ (by omega)
  have hw2 : IntKind.i64.wrap ((n : Int) + 1) = (n : Int) + 1 := IntWalk.i64_in _ (by omega)
  have hb1 : (0 : Int) ≤ (i : Int) + 1 := by omega
  have hin : i ≤ n := by omega
  have htn : ((i : Int) + 1).toNat = i + 1 := by omega
  have htn2 : ((n : Int) + 1).toNat = n + 1 := by omega
  have hb2 : ¬ (cap = i + 1) := by omega
  have hb3 : (i : Int) ≤ (n : Int) + 1 := by omega
  have hb3' : (i : Int) + 1 ≤ (n : Int) + 1 := by omega
  have hb4 : ¬ (cap = i) := by omega
  have hb5 : (n : Int) + 1 ≤ cap := by omega
  clear hX hX1 hX2 hones hone hlist hC1 hC2 hc1s hc2 hg1 hend h1 h3 h4 hg hrow hvb hxl hcn hN
  simp only [Nat.mul_one] at hov hcp1 hcp2
  go_enter Tryd.func62, Tryd.ntmps62
  go_wp2_with (simp only [hov])
  go_region_law ((refine step_copy_runI rfl _ _ 113 113 rfl _ _ (by simp [Act.eval, Act.put]) (by simp [Act.eval, Act.put]) (hcp1 _ _ _) ?_))
  go_wp2_with (at_builtin; refine wpList_copy_runI _ rfl _ _ 113 113 rfl _ _ rfl rfl (hcp2 _ _) ?_)
  go_ret
  exact ⟨_, rfl, HEND.out.1, HEND.out.2, fun k hk => .inl hk⟩

set_option maxHeartbeats 4000000 in
set_option maxRecDepth 100000 in
theorem insert_grow (g off cap : Nat) (hn : n ≤ 200000) (hi : i < n) (hroom : cap < n + 1) (hrow : Row w 121 1 (.slice (some ⟨g, off, none⟩) n cap) n xs) (hones : ∀ u ∈ xs, u.oneCell' = true) (hN : N.length = 1) (hone : ∀ u ∈ N, u.oneCell' = true) (hvb : w.heap[vb]? = some (.cells N.toArray 121 (0, 0))) :
    Calls Tryd.prog 62 #[.slice (some ⟨g, off, none⟩) n cap, .int .i64 i, .slice (some ⟨vb, 0, none⟩) 1 1] w (InsPost w (.slice (some ⟨g, off, none⟩) n cap) n i xs N) := by
  obtain ⟨hncap, hcapm⟩ := hrow.cap_le
  have hxl := hrow.1
  have hX1 : (xs.take (i * 1)).length = i * 1 := by rw [List.length_take, hxl]; omega
  have hX2 : (xs.drop (i * 1)).length = (n - i) * 1 := by rw [List.length_drop, hxl, Nat.sub_mul]
  have hcellR : ∀ j v, xs[j]? = some v → w.cell? ⟨g, off + j, none⟩ = some v := fun j v hj => by
    have hjl := (List.getElem?_eq_some_iff.1 hj).1
    rw [hxl] at hjl
    exact (hrow.cell j (by omega)).1.trans hj
  obtain ⟨i0, hi0, hz0, hzs, hzb⟩ := info_parts info_el
  have hglt : g < w.heap.size := by
    have := hrow.lt g (by simp [own, Value.ownBlock]); exact this
  have hvlt : vb < w.heap.size := heap_lt hvb
  have hkk : (n : Int) + 1 - (i : Int) = ((n + 1 - i : Nat) : Int) := by omega
  have hik : i + (n + 1 - i) = n + 1 := by omega
  have hold : (Builtin.firstCells i0.size i (.slice (some ⟨g, off, none⟩) i cap)).run Tryd.prog w.drew = .ok (xs.take (i * 1)).toArray w.drew := by
    rw [hzs]
    exact run_firstCells_some w.drew 1 i ⟨g, off, none⟩ i cap _ hX1 (fun j v hj => by
      rw [Addr.add_lit]
      rw [List.getElem?_take] at hj
      split at hj
      · exact hcellR j v hj
      · cases hj)
  obtain ⟨G, hG⟩ : ∃ G, G = grownCap w (n + 1) cap 121 := ⟨_, rfl⟩
  obtain ⟨ROW, hROW⟩ : ∃ ROW : Array Value, ROW = (xs.take (i * 1)).toArray ++ Builtin.zeroCells (Value.pointer none).cells (n + 1 - i) ++ Builtin.zeroCells (Value.pointer none).cells (G - (n + 1)) := ⟨_, rfl⟩
  obtain ⟨W1, hW1⟩ : ∃ W1, W1 = w.drew.alloc (.cells ROW 121) := ⟨_, rfl⟩
  have hrz : ∀ ty, (Builtin.append_ #[113, 3] ty #[.slice (some ⟨g, off, none⟩) i cap, .int .i64 ((n : Int) + 1 - (i : Int))]).run Tryd.prog w = .ok (.slice (some ⟨w.heap.size, 0, none⟩) (n + 1) G) W1 := fun ty => by
    have h := Lib.run_append_grow_zeros w 113 3 ty 121 i0 _ .i64 .i64 Tryd.underlying113 Tryd.underlying3 hi0 hz0 (some ⟨g, off, none⟩) i cap _ hold (n + 1 - i) (by omega) (by omega) (by omega) (by omega) (by rw [hzb]; omega) (by rw [hzb, hik]; exact growslice_fits hroom (by omega))
    rw [hik] at h
    rw [hkk, hW1, hROW, hG]
    exact h
  have hGn : n + 1 ≤ G := by rw [hG]; exact grownCap_ge w _ _ _
  have hGm : G ≤ maxLen := by rw [hG]; exact grownCap_le_maxLen w (n + 1) cap 121 (by unfold maxLen; omega)
  have hRl : ROW.toList.length = G * 1 := by
    rw [hROW]
    simp [Builtin.zeroCells, Value.cells, hxl]
    omega
  have hRt : ROW.toList.take (i * 1) = xs.take (i * 1) := by
    rw [hROW]
    simp only [Array.toList_append]
    rw [List.append_assoc, List.take_append, hX1, Nat.sub_self, List.take_zero, List.append_nil, List.take_of_length_le (by rw [hX1]; omega)]
  have hheap : W1.heap = w.heap.push (.cells ROW 121) := by rw [hW1]; rfl
  have hN1 : W1.heap[w.heap.size]? = some (.cells ROW 121 (0, 0)) := by rw [hheap, Array.getElem?_push_size]
  have hold1 : ∀ k, k < w.heap.size → W1.heap[k]? = w.heap[k]? := fun k hk => by rw [hheap, Array.getElem?_push_lt hk, Array.getElem?_eq_getElem hk]
  have ht1 : Heap.Touch (fun _ => False) w W1 := by rw [hW1]; exact ((Heap.Touch.refl _ w).drew).alloc _
  have hlist := grow_list (N := N) hi hGn hN hRl hRt hX1 hX2
  obtain ⟨C1, hC1⟩ : ∃ C1 : Array Value, C1 = (ROW.toList.take (i * 1) ++ N ++ ROW.toList.drop (i * 1 + 1)).toArray := ⟨_, rfl⟩
  obtain ⟨C2, hC2⟩ : ∃ C2 : Array Value, C2 = (C1.toList.take ((i + 1) * 1) ++ xs.drop (i * 1) ++ C1.toList.drop ((i + 1) * 1 + (n - i) * 1)).toArray := ⟨_, rfl⟩
  have hc1s : C1.size = G * 1 := by rw [hC1, List.size_toArray]; exact hlist.2.2
  have hc2 : C2.toList.take ((n + 1) * 1) = xs.take (i * 1) ++ N ++ xs.drop (i * 1) ∧ C2.size = G * 1 := by
    rw [hC2, hC1]
    exact ⟨hlist.1, by rw [List.size_toArray]; exact hlist.2.1⟩
  have hcpA : ∀ ty dc, (Builtin.copy_ #[113, 113] ty #[.slice (some ⟨w.heap.size, i * 1, none⟩) (n + 1 - i) dc, .slice (some ⟨vb, 0, none⟩) 1 1]).run Tryd.prog W1 = .ok (goInt 1) (W1.setRow w.heap.size C1) := fun ty dc => by
    have h := run_copyN W1 113 113 ty 121 1 w.heap.size (i * 1) (n + 1 - i) dc ⟨vb, 0, none⟩ 1 1 ROW 121 N 1 Tryd.underlying113 (by kernel_rfl) hN1 (by simp only [Nat.min_def]; split <;> omega) hN
      (fun j v hj => by
        rw [Addr.add_lit, cell_of_row _ vb (0 + j) _ _ _ ((hold1 vb hvlt).trans hvb), Nat.zero_add, List.getElem?_toArray]; exact hj) (by rw [← Array.length_toList, hRl, hN]; omega) hone
    rw [hN] at h
    rw [hC1]
    exact h
  have hg1 : (W1.setRow w.heap.size C1).heap[w.heap.size]? = some (.cells C1 121 (0, 0)) := setRow_heap W1 _ ROW C1 _ (0, 0) hN1
  have hcpB : ∀ ty dc sc, (Builtin.copy_ #[113, 113] ty #[.slice (some ⟨w.heap.size, (i + 1) * 1, none⟩) (n - i) dc, .slice (some ⟨g, off + i * 1, none⟩) (n - i) sc]).run Tryd.prog (W1.setRow w.heap.size C1).drew = .ok (goInt ((n - i : Nat) : Int)) ((W1.setRow w.heap.size C1).drew.setRow w.heap.size C2) := fun ty dc sc => by
    have h := run_copyN (W1.setRow w.heap.size C1).drew 113 113 ty 121 1 w.heap.size ((i + 1) * 1) (n - i) dc ⟨g, off + i * 1, none⟩ (n - i) sc C1 121 (xs.drop (i * 1)) (n - i) Tryd.underlying113 (by kernel_rfl) hg1 (by simp) hX2
      (fun j v hj => by
        rw [List.getElem?_drop] at hj
        rw [Addr.add_lit]
        have h9 := hcellR (i * 1 + j) v hj
        rw [← Nat.add_assoc] at h9
        show (W1.setRow w.heap.size C1).cell? _ = _
        rw [World.cell?_of_block (a := ⟨g, off + i * 1 + j, none⟩) ((setRow_other W1 w.heap.size g C1 (by omega)).trans (hold1 g hglt))]
        exact h9) (by rw [hX2, hc1s]; omega) (fun v hv => hones v (List.mem_of_mem_drop hv))
    rw [hX2] at h
    rw [hC2]
    exact h
  have hend : Row ((W1.setRow w.heap.size C1).drew.setRow w.heap.size C2) 121 1 (.slice (some ⟨w.heap.size, 0, none⟩) (n + 1) G) (n + 1) (xs.take (i * 1) ++ N ++ xs.drop (i * 1)) ∧ Heap.Touch (own (.slice (some ⟨g, off, none⟩) n cap)) w ((W1.setRow w.heap.size C1).drew.setRow w.heap.size C2) := by
    refine ⟨⟨by simp only [List.length_append, hX1, hX2, hN]; omega, .inr ⟨w.heap.size, 0, G, C2, rfl, setRow_heap _ _ C1 C2 _ (0, 0) hg1, hGn, hGm, by rw [hc2.2]; omega, by rw [List.drop_zero]; exact hc2.1⟩⟩, ?_⟩
    have h5 : Heap.Touch (fun k => k = w.heap.size) w ((W1.setRow w.heap.size C1).drew.setRow w.heap.size C2) := touch_setRow (F := fun k => k = w.heap.size) (touch_setRow (F := fun k => k = w.heap.size) (ht1.mono fun _ _ h => h.elim) rfl C1).drew rfl C2
    exact h5.mono fun k hk e => by omega
  have HEND := Lib.hid hend
  have hz2 : ¬ ((i : Int) = (n : Int)) := by omega
  have hw1 : IntKind.i64.wrap ((i : Int) + 1) = (i : Int) + 1 := IntWalk.i64_in _ (by omega)
  have hw2 : IntKind.i64.wrap ((n : Int) + 1) = (n : Int) + 1 := IntWalk.i64_in _ (by omega)
  have hw3 : IntKind.i64.wrap ((n : Int) + 1 - (i : Int)) = (n : Int) + 1 - (i : Int) := IntWalk.i64_in _ (by omega)
  have hb1 : (0 : Int) ≤ (i : Int) + 1 := by omega
  have hin : i ≤ n := by omega
  have htn : ((i : Int) + 1).toNat = i + 1 := by omega
  have hb3 : (i : Int) ≤ (n : Int) + 1 := by omega
  have hb3' : (i : Int) + 1 ≤ (n : Int) + 1 := by omega
  have hb4 : ¬ (cap = i) := by omega
  have hb5 : (cap : Int) < (n : Int) + 1 := by omega
  have hb6 : ¬ (G = i) := by omega
  have hb7 : ¬ (G = i + 1) := by omega
  clear hX1 hX2 hones hone hlist hC1 hC2 hc1s hc2 hg1 hend hrow hvb hold hROW hW1 hG hRl hRt hheap hN1 hold1 ht1 hkk hik hcellR hxl hN
  simp only [Nat.mul_one] at hcpA hcpB
  go_enter Tryd.func62, Tryd.ntmps62
  go_wp2_with (first
    | (at_builtin; refine Lib.wpList_append_run _ rfl _ _ _ _ rfl _ _ rfl rfl _ _ (hrz _) ?_)
    | (at_builtin; refine wpList_copy_runI _ rfl _ _ 113 113 rfl _ _ rfl rfl (hcpA _ _) ?_))
  go_region_law ((refine step_copy_runI rfl _ _ 113 113 rfl _ _ (by simp [Act.eval, Act.put]) (by simp [Act.eval, Act.put]) (hcpB _ _ _) ?_))
  go_wp2
  go_ret
  exact ⟨_, rfl, HEND.out.1, HEND.out.2, fun k hk => .inr (by simp [own, Value.ownBlock] at hk; omega)⟩

/-- In whatever place. -/
theorem insert_any (v : Value) (hn : n ≤ 200000) (hi : i ≤ n) (hrow : Row w 121 1 v n xs) (hones : ∀ u ∈ xs, u.oneCell' = true) (hN : N.length = 1) (hone : ∀ u ∈ N, u.oneCell' = true) (hvb : w.heap[vb]? = some (.cells N.toArray 121 (0, 0))) (hne : ¬ own v vb) :
    Calls Tryd.prog 62 #[v, .int .i64 i, .slice (some ⟨vb, 0, none⟩) 1 1] w (InsPost w v n i xs N) := by
  by_cases he : i = n
  · subst he
    exact insert_end v hn hrow hN hone hvb
  · rcases hrow.2 with ⟨rfl, h0⟩ | ⟨g, off, cap, cur, rfl, _⟩
    · omega
    · by_cases hr : n + 1 ≤ cap
      · exact insert_room g off cap hn (by omega) hr hrow hones hN hone hvb (fun e => hne (by rw [e]; simp [own, Value.ownBlock]))
      · exact insert_grow g off cap hn (by omega) (by omega) hrow hones hN hone hvb
end
end Go.Proofs.YtapmhpnkpjgefaaDoor.Idx.Ins

namespace Go.Proofs.YtapmhpnkpjgefaaDoor.Idx.Ins
open Go.RowKit Heap

theorem step_append_runI {P : Program} {ops : Array Oper} {o : Oper} {a : Act} {w : World} {K : Act → World → Prop} {Q : Exit → Act → World → Prop} {E : Prop}
    (hg : o.guard = none) (s x : Operand) (t : TypeId) (hop : o.op = Op.call { callee := Callee.builtin Builtin.append, args := #[s, x], argTypes := #[t, t] })
    (v u : Value) (hs : a.eval s = v) (hx : a.eval x = u) {v' : Value} {w' : World} (hr : (Builtin.append_ #[t, t] o.type #[v, u]).run P w = .ok v' w') (hK : K (a.put o.dst v') w') :
    if Region.wanted o (yielded ops a.tmps) = true then Oper.wp P o a w K Q else E := by
  have hw : Region.wanted o (yielded ops a.tmps) = true := by simp [Region.wanted, hg]
  rw [if_pos hw]
  unfold Oper.wp execOp
  simp only [hop, resolve, invoke, builtin, Sem.run_bind, Sem.run_pure, Result.andThen_ok, List.map_toArray, List.map_cons, List.map_nil, hs, hx, hr]
  exact hK

theorem erase_list {cur xs : List Value} {off i m : Nat} (hi : i ≤ m) (h3 : off + (m + 1) ≤ cur.length) (hx : (cur.drop off).take (m + 1) = xs) :
    let c1 := cur.take (off + i) ++ xs.drop (i + 1) ++ cur.drop (off + i + (m - i))
    c1.length = cur.length ∧ (c1.drop off).take m = xs.eraseIdx i := by
  have hxl : xs.length = m + 1 := by rw [← hx, List.length_take, List.length_drop]; omega
  intro c1
  have hP : (cur.take off).length = off := by rw [List.length_take]; omega
  have e1 : cur.take (off + i) = cur.take off ++ xs.take i := by
    rw [List.take_add, ← hx, List.take_take, show min i (m + 1) = i by omega]
  refine ⟨?_, ?_⟩
  · show (cur.take (off + i) ++ xs.drop (i + 1) ++ cur.drop (off + i + (m - i))).length = _
    simp only [List.length_append, List.length_take, List.length_drop, hxl]; omega
  · show ((cur.take (off + i) ++ xs.drop (i + 1) ++ cur.drop (off + i + (m - i))).drop off).take m = _
    rw [e1, List.append_assoc, List.append_assoc, List.drop_append, hP, Nat.sub_self, List.drop_zero, List.drop_of_length_le (by omega), List.nil_append, ← List.append_assoc]
    have hl : (xs.take i ++ xs.drop (i + 1)).length = m := by simp only [List.length_append, List.length_take, List.length_drop, hxl]; omega
    rw [List.take_append, hl, Nat.sub_self, List.take_zero, List.append_nil, List.take_of_length_le (by omega), List.eraseIdx_eq_take_drop_succ]

section
variable {w : World} {m i : Nat} {xs : List Value}

set_option maxHeartbeats 4000000 in
set_option maxRecDepth 100000 in
theorem delete_any (g off cap : Nat) (hn : m ≤ 200000) (hi : i ≤ m) (hrow : Row w 121 1 (.slice (some ⟨g, off, none⟩) (m + 1 : Nat) cap) (m + 1) xs) (hones : ∀ u ∈ xs, u.oneCell' = true) :
    Calls Tryd.prog 65 #[.slice (some ⟨g, off, none⟩) (m + 1 : Nat) cap, .int .i64 i, .int .i64 ((i : Int) + 1)] w fun e w' => e = .returned (.slice (some ⟨g, off, none⟩) m cap) ∧ Row w' 121 1 (.slice (some ⟨g, off, none⟩) m cap) m (xs.eraseIdx i) ∧ Heap.Touch (own (.slice (some ⟨g, off, none⟩) (m + 1 : Nat) cap)) w w' := by
  have hrow2 := hrow.2
  have hxl := hrow.1
  rcases hrow2 with ⟨h2, _⟩ | ⟨g', off', cap', cur, hv, hg, h1, h2, h3, h4⟩
  · cases h2
  simp only [Value.slice.injEq, Option.some.injEq, Addr.mk.injEq] at hv
  obtain ⟨⟨rfl, rfl, _⟩, _, rfl⟩ := hv
  obtain ⟨i0, hi0, hz0, hzs, hzb⟩ := info_parts info_el
  simp only [Nat.mul_one] at h3 h4 hxl
  have hlist := erase_list (i := i) (m := m) hi (by rw [Array.length_toList]; omega) h4
  obtain ⟨C1, hC1⟩ : ∃ C1 : Array Value, C1 = (cur.toList.take (off + i) ++ xs.drop (i + 1) ++ cur.toList.drop (off + i + (m - i))).toArray := ⟨_, rfl⟩
  have hc1s : C1.size = cur.size := by rw [hC1, List.size_toArray, hlist.1, Array.length_toList]
  have hc1t : (C1.toList.drop off).take m = xs.eraseIdx i := by rw [hC1]; exact hlist.2
  have hnl : (xs.drop (i + 1)).length = m - i := by rw [List.length_drop, hxl]; omega
  have hap : ∀ ty (a : Addr) c, (m - i = 0 ∨ a = ⟨g, off + (i + 1), none⟩) → (Builtin.append_ #[113, 113] ty #[.slice (some ⟨g, off, none⟩) i cap, .slice (some a) (m - i) c]).run Tryd.prog w.drew = .ok (.slice (some ⟨g, off, none⟩) m cap) (w.drew.setRow g C1) := fun ty a c ha => by
    have h := run_append_room' (P := Tryd.prog) w.drew 113 ty 121 i0 Tryd.underlying113 hi0 g off i cap cur hg a (m - i) c (xs.drop (i + 1)) (by rw [hzs, hnl, Nat.mul_one]) (fun j u hj => by
        have hjl := (List.getElem?_eq_some_iff.1 hj).1
        rw [hnl] at hjl
        rcases ha with ha | ha
        · omega
        · subst ha
          rw [List.getElem?_drop] at hj
          rw [Addr.add_lit]
          have := (hrow.cell (i + 1 + j) (by omega)).1
          rw [← Nat.add_assoc] at this
          exact this.trans hj) (fun u hu => hones u (List.mem_of_mem_drop hu)) (by omega) (by rw [hzs, hnl]; omega)
    rw [hzs, hnl, Nat.mul_one, show i + (m - i) = m by omega] at h
    rw [hC1]
    exact h
  have hg1 : (w.drew.setRow g C1).heap[g]? = some (.cells C1 121 (0, 0)) := setRow_heap w.drew g cur C1 _ (0, 0) hg
  have hr1 : Row (w.drew.setRow g C1) 121 1 (.slice (some ⟨g, off, none⟩) (m + 1 : Nat) cap) (m + 1) ((C1.toList.drop off).take ((m + 1) * 1)) :=
    ⟨by rw [List.length_take, List.length_drop, Array.length_toList, hc1s]; omega, .inr ⟨g, off, cap, C1, rfl, hg1, by omega, h2, by rw [hc1s]; omega, rfl⟩⟩
  obtain ⟨w3, hcl, r3, t3⟩ := run_clear_row (P := Tryd.prog) 113 121 0 (.pointer none) 1 Tryd.underlying113 Tryd.zeroValue121 rfl (by decide) (by decide) hr1 (show m < m + 1 by omega)
  have HEND := Lib.hid (show Row w3 121 1 (.slice (some ⟨g, off, none⟩) m cap) m (xs.eraseIdx i) ∧ Heap.Touch (own (.slice (some ⟨g, off, none⟩) (m + 1 : Nat) cap)) w w3 from by
    refine ⟨?_, (touch_setRow (Heap.Touch.refl _ w).drew (by simp [own, Value.ownBlock]) _).after t3⟩
    rw [List.take_take, show min (m * 1) ((m + 1) * 1) = m by omega, hc1t] at r3
    exact r3)
  rw [show m + 1 - m = 1 by omega, Nat.mul_one] at hcl
  have hij : ¬ ((i : Int) = (i : Int) + 1) := by omega
  have hb1 : (i : Int) ≤ (i : Int) + 1 := by omega
  have hb2 : (i : Int) + 1 ≤ (m : Int) + 1 := by omega
  have hb3 : (0 : Int) ≤ (i : Int) + 1 := by omega
  have htn : ((i : Int) + 1).toNat = i + 1 := by omega
  have hmc : m + 1 ≤ cap := h1
  have hb4 : (i : Int) ≤ (m : Int) + 1 := by omega
  have hb5 : ¬ cap = m := by omega
  have hb6 : (i : Int) ≤ (cap : Int) := by omega
  have hb7 : (m : Int) + 1 ≤ (cap : Int) := by omega
  have hb8 : (m : Int) ≤ (m : Int) + 1 := by omega
  have htm : ((m : Int) + 1).toNat = m + 1 := by omega
  have HROW := Lib.hid (show Row w.drew 121 1 (.slice (some ⟨g, off, none⟩) (m + 1 : Nat) cap) (m + 1) xs from hrow)
  clear hlist hC1 hc1s hc1t hnl hg1 hr1 r3 t3 h1 h2 h3 h4 hg hrow hxl hones
  by_cases hci : cap = i + 1
  · obtain rfl : m = i := by omega
    subst hci
    clear hap hcl HEND hij hb1 hb2 hb3 hb4 hb5 hb6 hb7 hb8 hmc
    obtain ⟨w4, hcl, r4, t4⟩ := run_clear_row (P := Tryd.prog) (w := w.drew) 113 121 0 (.pointer none) 1 Tryd.underlying113 Tryd.zeroValue121 rfl (by decide) (by decide) HROW.out (show m < m + 1 by omega)
    have HEND := Lib.hid (show Row w4 121 1 (.slice (some ⟨g, off, none⟩) m (m + 1 : Nat)) m (xs.eraseIdx m) ∧ Heap.Touch (own (.slice (some ⟨g, off, none⟩) (m + 1 : Nat) (m + 1 : Nat))) w w4 from by
      refine ⟨?_, (Heap.Touch.refl _ w).drew.after t4⟩
      have hxl := HROW.out.1
      rw [show xs.eraseIdx m = xs.take (m * 1) from by rw [List.eraseIdx_eq_take_drop_succ, List.drop_of_length_le (by omega), List.append_nil, Nat.mul_one]]
      exact r4)
    rw [show m + 1 - m = 1 by omega, Nat.mul_one] at hcl
    have hij : ¬ ((m : Int) = (m : Int) + 1) := by omega
    have hb1 : (m : Int) ≤ (m : Int) + 1 := by omega
    have hb3 : (0 : Int) ≤ (m : Int) + 1 := by omega
    have hb4 : m ≤ m + 1 := by omega
    clear r4 t4
    go_enter Tryd.func65, Tryd.ntmps65
    go_wp2_with fail
    go_region_law (fail)
    go_wp2_with fail
    go_ret
    exact ⟨rfl, HEND.out⟩
  · have hci' : ¬ cap = i + 1 := hci
    go_enter Tryd.func65, Tryd.ntmps65
    go_wp2_with fail
    go_region_law ((refine step_append_runI rfl _ _ 113 rfl _ _ (by simp [Act.eval, Act.put]) (by simp [Act.eval, Act.put]) (hap _ ⟨g, off + (i + 1), none⟩ (cap - (i + 1)) (.inr rfl)) ?_))
    go_wp2_with fail
    go_ret
    exact ⟨rfl, HEND.out⟩
end
end Go.Proofs.YtapmhpnkpjgefaaDoor.Idx.Ins
