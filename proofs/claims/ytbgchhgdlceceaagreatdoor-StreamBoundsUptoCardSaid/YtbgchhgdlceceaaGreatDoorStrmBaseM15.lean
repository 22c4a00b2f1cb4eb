/- Parts of the proof, joined: slices.Insert of one element of 1 cells, walked.; (*Index).Put, walked. -/
import Derived.Test.YtbgchhgdlceceaaGreatDoorStrmBaseM14
import Derived.Lib.AppendZerosOnto
import Derived.Lib.Overlaps
import Derived.Laws.CopyRow
import Derived.Shelf.Spec.SlicesInsert
import Derived.Deep.RegionLaw
namespace Go.Proofs.YtbgchhgdlceceaaGreatDoor.Idx.Ins
open Go.RowKit Heap

/-- 'copy' into a row of elements of so many cells each. -/
theorem run_copyN {P : Program} (w : World) (dT sT ty elem : TypeId) (size g o dLen dCap : Nat) (a : Addr) (sLen sCap : Nat) (cur : Array Value) (t : TypeId) (cs : List Value) (m : Nat)
    (hu : P.underlying dT = some (.slice elem)) (hs : (P.info? elem).map (·.size) = some size)
    (hg : w.heap[g]? = some (.cells cur t (0, 0))) (hm : Nat.min sLen dLen = m) (hn : cs.length = m * size)
    (hsrc : ∀ j v, cs[j]? = some v → w.cell? (a.add j) = some v) (hfit : o + cs.length ≤ cur.size) (h1 : ∀ v ∈ cs, v.oneCell' = true) :
    (Builtin.copy_ #[dT, sT] ty #[.slice (some ⟨g, o, none⟩) dLen dCap, .slice (some a) sLen sCap]).run P w =
      .ok (goInt m) (w.setRow g (cur.toList.take o ++ cs ++ cur.toList.drop (o + cs.length)).toArray) := by
  have hl := run_loadCells_list (P := P) w a cs hsrc
  have hst := run_storeCells_at P g o t cs 0 cur w hg (by simpa using hfit) h1
  cases hq : P.info? elem with
  | none => simp [hq] at hs
  | some i =>
    have hi : i.size = size := by simpa [hq] using hs
    rw [hn] at hl hst
    simp [Builtin.copy_, run_underlying hu, Builtin.lenOf, Builtin.firstCells, sizeOf, typeInfo, hq, hi, hm, hl, hst, hn]

theorem shift_list {P X1 X2 R N : List Value} {A : List Value} (hA : A.length = P.length + X1.length + N.length) (hAt : A.take (P.length + X1.length) = P ++ X1) :
    (A ++ X2 ++ R).take (P.length + X1.length) ++ N ++ (A ++ X2 ++ R).drop (P.length + X1.length + N.length) = P ++ (X1 ++ N ++ X2) ++ R := by
  rw [List.append_assoc A, List.take_append, hAt, List.drop_append, ← hA, List.drop_length, Nat.sub_self, List.drop_zero]
  rw [show P.length + X1.length - A.length = 0 by omega, List.take_zero]
  simp

theorem setRow_other (w : World) (g k : Nat) (cs : Array Value) (h : k ≠ g) : (w.setRow g cs).heap[k]? = w.heap[k]? := by
  simp only [World.setRow, Array.getElem?_modify]
  rw [if_neg (fun e => h e.symm)]

theorem touch_setRow {F : Nat → Prop} {a w : World} (h : Heap.Touch F a w) {g : Nat} (hg : F g) (cs : Array Value) : Heap.Touch F a (w.setRow g cs) :=
  ⟨h.os, h.tape, h.output, by simp [World.setRow]; exact h.size, fun k hk hn => by rw [setRow_other _ _ _ _ (fun e => hn (by rw [e]; exact hg))]; exact h.block k hk hn⟩

/-- The array behind an insertion in place. -/
theorem room_list {cur N X1 X2 : List Value} {off i n cap : Nat} (hi : i < n) (hroom : n + 1 ≤ cap) (hN : N.length = 1) (h3 : off + cap * 1 ≤ cur.length) (hx : (cur.drop off).take (n * 1) = X1 ++ X2) (h1 : X1.length = i * 1) (h2 : X2.length = (n - i) * 1) :
    let c1 := cur.take (off + (i + 1) * 1) ++ X2 ++ cur.drop (off + (i + 1) * 1 + (n - i) * 1)
    let c2 := c1.take (off + i * 1) ++ N ++ c1.drop (off + i * 1 + 1)
    (c2.drop off).take ((n + 1) * 1) = X1 ++ N ++ X2 ∧ c2.length = cur.length ∧ c1.length = cur.length := by
  have hP : (cur.take off).length = off := by rw [List.length_take]; omega
  have hX1 : (cur.take (off + (i + 1) * 1)).take (off + i * 1) = cur.take off ++ X1 := by
    rw [List.take_take, show min (off + i * 1) (off + (i + 1) * 1) = off + i * 1 by omega]
    have e1 : X1 = (X1 ++ X2).take (i * 1) := by rw [← h1]; exact (List.take_left).symm
    have this : X1 = (cur.drop off).take (i * 1) := by
      rw [e1, ← hx, List.take_take, show min (i * 1) (n * 1) = i * 1 by omega]
    rw [this, List.take_add]
  have hA : (cur.take (off + (i + 1) * 1)).length = (cur.take off).length + X1.length + N.length := by rw [hP, h1, hN, List.length_take]; omega
  have hs := shift_list (X2 := X2) (R := cur.drop (off + (i + 1) * 1 + (n - i) * 1)) (N := N) hA (by rw [hP, h1]; exact hX1)
  rw [hP, h1, hN] at hs
  intro c1 c2
  have e2 : c2 = cur.take off ++ (X1 ++ N ++ X2) ++ cur.drop (off + (i + 1) * 1 + (n - i) * 1) := hs
  have hl : (X1 ++ N ++ X2).length = (n + 1) * 1 := by simp only [List.length_append, h1, h2, hN]; omega
  refine ⟨?_, ?_, ?_⟩
  · rw [e2, List.append_assoc, List.drop_append, hP, Nat.sub_self, List.drop_zero, List.drop_of_length_le (by omega), List.nil_append, List.take_append, hl, Nat.sub_self, List.take_zero, List.append_nil, List.take_of_length_le (by omega)]
  · rw [e2]
    simp only [List.length_append, hP, List.length_drop] at hl ⊢
    omega
  · show (cur.take (off + (i + 1) * 1) ++ X2 ++ cur.drop (off + (i + 1) * 1 + (n - i) * 1)).length = _
    simp only [List.length_append, List.length_take, List.length_drop, h2]
    omega

/-- The new array. -/
theorem grow_list {row N X1 X2 : List Value} {i n G : Nat} (hi : i < n) (hG : n + 1 ≤ G) (hN : N.length = 1) (hr : row.length = G * 1) (hx : row.take (i * 1) = X1) (h1 : X1.length = i * 1) (h2 : X2.length = (n - i) * 1) :
    let c1 := row.take (i * 1) ++ N ++ row.drop (i * 1 + 1)
    let c2 := c1.take ((i + 1) * 1) ++ X2 ++ c1.drop ((i + 1) * 1 + (n - i) * 1)
    c2.take ((n + 1) * 1) = X1 ++ N ++ X2 ∧ c2.length = G * 1 ∧ c1.length = G * 1 := by
  intro c1 c2
  have e1 : c1.take ((i + 1) * 1) = X1 ++ N := by
    show (row.take (i * 1) ++ N ++ row.drop (i * 1 + 1)).take ((i + 1) * 1) = _
    rw [hx]
    have : (X1 ++ N).length = (i + 1) * 1 := by rw [List.length_append, h1, hN]; omega
    rw [← this]; exact List.take_left
  have l1 : c1.length = G * 1 := by
    show (row.take (i * 1) ++ N ++ row.drop (i * 1 + 1)).length = _
    rw [hx]
    simp only [List.length_append, List.length_drop, h1, hN, hr]; omega
  refine ⟨?_, ?_, l1⟩
  · show (c1.take ((i + 1) * 1) ++ X2 ++ c1.drop ((i + 1) * 1 + (n - i) * 1)).take ((n + 1) * 1) = _
    rw [e1]
    have : (X1 ++ N ++ X2).length = (n + 1) * 1 := by simp only [List.length_append, h1, h2, hN]; omega
    rw [← this]; exact List.take_left
  · show (c1.take ((i + 1) * 1) ++ X2 ++ c1.drop ((i + 1) * 1 + (n - i) * 1)).length = _
    rw [e1]
    simp only [List.length_append, List.length_drop, h1, h2, hN, l1]; omega

theorem info_el : (Tryz.prog.info? 276).map (fun i => (i.zero, i.size, i.bytes)) = some (some (Value.pointer none), 1, 8) := by kernel_rfl

/-- What is behind it all. -/
def InsPost (w : World) (v : Value) (n i : Nat) (xs N : List Value) (e : Ending) (w' : World) : Prop :=
  ∃ v', e = .returned v' ∧ Row w' 276 1 v' (n + 1) (xs.take (i * 1) ++ N ++ xs.drop (i * 1)) ∧ Heap.Touch (own v) w w' ∧ ∀ k, own v' k → own v k ∨ w.heap.size ≤ k

section
variable {w : World} {n i vb : Nat} {xs N : List Value}

set_option maxHeartbeats 2000000 in
set_option maxRecDepth 100000 in
/-- At the end. -/
theorem insert_end (v : Value) (hn : n ≤ 200000) (hrow : Row w 276 1 v n xs) (hN : N.length = 1) (hone : ∀ u ∈ N, u.oneCell' = true) (hvb : w.heap[vb]? = some (.cells N.toArray 276 (0, 0))) :
    Calls Tryz.prog 204 #[v, .int .i64 n, .slice (some ⟨vb, 0, none⟩) 1 1] w (InsPost w v n n xs N) := by
  have HR := Lib.hid hrow
  have hnews : ∀ j u, N[j]? = some u → w.cell? ((⟨vb, 0, none⟩ : Addr).add j) = some u := fun j u hj => by
    rw [Addr.add_lit, cell_of_row w vb (0 + j) _ _ _ hvb, Nat.zero_add, List.getElem?_toArray]; exact hj
  have hN1 : N.length = 1 * 1 := hN
  have HE := Lib.hid (show xs.take (n * 1) ++ N ++ xs.drop (n * 1) = xs ++ N from by
    have := hrow.1
    rw [List.take_of_length_le (by omega), List.drop_of_length_le (by omega), List.append_nil])
  unfold InsPost
  rw [HE.out]
  have HNW := Lib.hid hnews; have HO := Lib.hid hone; have HN1 := Lib.hid hN1
  clear hnews hone hN hN1
  obtain ⟨i0, hi, hz0, hz1, hz2⟩ := info_parts info_el
  rcases hrow.2 with ⟨rfl, rfl⟩ | ⟨g, off, cap, cur, rfl, hg, h1, h2, _⟩
  · clear hrow hvb
    go_enter Tryz.func204, Tryz.ntmps204
    go_wp2_with (at_builtin; refine Heap.wpList_append_row _ rfl (.tmp 23) (.tmp 24) 218 rfl 276 i0 _ 1 8 Tryz.underlying218 hi hz0 hz1 hz2 rfl (by decide) _ 0 _ rfl HR.out ⟨vb, 0, none⟩ 1 1 N rfl HN1.out HNW.out HO.out (by unfold maxLen; omega) (by omega) ?_)
    intro v2 w3 r3 t3 o3
    have HF := Lib.hid (⟨r3, t3, o3⟩ : Row w3 276 1 v2 (0 + 1) (xs ++ N) ∧ Heap.Touch (own (.slice none 0 0)) w w3 ∧ ∀ k, own v2 k → own (.slice none 0 0) k ∨ w.heap.size ≤ k)
    clear r3 t3 o3
    go_wp2
    go_ret
    exact ⟨_, rfl, HF.out⟩
  · clear hrow hvb hg
    have hnc : (n : Int) ≤ (n : Int) := Int.le_refl _
    go_enter Tryz.func204, Tryz.ntmps204
    go_wp2_with (at_builtin; refine Heap.wpList_append_row _ rfl (.tmp 23) (.tmp 24) 218 rfl 276 i0 _ 1 8 Tryz.underlying218 hi hz0 hz1 hz2 rfl (by decide) _ n _ rfl HR.out ⟨vb, 0, none⟩ 1 1 N rfl HN1.out HNW.out HO.out (by unfold maxLen; omega) (by omega) ?_)
    all_goals
      intro v2 w3 r3 t3 o3
      have HF := Lib.hid (⟨r3, t3, o3⟩ : Row w3 276 1 v2 (n + 1) (xs ++ N) ∧ Heap.Touch (own (.slice (some ⟨g, off, none⟩) n cap)) w w3 ∧ ∀ k, own v2 k → own (.slice (some ⟨g, off, none⟩) n cap) k ∨ w.heap.size ≤ k)
      clear r3 t3 o3
      go_wp2
      go_ret
      exact ⟨_, rfl, HF.out⟩

set_option maxHeartbeats 4000000 in
set_option maxRecDepth 100000 in
theorem insert_room (g off cap : Nat) (hn : n ≤ 200000) (hi : i < n) (hroom : n + 1 ≤ cap) (hrow : Row w 276 1 (.slice (some ⟨g, off, none⟩) n cap) n xs) (hones : ∀ u ∈ xs, u.oneCell' = true) (hN : N.length = 1) (hone : ∀ u ∈ N, u.oneCell' = true) (hvb : w.heap[vb]? = some (.cells N.toArray 276 (0, 0))) (hne : vb ≠ g) :
    Calls Tryz.prog 204 #[.slice (some ⟨g, off, none⟩) n cap, .int .i64 i, .slice (some ⟨vb, 0, none⟩) 1 1] w (InsPost w (.slice (some ⟨g, off, none⟩) n cap) n i xs N) := by
  have hrow2 := hrow.2
  have hxl := hrow.1
  rcases hrow2 with ⟨h2, _⟩ | ⟨g', off', cap', cur, hv, hg, h1, h2, h3, h4⟩
  · cases h2
  simp only [Value.slice.injEq, Option.some.injEq, Addr.mk.injEq] at hv
  obtain ⟨⟨rfl, rfl, _⟩, _, rfl⟩ := hv
  have hX : xs = xs.take (i * 1) ++ xs.drop (i * 1) := (List.take_append_drop _ _).symm
  have hX1 : (xs.take (i * 1)).length = i * 1 := by rw [List.length_take, hxl]; omega
  have hX2 : (xs.drop (i * 1)).length = (n - i) * 1 := by rw [List.length_drop, hxl, Nat.sub_mul]
  have hlist := room_list (N := N) hi hroom hN (by rw [Array.length_toList]; exact h3) (h4.trans hX) hX1 hX2
  obtain ⟨C1, hC1⟩ : ∃ C1 : Array Value, C1 = (cur.toList.take (off + (i + 1) * 1) ++ xs.drop (i * 1) ++ cur.toList.drop (off + (i + 1) * 1 + (n - i) * 1)).toArray := ⟨_, rfl⟩
  obtain ⟨C2, hC2⟩ : ∃ C2 : Array Value, C2 = (C1.toList.take (off + i * 1) ++ N ++ C1.toList.drop (off + i * 1 + 1)).toArray := ⟨_, rfl⟩
  have hc1s : C1.size = cur.size := by rw [hC1, List.size_toArray, hlist.2.2, Array.length_toList]
  have hc2 : (C2.toList.drop off).take ((n + 1) * 1) = xs.take (i * 1) ++ N ++ xs.drop (i * 1) ∧ C2.size = cur.size := by
    rw [hC2, hC1]
    exact ⟨hlist.1, by rw [List.size_toArray, hlist.2.1, Array.length_toList]⟩
  have hcn : ∀ j u, N[j]? = some u → w.cell? ((⟨vb, 0, none⟩ : Addr).add j) = some u := fun j u hj => by
    rw [Addr.add_lit, cell_of_row w vb (0 + j) _ _ _ hvb, Nat.zero_add, List.getElem?_toArray]; exact hj
  have hov : ∀ lb cb, (callFunc 228 #[.slice (some ⟨vb, 0, none⟩) 1 1, .slice (some ⟨g, off + (i + 1) * 1, none⟩) lb cb]).run Tryz.prog w = .ok (.value (.bool false)) w := fun lb cb => by
    have hsz : cur.size ≠ 0 := by omega
    rw [run_callFunc_extern Tryz.func228 (by kernel_rfl) (by kernel_rfl) (by kernel_rfl) (e := Extern.SlicesOverlaps.overlaps #[218, 218] #[4]) (by kernel_rfl),
      Lib.run_overlaps_apart w 218 4 276 Tryz.underlying218 1 Tryz.sizeOf276 ⟨vb, 0, none⟩ ⟨g, off + (i + 1) * 1, none⟩ 1 1 lb cb hne 276 276 1 cur.size (by simp [World.shape?, hvb, hN]) (by simp [World.shape?, hg]) hsz (frozen_of_row w vb 0 _ _ hvb) (frozen_of_row w vb 1 _ _ hvb)]
    rfl
  have hcp1 : ∀ ty dc sc, (Builtin.copy_ #[218, 218] ty #[.slice (some ⟨g, off + (i + 1) * 1, none⟩) (n - i) dc, .slice (some ⟨g, off + i * 1, none⟩) (n + 1 - i) sc]).run Tryz.prog w.drew = .ok (goInt ((n - i : Nat) : Int)) (w.drew.setRow g C1) := fun ty dc sc => by
    have h := run_copyN w.drew 218 218 ty 276 1 g (off + (i + 1) * 1) (n - i) dc ⟨g, off + i * 1, none⟩ (n + 1 - i) sc cur 276 (xs.drop (i * 1)) (n - i) Tryz.underlying218 (by kernel_rfl) hg (by simp only [Nat.min_def]; split <;> omega) hX2
      (fun j v hj => by
        rw [List.getElem?_drop] at hj
        rw [Addr.add_lit]
        have hjl := (List.getElem?_eq_some_iff.1 hj).1
        rw [hxl] at hjl
        have := (hrow.cell (i * 1 + j) (by omega)).1
        rw [← Nat.add_assoc] at this
        exact this.trans hj) (by rw [hX2]; omega) (fun v hv => hones v (List.mem_of_mem_drop hv))
    rw [hX2] at h
    rw [hC1]
    exact h
  have hg1 : (w.drew.setRow g C1).heap[g]? = some (.cells C1 276 (0, 0)) := setRow_heap w.drew g cur C1 _ (0, 0) hg
  have hcp2 : ∀ ty dc, (Builtin.copy_ #[218, 218] ty #[.slice (some ⟨g, off + i * 1, none⟩) (n + 1 - i) dc, .slice (some ⟨vb, 0, none⟩) 1 1]).run Tryz.prog (w.drew.setRow g C1) = .ok (goInt 1) ((w.drew.setRow g C1).setRow g C2) := fun ty dc => by
    have h := run_copyN (w.drew.setRow g C1) 218 218 ty 276 1 g (off + i * 1) (n + 1 - i) dc ⟨vb, 0, none⟩ 1 1 C1 276 N 1 Tryz.underlying218 (by kernel_rfl) hg1 (by simp only [Nat.min_def]; split <;> omega) hN
      (fun j v hj => by
        have hvb1 : (w.drew.setRow g C1).heap[vb]? = some (.cells N.toArray 276 (0, 0)) := (setRow_other _ _ _ _ hne).trans hvb
        rw [Addr.add_lit, cell_of_row _ vb (0 + j) _ _ _ hvb1, Nat.zero_add, List.getElem?_toArray]; exact hj) (by rw [hc1s, hN]; omega) hone
    rw [hN] at h
    rw [hC2]
    exact h
  have hend : Row ((w.drew.setRow g C1).setRow g C2) 276 1 (.slice (some ⟨g, off, none⟩) (n + 1) cap) (n + 1) (xs.take (i * 1) ++ N ++ xs.drop (i * 1)) ∧ Heap.Touch (own (.slice (some ⟨g, off, none⟩) n cap)) w ((w.drew.setRow g C1).setRow g C2) := by
    refine ⟨⟨by simp only [List.length_append, hX1, hX2, hN]; omega, .inr ⟨g, off, cap, C2, rfl, setRow_heap _ g C1 C2 _ (0, 0) hg1, hroom, h2, by rw [hc2.2]; exact h3, hc2.1⟩⟩, touch_setRow (touch_setRow (Heap.Touch.refl _ w).drew (by simp [own, Value.ownBlock]) _) (by simp [own, Value.ownBlock]) _⟩
  have HEND := Lib.hid hend
  have hz2 : ¬ ((i : Int) = (n : Int)) := by omega
  have hw1 : IntKind.i64.wrap ((i : Int) + 1) = (i : Int) + 1 := IntWalk.i64_in _ (by omega)
  have hw2 : IntKind.i64.wrap ((n : Int) + 1) = (n : Int) + 1 := IntWalk.i64_in _ (by omega)
  have hb1 : (0 : Int) ≤ (i : Int) + 1 := by omega
  have hin : i ≤ n := by omega
  have htn : ((i : Int) + 1).toNat = i + 1 := by omega
  have htn2 : ((n : Int) + 1).toNat = n + 1 := by omega
  have hb2 : ¬ (cap = i + 1) := by omega
  have hb3 : (i : Int) ≤ (n : Int) + 1 := by omega
  have hb3' : (i : Int) + 1 ≤ (n : Int) + 1 := by omega
  have hb4 : ¬ (cap = i) := by omega
  have hb5 : (n : Int) + 1 ≤ cap := by omega
  clear hX hX1 hX2 hones hone hlist hC1 hC2 hc1s hc2 hg1 hend h1 h3 h4 hg hrow hvb hxl hcn hN
  simp only [Nat.mul_one] at hov hcp1 hcp2
  go_enter Tryz.func204, Tryz.ntmps204
  go_wp2_with (simp only [hov])
  go_region_law ((refine step_copy_runI rfl _ _ 218 218 rfl _ _ (by simp [Act.eval, Act.put]) (by simp [Act.eval, Act.put]) (hcp1 _ _ _) ?_))
  go_wp2_with (at_builtin; refine wpList_copy_runI _ rfl _ _ 218 218 rfl _ _ rfl rfl (hcp2 _ _) ?_)
  go_ret
  exact ⟨_, rfl, HEND.out.1, HEND.out.2, fun k hk => .inl hk⟩

set_option maxHeartbeats 4000000 in
set_option maxRecDepth 100000 in
theorem insert_grow (g off cap : Nat) (hn : n ≤ 200000) (hi : i < n) (hroom : cap < n + 1) (hrow : Row w 276 1 (.slice (some ⟨g, off, none⟩) n cap) n xs) (hones : ∀ u ∈ xs, u.oneCell' = true) (hN : N.length = 1) (hone : ∀ u ∈ N, u.oneCell' = true) (hvb : w.heap[vb]? = some (.cells N.toArray 276 (0, 0))) :
    Calls Tryz.prog 204 #[.slice (some ⟨g, off, none⟩) n cap, .int .i64 i, .slice (some ⟨vb, 0, none⟩) 1 1] w (InsPost w (.slice (some ⟨g, off, none⟩) n cap) n i xs N) := by
  obtain ⟨hncap, hcapm⟩ := hrow.cap_le
  have hxl := hrow.1
  have hX1 : (xs.take (i * 1)).length = i * 1 := by rw [List.length_take, hxl]; omega
  have hX2 : (xs.drop (i * 1)).length = (n - i) * 1 := by rw [List.length_drop, hxl, Nat.sub_mul]
  have hcellR : ∀ j v, xs[j]? = some v → w.cell? ⟨g, off + j, none⟩ = some v := fun j v hj => by
    have hjl := (List.getElem?_eq_some_iff.1 hj).1
    rw [hxl] at hjl
    exact (hrow.cell j (by omega)).1.trans hj
  obtain ⟨i0, hi0, hz0, hzs, hzb⟩ := info_parts info_el
  have hglt : g < w.heap.size := by
    have := hrow.lt g (by simp [own, Value.ownBlock]); exact this
  have hvlt : vb < w.heap.size := heap_lt hvb
  have hkk : (n : Int) + 1 - (i : Int) = ((n + 1 - i : Nat) : Int) := by omega
  have hik : i + (n + 1 - i) = n + 1 := by omega
  have hold : (Builtin.firstCells i0.size i (.slice (some ⟨g, off, none⟩) i cap)).run Tryz.prog w.drew = .ok (xs.take (i * 1)).toArray w.drew := by
    rw [hzs]
    exact run_firstCells_some w.drew 1 i ⟨g, off, none⟩ i cap _ hX1 (fun j v hj => by
      rw [Addr.add_lit]
      rw [List.getElem?_take] at hj
      split at hj
      · exact hcellR j v hj
      · cases hj)
  obtain ⟨G, hG⟩ : ∃ G, G = grownCap w (n + 1) cap 276 := ⟨_, rfl⟩
  obtain ⟨ROW, hROW⟩ : ∃ ROW : Array Value, ROW = (xs.take (i * 1)).toArray ++ Builtin.zeroCells (Value.pointer none).cells (n + 1 - i) ++ Builtin.zeroCells (Value.pointer none).cells (G - (n + 1)) := ⟨_, rfl⟩
  obtain ⟨W1, hW1⟩ : ∃ W1, W1 = w.drew.alloc (.cells ROW 276) := ⟨_, rfl⟩
  have hrz : ∀ ty, (Builtin.append_ #[218, 3] ty #[.slice (some ⟨g, off, none⟩) i cap, .int .i64 ((n : Int) + 1 - (i : Int))]).run Tryz.prog w = .ok (.slice (some ⟨w.heap.size, 0, none⟩) (n + 1) G) W1 := fun ty => by
    have h := Lib.run_append_grow_zeros w 218 3 ty 276 i0 _ .i64 .i64 Tryz.underlying218 Tryz.underlying3 hi0 hz0 (some ⟨g, off, none⟩) i cap _ hold (n + 1 - i) (by omega) (by omega) (by omega) (by omega) (by rw [hzb]; omega) (by rw [hzb, hik]; exact growslice_fits hroom (by omega))
    rw [hik] at h
    rw [hkk, hW1, hROW, hG]
    exact h
  have hGn : n + 1 ≤ G := by rw [hG]; exact grownCap_ge w _ _ _
  have hGm : G ≤ maxLen := by rw [hG]; exact grownCap_le_maxLen w (n + 1) cap 276 (by unfold maxLen; omega)
  have hRl : ROW.toList.length = G * 1 := by
    rw [hROW]
    simp [Builtin.zeroCells, Value.cells, hxl]
    omega
  have hRt : ROW.toList.take (i * 1) = xs.take (i * 1) := by
    rw [hROW]
    simp only [Array.toList_append]
    rw [List.append_assoc, List.take_append, hX1, Nat.sub_self, List.take_zero, List.append_nil, List.take_of_length_le (by rw [hX1]; omega)]
  have hheap : W1.heap = w.heap.push (.cells ROW 276) := by rw [hW1]; rfl
  have hN1 : W1.heap[w.heap.size]? = some (.cells ROW 276 (0, 0)) := by rw [hheap, Array.getElem?_push_size]
  have hold1 : ∀ k, k < w.heap.size → W1.heap[k]? = w.heap[k]? := fun k hk => by rw [hheap, Array.getElem?_push_lt hk, Array.getElem?_eq_getElem hk]
  have ht1 : Heap.Touch (fun _ => False) w W1 := by rw [hW1]; exact ((Heap.Touch.refl _ w).drew).alloc _
  have hlist := grow_list (N := N) hi hGn hN hRl hRt hX1 hX2
  obtain ⟨C1, hC1⟩ : ∃ C1 : Array Value, C1 = (ROW.toList.take (i * 1) ++ N ++ ROW.toList.drop (i * 1 + 1)).toArray := ⟨_, rfl⟩
  obtain ⟨C2, hC2⟩ : ∃ C2 : Array Value, C2 = (C1.toList.take ((i + 1) * 1) ++ xs.drop (i * 1) ++ C1.toList.drop ((i + 1) * 1 + (n - i) * 1)).toArray := ⟨_, rfl⟩
  have hc1s : C1.size = G * 1 := by rw [hC1, List.size_toArray]; exact hlist.2.2
  have hc2 : C2.toList.take ((n + 1) * 1) = xs.take (i * 1) ++ N ++ xs.drop (i * 1) ∧ C2.size = G * 1 := by
    rw [hC2, hC1]
    exact ⟨hlist.1, by rw [List.size_toArray]; exact hlist.2.1⟩
  have hcpA : ∀ ty dc, (Builtin.copy_ #[218, 218] ty #[.slice (some ⟨w.heap.size, i * 1, none⟩) (n + 1 - i) dc, .slice (some ⟨vb, 0, none⟩) 1 1]).run Tryz.prog W1 = .ok (goInt 1) (W1.setRow w.heap.size C1) := fun ty dc => by
    have h := run_copyN W1 218 218 ty 276 1 w.heap.size (i * 1) (n + 1 - i) dc ⟨vb, 0, none⟩ 1 1 ROW 276 N 1 Tryz.underlying218 (by kernel_rfl) hN1 (by simp only [Nat.min_def]; split <;> omega) hN
      (fun j v hj => by
        rw [Addr.add_lit, cell_of_row _ vb (0 + j) _ _ _ ((hold1 vb hvlt).trans hvb), Nat.zero_add, List.getElem?_toArray]; exact hj) (by rw [← Array.length_toList, hRl, hN]; omega) hone
    rw [hN] at h
    rw [hC1]
    exact h
  have hg1 : (W1.setRow w.heap.size C1).heap[w.heap.size]? = some (.cells C1 276 (0, 0)) := setRow_heap W1 _ ROW C1 _ (0, 0) hN1
  have hcpB : ∀ ty dc sc, (Builtin.copy_ #[218, 218] ty #[.slice (some ⟨w.heap.size, (i + 1) * 1, none⟩) (n - i) dc, .slice (some ⟨g, off + i * 1, none⟩) (n - i) sc]).run Tryz.prog (W1.setRow w.heap.size C1).drew = .ok (goInt ((n - i : Nat) : Int)) ((W1.setRow w.heap.size C1).drew.setRow w.heap.size C2) := fun ty dc sc => by
    have h := run_copyN (W1.setRow w.heap.size C1).drew 218 218 ty 276 1 w.heap.size ((i + 1) * 1) (n - i) dc ⟨g, off + i * 1, none⟩ (n - i) sc C1 276 (xs.drop (i * 1)) (n - i) Tryz.underlying218 (by kernel_rfl) hg1 (by simp) hX2
      (fun j v hj => by
        rw [List.getElem?_drop] at hj
        rw [Addr.add_lit]
        have h9 := hcellR (i * 1 + j) v hj
        rw [← Nat.add_assoc] at h9
        show (W1.setRow w.heap.size C1).cell? _ = _
        rw [World.cell?_of_block (a := ⟨g, off + i * 1 + j, none⟩) ((setRow_other W1 w.heap.size g C1 (by omega)).trans (hold1 g hglt))]
        exact h9) (by rw [hX2, hc1s]; omega) (fun v hv => hones v (List.mem_of_mem_drop hv))
    rw [hX2] at h
    rw [hC2]
    exact h
  have hend : Row ((W1.setRow w.heap.size C1).drew.setRow w.heap.size C2) 276 1 (.slice (some ⟨w.heap.size, 0, none⟩) (n + 1) G) (n + 1) (xs.take (i * 1) ++ N ++ xs.drop (i * 1)) ∧ Heap.Touch (own (.slice (some ⟨g, off, none⟩) n cap)) w ((W1.setRow w.heap.size C1).drew.setRow w.heap.size C2) := by
    refine ⟨⟨by simp only [List.length_append, hX1, hX2, hN]; omega, .inr ⟨w.heap.size, 0, G, C2, rfl, setRow_heap _ _ C1 C2 _ (0, 0) hg1, hGn, hGm, by rw [hc2.2]; omega, by rw [List.drop_zero]; exact hc2.1⟩⟩, ?_⟩
    have h5 : Heap.Touch (fun k => k = w.heap.size) w ((W1.setRow w.heap.size C1).drew.setRow w.heap.size C2) := touch_setRow (F := fun k => k = w.heap.size) (touch_setRow (F := fun k => k = w.heap.size) (ht1.mono fun _ _ h => h.elim) rfl C1).drew rfl C2
    exact h5.mono fun k hk e => by omega
  have HEND := Lib.hid hend
  have hz2 : ¬ ((i : Int) = (n : Int)) := by omega
  have hw1 : IntKind.i64.wrap ((i : Int) + 1) = (i : Int) + 1 := IntWalk.i64_in _ (by omega)
  have hw2 : IntKind.i64.wrap ((n : Int) + 1) = (n : Int) + 1 := IntWalk.i64_in _ (by omega)
  have hw3 : IntKind.i64.wrap ((n : Int) + 1 - (i : Int)) = (n : Int) + 1 - (i : Int) := IntWalk.i64_in _ (by omega)
  have hb1 : (0 : Int) ≤ (i : Int) + 1 := by omega
  have hin : i ≤ n := by omega
  have htn : ((i : Int) + 1).toNat = i + 1 := by omega
  have hb3 : (i : Int) ≤ (n : Int) + 1 := by omega
  have hb3' : (i : Int) + 1 ≤ (n : Int) + 1 := by omega
  have hb4 : ¬ (cap = i) := by omega
  have hb5 : (cap : Int) < (n : Int) + 1 := by omega
  have hb6 : ¬ (G = i) := by omega
  have hb7 : ¬ (G = i + 1) := by omega
  clear hX1 hX2 hones hone hlist hC1 hC2 hc1s hc2 hg1 hend hrow hvb hold hROW hW1 hG hRl hRt hheap hN1 hold1 ht1 hkk hik hcellR hxl hN
  simp only [Nat.mul_one] at hcpA hcpB
  go_enter Tryz.func204, Tryz.ntmps204
  go_wp2_with (first
    | (at_builtin; refine Lib.wpList_append_run _ rfl _ _ _ _ rfl _ _ rfl rfl _ _ (hrz _) ?_)
    | (at_builtin; refine wpList_copy_runI _ rfl _ _ 218 218 rfl _ _ rfl rfl (hcpA _ _) ?_))
  go_region_law ((refine step_copy_runI rfl _ _ 218 218 rfl _ _ (by simp [Act.eval, Act.put]) (by simp [Act.eval, Act.put]) (hcpB _ _ _) ?_))
  go_wp2
  go_ret
  exact ⟨_, rfl, HEND.out.1, HEND.out.2, fun k hk => .inr (by simp [own, Value.ownBlock] at hk; omega)⟩

/-- In whatever place. -/
theorem insert_any (v : Value) (hn : n ≤ 200000) (hi : i ≤ n) (hrow : Row w 276 1 v n xs) (hones : ∀ u ∈ xs, u.oneCell' = true) (hN : N.length = 1) (hone : ∀ u ∈ N, u.oneCell' = true) (hvb : w.heap[vb]? = some (.cells N.toArray 276 (0, 0))) (hne : ¬ own v vb) :
    Calls Tryz.prog 204 #[v, .int .i64 i, .slice (some ⟨vb, 0, none⟩) 1 1] w (InsPost w v n i xs N) := by
  by_cases he : i = n
  · subst he
    exact insert_end v hn hrow hN hone hvb
  · rcases hrow.2 with ⟨rfl, h0⟩ | ⟨g, off, cap, cur, rfl, _⟩
    · omega
    · by_cases hr : n + 1 ≤ cap
      · exact insert_room g off cap hn (by omega) hr hrow hones hN hone hvb (fun e => hne (by rw [e]; simp [own, Value.ownBlock]))
      · exact insert_grow g off cap hn (by omega) (by omega) hrow hones hN hone hvb
end
end Go.Proofs.YtbgchhgdlceceaaGreatDoor.Idx.Ins

namespace Go.Proofs.YtbgchhgdlceceaaGreatDoor.Idx
open Go.RowKit Heap
open Subj (Tok ML pieces StrsAt strAt)

/-- The tokens of a right subject. -/
theorem err_toks {l : List UInt8} (h : Subj.err false l = 0) : (pieces l).length ≤ 8 ∧ ∀ t ∈ pieces l, t ≠ [] ∧ t.length ≤ 16 := by
  unfold Subj.err at h
  split at h
  · cases h
  · rename_i h8
    split at h
    · rename_i hok
      refine ⟨by omega, ?_⟩
      clear h h8
      revert hok
      generalize pieces l = ts
      intro hok
      induction ts with
      | nil => intro t ht; cases ht
      | cons a ts ih =>
        simp only [Subj.okPieces, Bool.false_and, Bool.false_or, Bool.and_eq_true] at hok
        intro t ht
        rcases List.mem_cons.1 ht with rfl | ht
        · have h1 := hok.1
          unfold Subj.tokenOk at h1
          simp only [Bool.and_eq_true, decide_eq_true_eq] at h1
          exact ⟨fun e => by subst e; simp at h1, h1.2⟩
        · exact ih hok.2 t ht
    · cases h

/-- The same is told. -/
def SameDen (H H' : Hp) (x : Nat) : Prop := ∀ ts m, Den H' x ts m ↔ Den H x ts m

/-- An index that has come of another one. -/
structure Next (W : World) (M : Nat → Prop) (x N : Nat) (cnt : Nat) (w : World) (H' : Hp) (w' : World) : Prop where
  good : Good N H' x
  mem : ∃ M' vf', IdxAt W M' x H' vf' cnt w' ∧ ∀ k, M' k → M k ∨ w.heap.size ≤ k
  touch : Heap.Touch M w w'

section
variable {W w : World} {M : Nat → Prop} {x : Nat} {H : Hp} {vf : Nat → Value} {cnt N : Nat}

theorem Next.refl (hG : Good N H x) (hM : IdxAt W M x H vf cnt w) : Next W M x N cnt w H w := ⟨hG, ⟨M, vf, hM, fun _ h => .inl h⟩, Heap.Touch.refl _ _⟩

theorem Next.below' {H' : Hp} {w' w2 : World} (h : Next W M x N cnt w H' w') (hb : Below w'.heap.size w' w2) : Next W M x N cnt w H' w2 := by
  obtain ⟨hG, ⟨M', vf', h1, h2⟩, h3⟩ := h
  exact ⟨hG, ⟨M', vf', h1.next hb, h2⟩, h3.after (Heap.Touch.ofBelow (hb.mono (Nat.le_refl _)))⟩

theorem Next.from {H' : Hp} {w0 w' : World} (h : Next W M x N cnt w H' w') (hb : Below w0.heap.size w0 w) : Next W M x N cnt w0 H' w' := by
  obtain ⟨hG, ⟨M', vf', h1, h2⟩, h3⟩ := h
  refine ⟨hG, ⟨M', vf', h1, fun k hk => ?_⟩, (Heap.Touch.ofBelow hb).trans h3 fun _ _ h => h⟩
  rcases h2 k hk with e | e
  · exact .inl e
  · exact .inr (Nat.le_trans hb.size e)

/-- One index comes of one that has come. -/
theorem Next.trans {H1 H2 : Hp} {M1 : Nat → Prop} {w1 w2 : World} {N2 cnt2 : Nat} (h1 : Next W M x N cnt w H1 w1) (hm : ∀ k, M1 k → M k ∨ w.heap.size ≤ k) (h2 : Next W M1 x N2 cnt2 w1 H2 w2) : Next W M x N2 cnt2 w H2 w2 := by
  obtain ⟨hG, ⟨M', vf', h3, h4⟩, h5⟩ := h2
  refine ⟨hG, ⟨M', vf', h3, fun k hk => ?_⟩, h1.touch.trans h5 fun k hk hf => ?_⟩
  · rcases h4 k hk with e | e
    · exact hm k e
    · exact .inr (Nat.le_trans h1.touch.size e)
  · rcases hm k hf with e | e
    · exact e
    · omega

/-- What a node has is set: in memory. -/
theorem next_set (hG : Good N H x) (hM : IdxAt W M x H vf cnt w) {c : Nat} {nd : NodeP} (hc : H c = some nd) (y : Bool) (n : Int) :
    Next W M x N cnt w (upd H c { nd with has := y, n := n }) ((w.setCell ⟨c, 2, none⟩ (.bool y)).setCell ⟨c, 3, none⟩ (.int .i64 n)) := by
  have hn := hM.node c nd hc
  have ht : Heap.Touch (fun k => k = c ∨ own (vf c) k) w ((w.setCell ⟨c, 2, none⟩ (.bool y)).setCell ⟨c, 3, none⟩ (.int .i64 n)) :=
    Heap.Touch.setCell (p := ⟨c, 3, none⟩) (Heap.Touch.setCell (F := fun k => k = c ∨ own (vf c) k) (p := ⟨c, 2, none⟩) (Heap.Touch.refl _ w) (.inl (.inl rfl)) _) (.inl (.inl rfl)) _
  have hr := (hM.row c nd hc).kept (w' := ((w.setCell ⟨c, 2, none⟩ (.bool y)).setCell ⟨c, 3, none⟩ (.int .i64 n))) (fun k hk hlt => by
    have e : k ≠ c := fun e => own_ne hn (hM.row c nd hc) (e ▸ hk)
    rw [Below.heap_setCell _ _ _ _ e, Below.heap_setCell _ _ _ _ e])
  obtain ⟨h1, h2⟩ := hM.set (nd' := { nd with has := y, n := n }) (v' := vf c) hc ht (node_has hn y n) hr (fun k hk => .inl hk)
  exact ⟨good_set hG hc y n, ⟨_, _, h1, fun k hk => hk.1⟩, h2⟩

/-- A kid more: in memory. -/
theorem next_ins (hG : Good N H x) (hM : IdxAt W M x H vf cnt w) {c i k : Nat} {nd : NodeP} {t : Tok} {wa w5 : World} {v' : Value} (hc : H c = some nd) (hp : Placed H nd.kids t i false) (hlen : nd.path.length < 8) (ht : t ≠ [] ∧ t.length ≤ 16)
    (hba : Below w.heap.size w wa) (hk : w.heap.size = k) (hka : wa.heap[k]? = some (.cells #[.string ⟨t.toArray⟩, .slice none 0 0, .bool false, .int .i64 0] 220 (0, 0))) (hsz : k < wa.heap.size)
    (hr : Row w5 276 1 v' (nd.kids.length + 1) ((kidsV nd.kids).take (i * 1) ++ [ptrV k] ++ (kidsV nd.kids).drop (i * 1))) (ht5 : Heap.Touch (own (vf c)) wa w5) (ho : ∀ j, own v' j → own (vf c) j ∨ wa.heap.size ≤ j) :
    Next W M x (N + 1) cnt w (insH H c nd i k t) (w5.setCell ⟨c, 1, none⟩ v') := by
  have hMa := hM.next hba
  have hn := hMa.node c nd hc
  have hn5 : w5.heap[c]? = some (nodeO x cnt c nd (vf c)) := (ht5.block c (hMa.lt hc) (own_ne hn (hMa.row c nd hc))).trans hn
  have htc : Heap.Touch (fun j => j = c ∨ own (vf c) j) wa (w5.setCell ⟨c, 1, none⟩ v') :=
    Heap.Touch.setCell (F := fun j => j = c ∨ own (vf c) j) (p := ⟨c, 1, none⟩) (ht5.mono fun j _ h => .inr h) (.inl (.inl rfl)) _
  have hHk : H k = none := hM.fresh (by omega)
  have hck : k ≠ c := fun e => by subst e; rw [hHk] at hc; cases hc
  have hrow : Row (w5.setCell ⟨c, 1, none⟩ v') 276 1 v' ({ nd with kids := nd.kids.take i ++ k :: nd.kids.drop i } : NodeP).kids.length (kidsV ({ nd with kids := nd.kids.take i ++ k :: nd.kids.drop i } : NodeP).kids) := by
    have e1 : (nd.kids.take i ++ k :: nd.kids.drop i).length = nd.kids.length + 1 := by
      have := hp.le
      simp only [List.length_append, List.length_cons, List.length_take, List.length_drop]; omega
    have e2 : kidsV (nd.kids.take i ++ k :: nd.kids.drop i) = (kidsV nd.kids).take (i * 1) ++ [ptrV k] ++ (kidsV nd.kids).drop (i * 1) := by
      simp [kidsV, List.map_take, List.map_drop]
    show Row _ _ 1 v' (nd.kids.take i ++ k :: nd.kids.drop i).length (kidsV (nd.kids.take i ++ k :: nd.kids.drop i))
    rw [e1, e2]
    refine hr.kept fun j hj _ => ?_
    rw [Below.heap_setCell _ _ _ _ (fun e => ?_)]
    exact own_ne hn5 hr (by rw [← show j = c from e]; exact hj)
  obtain ⟨h1, h2⟩ := hMa.set (nd' := { nd with kids := nd.kids.take i ++ k :: nd.kids.drop i }) (v' := v') hc htc (node_kids hn5 v' _) hrow ho
  have hxk : k ≠ x := fun e => by
    obtain ⟨rd, hr, _⟩ := hG.root
    rw [← e, hHk] at hr; cases hr
  have hMk : ¬ M k := fun h => by have := hM.bM k h; omega
  have hkb : (w5.setCell ⟨c, 1, none⟩ v').heap[k]? = some (nodeO x cnt k ⟨t, [], false, 0, nd.path ++ [t]⟩ (.slice none 0 0)) := by
    rw [h2.block k hsz hMk, hka]
    unfold nodeO
    rw [if_neg hxk]
  have h3 := h1.add hkb rfl (fun h => by
    rcases h.1 with h | h
    · exact hMk h
    · omega) (by have := hM.below.size; omega)
  have hG' := good_ins (i := i) (t := t) hG hc hHk (fun b y hb hky => by
    obtain ⟨kd, hkd, _⟩ := hG.kid b y k hb hky
    rw [hHk] at hkd; cases hkd) hlen ht hp.lo hp.hi'
  refine ⟨hG', ⟨_, _, h3, fun j hj => ?_⟩, (Heap.Touch.ofBelow hba).trans h2 fun _ _ h => h⟩
  rcases hj with hj | rfl
  · rcases hj.1 with hj | hj
    · exact .inl hj
    · exact .inr (Nat.le_trans hba.size hj)
  · exact .inr (by omega)
end
end Go.Proofs.YtbgchhgdlceceaaGreatDoor.Idx
