/- slices.Insert of one paper where there is room. -/
import Derived.Test.YtglgbidcmkncgaaDrawIns
import Derived.Deep.RegionLaw
namespace Go.Proofs.Ytglgbidcmkncgaa.Drw
open Go.RowKit Heap Dsk

theorem setRow_other (w : World) (g k : Nat) (cs : Array Value) (h : k ≠ g) : (w.setRow g cs).heap[k]? = w.heap[k]? := by
  simp only [World.setRow, Array.getElem?_modify]
  rw [if_neg (fun e => h e.symm)]

theorem touch_setRow {F : Nat → Prop} {a w : World} (h : Heap.Touch F a w) {g : Nat} (hg : F g) (cs : Array Value) : Heap.Touch F a (w.setRow g cs) :=
  ⟨h.os, h.tape, h.output, by simp [World.setRow]; exact h.size, fun k hk hn => by rw [setRow_other _ _ _ _ (fun e => hn (by rw [e]; exact hg))]; exact h.block k hk hn⟩

/-- The array behind an insertion in place. -/
theorem room_list {cur N X1 X2 : List Value} {off i n cap : Nat} (hi : i < n) (hroom : n + 1 ≤ cap) (hN : N.length = 3) (h3 : off + cap * 3 ≤ cur.length) (hx : (cur.drop off).take (n * 3) = X1 ++ X2) (h1 : X1.length = i * 3) (h2 : X2.length = (n - i) * 3) :
    let c1 := cur.take (off + (i + 1) * 3) ++ X2 ++ cur.drop (off + (i + 1) * 3 + (n - i) * 3)
    let c2 := c1.take (off + i * 3) ++ N ++ c1.drop (off + i * 3 + 3)
    (c2.drop off).take ((n + 1) * 3) = X1 ++ N ++ X2 ∧ c2.length = cur.length ∧ c1.length = cur.length := by
  have hP : (cur.take off).length = off := by rw [List.length_take]; omega
  have hX1 : (cur.take (off + (i + 1) * 3)).take (off + i * 3) = cur.take off ++ X1 := by
    rw [List.take_take, show min (off + i * 3) (off + (i + 1) * 3) = off + i * 3 by omega]
    have e1 : X1 = (X1 ++ X2).take (i * 3) := by rw [← h1]; simp
    have this : X1 = (cur.drop off).take (i * 3) := by
      rw [e1, ← hx, List.take_take, show min (i * 3) (n * 3) = i * 3 by omega]
    rw [this, List.take_add]
  have hA : (cur.take (off + (i + 1) * 3)).length = (cur.take off).length + X1.length + N.length := by rw [hP, h1, hN, List.length_take]; omega
  have hs := shift_list (X2 := X2) (R := cur.drop (off + (i + 1) * 3 + (n - i) * 3)) (N := N) hA (by rw [hP, h1]; exact hX1)
  rw [hP, h1, hN] at hs
  intro c1 c2
  have e2 : c2 = cur.take off ++ (X1 ++ N ++ X2) ++ cur.drop (off + (i + 1) * 3 + (n - i) * 3) := hs
  have hl : (X1 ++ N ++ X2).length = (n + 1) * 3 := by simp only [List.length_append, h1, h2, hN]; omega
  refine ⟨?_, ?_, ?_⟩
  · rw [e2, List.append_assoc, List.drop_append, hP, Nat.sub_self, List.drop_zero, List.drop_of_length_le (by omega), List.nil_append, List.take_append, hl, Nat.sub_self, List.take_zero, List.append_nil, List.take_of_length_le (by omega)]
  · rw [e2]
    simp only [List.length_append, hP, List.length_drop] at hl ⊢
    omega
  · show (cur.take (off + (i + 1) * 3) ++ X2 ++ cur.drop (off + (i + 1) * 3 + (n - i) * 3)).length = _
    simp only [List.length_append, List.length_take, List.length_drop, h2]
    omega

section
variable {w : World} {n i vb : Nat} {l : List FileP} {q : FileP}

set_option maxHeartbeats 4000000 in
set_option maxRecDepth 100000 in
theorem insert_room (g off cap : Nat) (hl : l.length = n) (hn : n ≤ 20) (hi : i < n) (hroom : n + 1 ≤ cap) (hrow : Row w 81 3 (.slice (some ⟨g, off, none⟩) n cap) n (plsV l)) (hvb : w.heap[vb]? = some (.cells #[.int .i64 q.n, .int .i64 (q.sure : Nat), .string ⟨q.text.toArray⟩] 81 (0, 0))) (hne : vb ≠ g) :
    Calls Try.prog 44 #[.slice (some ⟨g, off, none⟩) n cap, .int .i64 i, .slice (some ⟨vb, 0, none⟩) 1 1] w fun e w' => ∃ v', e = .returned v' ∧ Row w' 81 3 v' (n + 1) (plsV (l.take i ++ q :: l.drop i)) ∧ Heap.Touch (own (.slice (some ⟨g, off, none⟩) n cap)) w w' ∧ ∀ k, own v' k → own (.slice (some ⟨g, off, none⟩) n cap) k ∨ w.heap.size ≤ k := by
  have hrow2 := hrow.2
  rcases hrow2 with ⟨h2, _⟩ | ⟨g', off', cap', cur, hv, hg, h1, h2, h3, h4⟩
  · cases h2
  simp only [Value.slice.injEq, Option.some.injEq, Addr.mk.injEq] at hv
  obtain ⟨⟨rfl, rfl, _⟩, _, rfl⟩ := hv
  have hX : plsV l = (plsV l).take (i * 3) ++ (plsV l).drop (i * 3) := (List.take_append_drop _ _).symm
  have hX1 : ((plsV l).take (i * 3)).length = i * 3 := by rw [List.length_take, plsV_len]; omega
  have hX2 : ((plsV l).drop (i * 3)).length = (n - i) * 3 := by rw [List.length_drop, plsV_len, Nat.sub_mul]; omega
  have hones := plsV_one l
  have hone : ∀ u ∈ cells q, u.oneCell' = true := fun u hu => by
    simp only [cells, List.mem_cons, List.not_mem_nil, or_false] at hu
    rcases hu with rfl | rfl | rfl <;> rfl
  have hlist := room_list (N := cells q) hi hroom rfl (by rw [Array.length_toList]; exact h3) (h4.trans hX) hX1 hX2
  obtain ⟨C1, hC1⟩ : ∃ C1 : Array Value, C1 = (cur.toList.take (off + (i + 1) * 3) ++ (plsV l).drop (i * 3) ++ cur.toList.drop (off + (i + 1) * 3 + (n - i) * 3)).toArray := ⟨_, rfl⟩
  obtain ⟨C2, hC2⟩ : ∃ C2 : Array Value, C2 = (C1.toList.take (off + i * 3) ++ cells q ++ C1.toList.drop (off + i * 3 + 3)).toArray := ⟨_, rfl⟩
  have hc1s : C1.size = cur.size := by rw [hC1, List.size_toArray, hlist.2.2, Array.length_toList]
  have hc2 : (C2.toList.drop off).take ((n + 1) * 3) = (plsV l).take (i * 3) ++ cells q ++ (plsV l).drop (i * 3) ∧ C2.size = cur.size := by
    rw [hC2, hC1]
    exact ⟨hlist.1, by rw [List.size_toArray, hlist.2.1, Array.length_toList]⟩
  have hov : ∀ lb cb, (callFunc 51 #[.slice (some ⟨vb, 0, none⟩) 1 1, .slice (some ⟨g, off + (i + 1) * 3, none⟩) lb cb]).run Try.prog w = .ok (.value (.bool false)) w := fun lb cb => by
    have hsz : cur.size ≠ 0 := by omega
    rw [run_callFunc_extern Try.func51 (by kernel_rfl) (by kernel_rfl) (by kernel_rfl) (e := Extern.SlicesOverlaps.overlaps #[57, 57] #[4]) (by kernel_rfl),
      Lib.run_overlaps_apart w 57 4 81 Try.underlying57 3 Try.sizeOf81 ⟨vb, 0, none⟩ ⟨g, off + (i + 1) * 3, none⟩ 1 1 lb cb hne 81 81 3 cur.size (by simp [World.shape?, hvb]) (by simp [World.shape?, hg]) hsz (frozen_of_row w vb 0 _ _ hvb) (frozen_of_row w vb 3 _ _ hvb)]
    rfl
  have hcp1 : ∀ ty dc sc, (Builtin.copy_ #[57, 57] ty #[.slice (some ⟨g, off + (i + 1) * 3, none⟩) (n - i) dc, .slice (some ⟨g, off + i * 3, none⟩) (n + 1 - i) sc]).run Try.prog w.drew = .ok (goInt ((n - i : Nat) : Int)) (w.drew.setRow g C1) := fun ty dc sc => by
    have h := run_copyN w.drew 57 57 ty 81 3 g (off + (i + 1) * 3) (n - i) dc ⟨g, off + i * 3, none⟩ (n + 1 - i) sc cur 81 ((plsV l).drop (i * 3)) (n - i) Try.underlying57 (by kernel_rfl) hg (by simp only [Nat.min_def]; split <;> omega) hX2
      (fun j v hj => by
        rw [List.getElem?_drop] at hj
        rw [Addr.add_lit]
        have hjl := (List.getElem?_eq_some_iff.1 hj).1
        rw [plsV_len] at hjl
        have := (hrow.cell (i * 3 + j) (by omega)).1
        rw [← Nat.add_assoc] at this
        exact this.trans hj) (by rw [hX2]; omega) (fun v hv => hones v (List.mem_of_mem_drop hv))
    rw [hX2] at h
    rw [hC1]
    exact h
  have hg1 : (w.drew.setRow g C1).heap[g]? = some (.cells C1 81 (0, 0)) := setRow_heap w.drew g cur C1 _ (0, 0) hg
  have hcp2 : ∀ ty dc, (Builtin.copy_ #[57, 57] ty #[.slice (some ⟨g, off + i * 3, none⟩) (n + 1 - i) dc, .slice (some ⟨vb, 0, none⟩) 1 1]).run Try.prog (w.drew.setRow g C1) = .ok (goInt 1) ((w.drew.setRow g C1).setRow g C2) := fun ty dc => by
    have h := run_copyN (w.drew.setRow g C1) 57 57 ty 81 3 g (off + i * 3) (n + 1 - i) dc ⟨vb, 0, none⟩ 1 1 C1 81 (cells q) 1 Try.underlying57 (by kernel_rfl) hg1 (by simp only [Nat.min_def]; split <;> omega) rfl
      (fun j v hj => by
        have hvb1 : (w.drew.setRow g C1).heap[vb]? = some (.cells #[.int .i64 q.n, .int .i64 (q.sure : Nat), .string ⟨q.text.toArray⟩] 81 (0, 0)) := (setRow_other _ _ _ _ hne).trans hvb
        rw [Addr.add_lit, cell_of_row _ vb (0 + j) _ _ _ hvb1, Nat.zero_add]
        rcases j with _ | _ | _ | j
        · simpa [cells] using hj
        · simpa [cells] using hj
        · simpa [cells] using hj
        · simp [cells] at hj) (by rw [hc1s]; simp [cells]; omega) hone
    rw [hC2]
    exact h
  have hend : Row ((w.drew.setRow g C1).setRow g C2) 81 3 (.slice (some ⟨g, off, none⟩) (n + 1) cap) (n + 1) (plsV (l.take i ++ q :: l.drop i)) ∧ Heap.Touch (own (.slice (some ⟨g, off, none⟩) n cap)) w ((w.drew.setRow g C1).setRow g C2) := by
    refine ⟨⟨by rw [insertV]; simp only [List.length_append, hX1, hX2]; simp [cells]; omega, .inr ⟨g, off, cap, C2, rfl, setRow_heap _ g C1 C2 _ (0, 0) hg1, hroom, h2, by rw [hc2.2]; exact h3, by rw [insertV]; exact hc2.1⟩⟩, touch_setRow (touch_setRow (Heap.Touch.refl _ w).drew (by simp [own, Value.ownBlock]) _) (by simp [own, Value.ownBlock]) _⟩
  have HEND := Lib.hid hend
  have hz2 : ¬ ((i : Int) = (n : Int)) := by omega
  have hw1 : IntKind.i64.wrap ((i : Int) + 1) = (i : Int) + 1 := IntWalk.i64_in _ (by omega)
  have hw2 : IntKind.i64.wrap ((n : Int) + 1) = (n : Int) + 1 := IntWalk.i64_in _ (by omega)
  have hb1 : (0 : Int) ≤ (i : Int) + 1 := by omega
  have hin : i ≤ n := by omega
  have htn : ((i : Int) + 1).toNat = i + 1 := by omega
  have htn2 : ((n : Int) + 1).toNat = n + 1 := by omega
  have hb2 : ¬ (cap = i + 1) := by omega
  have hb3 : (i : Int) ≤ (n : Int) + 1 := by omega
  have hb3' : (i : Int) + 1 ≤ (n : Int) + 1 := by omega
  have hb4 : ¬ (cap = i) := by omega
  have hb5 : (n : Int) + 1 ≤ cap := by omega
  clear hX hX1 hX2 hones hone hlist hC1 hC2 hc1s hc2 hg1 hend h1 h3 h4 hg hrow hvb hl
  go_enter Try.func44, Try.ntmps44
  go_wp2_with (simp only [hov])
  go_region_law ((refine step_copy_runI rfl _ _ 57 57 rfl _ _ (by simp [Act.eval, Act.put]) (by simp [Act.eval, Act.put]) (hcp1 _ _ _) ?_))
  go_wp2_with (at_builtin; refine wpList_copy_runI _ rfl _ _ 57 57 rfl _ _ rfl rfl (hcp2 _ _) ?_)
  go_ret
  exact ⟨_, rfl, HEND.out.1, HEND.out.2, fun k hk => .inl hk⟩
end
end Go.Proofs.Ytglgbidcmkncgaa.Drw
