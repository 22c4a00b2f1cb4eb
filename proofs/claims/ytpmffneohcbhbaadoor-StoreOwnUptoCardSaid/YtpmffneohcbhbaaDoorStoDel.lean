/- slices.Delete of one element of 6 cells, walked. -/
import Derived.Test.YtpmffneohcbhbaaDoorHeap
import Derived.Test.YtpmffneohcbhbaaDoorChecked
import Derived.Deep.RegionLaw
import Derived.Deep.QuietTactic
import Derived.BigQuiet
namespace Go.Proofs.YtpmffneohcbhbaaDoor.Sto.Del
open Go.RowKit Heap

theorem step_append_runI {P : Program} {ops : Array Oper} {o : Oper} {a : Act} {w : World} {K : Act → World → Prop} {Q : Exit → Act → World → Prop} {E : Prop}
    (hg : o.guard = none) (s x : Operand) (t : TypeId) (hop : o.op = Op.call { callee := Callee.builtin Builtin.append, args := #[s, x], argTypes := #[t, t] })
    (v u : Value) (hs : a.eval s = v) (hx : a.eval x = u) {v' : Value} {w' : World} (hr : (Builtin.append_ #[t, t] o.type #[v, u]).run P w = .ok v' w') (hK : K (a.put o.dst v') w') :
    if Region.wanted o (yielded ops a.tmps) = true then Oper.wp P o a w K Q else E := by
  have hw : Region.wanted o (yielded ops a.tmps) = true := by simp [Region.wanted, hg]
  rw [if_pos hw]
  unfold Oper.wp execOp
  simp only [hop, resolve, invoke, builtin, Sem.run_bind, Sem.run_pure, Result.andThen_ok, List.map_toArray, List.map_cons, List.map_nil, hs, hx, hr]
  exact hK

theorem info_el : (Tryd.prog.info? 56).map (fun i => (i.zero, i.size, i.bytes)) = some (some (Value.agg #[.int .i64 0, .int .i64 0, .int .i64 0, .string ⟨#[]⟩, .string ⟨#[]⟩, .string ⟨#[]⟩]), 6, 72) := by kernel_rfl

theorem setRow_other (w : World) (g k : Nat) (cs : Array Value) (h : k ≠ g) : (w.setRow g cs).heap[k]? = w.heap[k]? := by
  simp only [World.setRow, Array.getElem?_modify]
  rw [if_neg (fun e => h e.symm)]

theorem touch_setRow {F : Nat → Prop} {a w : World} (h : Heap.Touch F a w) {g : Nat} (hg : F g) (cs : Array Value) : Heap.Touch F a (w.setRow g cs) :=
  ⟨h.os, h.tape, h.output, by simp [World.setRow]; exact h.size, fun k hk hn => by rw [setRow_other _ _ _ _ (fun e => hn (by rw [e]; exact hg))]; exact h.block k hk hn⟩

theorem erase_list {cur xs : List Value} {off i m : Nat} (hi : i ≤ m) (h3 : off + (m + 1) * 6 ≤ cur.length) (hx : (cur.drop off).take ((m + 1) * 6) = xs) :
    let c1 := cur.take (off + i * 6) ++ xs.drop ((i + 1) * 6) ++ cur.drop (off + i * 6 + (m - i) * 6)
    c1.length = cur.length ∧ (c1.drop off).take (m * 6) = xs.take (i * 6) ++ xs.drop ((i + 1) * 6) := by
  have hxl : xs.length = (m + 1) * 6 := by rw [← hx, List.length_take, List.length_drop]; omega
  intro c1
  have hP : (cur.take off).length = off := by rw [List.length_take]; omega
  have e1 : cur.take (off + i * 6) = cur.take off ++ xs.take (i * 6) := by
    rw [List.take_add, ← hx, List.take_take, show min (i * 6) ((m + 1) * 6) = i * 6 by omega]
  refine ⟨?_, ?_⟩
  · show (cur.take (off + i * 6) ++ xs.drop ((i + 1) * 6) ++ cur.drop (off + i * 6 + (m - i) * 6)).length = _
    simp only [List.length_append, List.length_take, List.length_drop, hxl]; omega
  · show ((cur.take (off + i * 6) ++ xs.drop ((i + 1) * 6) ++ cur.drop (off + i * 6 + (m - i) * 6)).drop off).take (m * 6) = _
    rw [e1, List.append_assoc, List.append_assoc, List.drop_append, hP, Nat.sub_self, List.drop_zero, List.drop_of_length_le (by omega), List.nil_append, ← List.append_assoc]
    have hl : (xs.take (i * 6) ++ xs.drop ((i + 1) * 6)).length = m * 6 := by simp only [List.length_append, List.length_take, List.length_drop, hxl]; omega
    rw [List.take_append, hl, Nat.sub_self, List.take_zero, List.append_nil, List.take_of_length_le (by omega)]

section
variable {w : World} {m i : Nat} {xs : List Value}

set_option maxHeartbeats 4000000 in
set_option maxRecDepth 100000 in
theorem delete_any (g off cap : Nat) (hn : m ≤ 200000) (hi : i ≤ m) (hrow : Row w 56 6 (.slice (some ⟨g, off, none⟩) (m + 1 : Nat) cap) (m + 1) xs) (hones : ∀ u ∈ xs, u.oneCell' = true) :
    Calls Tryd.prog 94 #[.slice (some ⟨g, off, none⟩) (m + 1 : Nat) cap, .int .i64 i, .int .i64 ((i : Int) + 1)] w fun e w' => e = .returned (.slice (some ⟨g, off, none⟩) m cap) ∧ Row w' 56 6 (.slice (some ⟨g, off, none⟩) m cap) m (xs.take (i * 6) ++ xs.drop ((i + 1) * 6)) ∧ Heap.Touch (own (.slice (some ⟨g, off, none⟩) (m + 1 : Nat) cap)) w w' := by
  have hrow2 := hrow.2
  have hxl := hrow.1
  rcases hrow2 with ⟨h2, _⟩ | ⟨g', off', cap', cur, hv, hg, h1, h2, h3, h4⟩
  · cases h2
  simp only [Value.slice.injEq, Option.some.injEq, Addr.mk.injEq] at hv
  obtain ⟨⟨rfl, rfl, _⟩, _, rfl⟩ := hv
  obtain ⟨i0, hi0, hz0, hzs, hzb⟩ := info_parts info_el
  have hlist := erase_list (i := i) (m := m) hi (by rw [Array.length_toList]; omega) h4
  obtain ⟨C1, hC1⟩ : ∃ C1 : Array Value, C1 = (cur.toList.take (off + i * 6) ++ xs.drop ((i + 1) * 6) ++ cur.toList.drop (off + i * 6 + (m - i) * 6)).toArray := ⟨_, rfl⟩
  have hc1s : C1.size = cur.size := by rw [hC1, List.size_toArray, hlist.1, Array.length_toList]
  have hc1t : (C1.toList.drop off).take (m * 6) = xs.take (i * 6) ++ xs.drop ((i + 1) * 6) := by rw [hC1]; exact hlist.2
  have hnl : (xs.drop ((i + 1) * 6)).length = (m - i) * 6 := by rw [List.length_drop, hxl]; omega
  have hap : ∀ ty (a : Addr) c, (m - i = 0 ∨ a = ⟨g, off + (i + 1) * 6, none⟩) → (Builtin.append_ #[52, 52] ty #[.slice (some ⟨g, off, none⟩) i cap, .slice (some a) (m - i) c]).run Tryd.prog w.drew = .ok (.slice (some ⟨g, off, none⟩) m cap) (w.drew.setRow g C1) := fun ty a c ha => by
    have h := run_append_room' (P := Tryd.prog) w.drew 52 ty 56 i0 Tryd.underlying52 hi0 g off i cap cur hg a (m - i) c (xs.drop ((i + 1) * 6)) (by rw [hzs, hnl]) (fun j u hj => by
        have hjl := (List.getElem?_eq_some_iff.1 hj).1
        rw [hnl] at hjl
        rcases ha with ha | ha
        · omega
        · subst ha
          rw [List.getElem?_drop] at hj
          rw [Addr.add_lit]
          have := (hrow.cell ((i + 1) * 6 + j) (by omega)).1
          rw [← Nat.add_assoc] at this
          exact this.trans hj) (fun u hu => hones u (List.mem_of_mem_drop hu)) (by omega) (by rw [hzs, hnl]; omega)
    rw [hzs, hnl, show i + (m - i) = m by omega] at h
    rw [hC1]
    exact h
  have hg1 : (w.drew.setRow g C1).heap[g]? = some (.cells C1 56 (0, 0)) := setRow_heap w.drew g cur C1 _ (0, 0) hg
  have hr1 : Row (w.drew.setRow g C1) 56 6 (.slice (some ⟨g, off, none⟩) (m + 1 : Nat) cap) (m + 1) ((C1.toList.drop off).take ((m + 1) * 6)) :=
    ⟨by rw [List.length_take, List.length_drop, Array.length_toList, hc1s]; omega, .inr ⟨g, off, cap, C1, rfl, hg1, by omega, h2, by rw [hc1s]; omega, rfl⟩⟩
  obtain ⟨w3, hcl, r3, t3⟩ := run_clear_row (P := Tryd.prog) 52 56 0 (Value.agg #[.int .i64 0, .int .i64 0, .int .i64 0, .string ⟨#[]⟩, .string ⟨#[]⟩, .string ⟨#[]⟩]) 6 Tryd.underlying52 Tryd.zeroValue56 rfl (by decide) (by decide) hr1 (show m < m + 1 by omega)
  have HEND := Lib.hid (show Row w3 56 6 (.slice (some ⟨g, off, none⟩) m cap) m (xs.take (i * 6) ++ xs.drop ((i + 1) * 6)) ∧ Heap.Touch (own (.slice (some ⟨g, off, none⟩) (m + 1 : Nat) cap)) w w3 from by
    refine ⟨?_, (touch_setRow (Heap.Touch.refl _ w).drew (by simp [own, Value.ownBlock]) _).after t3⟩
    rw [List.take_take, show min (m * 6) ((m + 1) * 6) = m * 6 by omega, hc1t] at r3
    exact r3)
  rw [show m + 1 - m = 1 by omega] at hcl
  have hij : ¬ ((i : Int) = (i : Int) + 1) := by omega
  have hb1 : (i : Int) ≤ (i : Int) + 1 := by omega
  have hb2 : (i : Int) + 1 ≤ (m : Int) + 1 := by omega
  have hb3 : (0 : Int) ≤ (i : Int) + 1 := by omega
  have htn : ((i : Int) + 1).toNat = i + 1 := by omega
  have hmc : m + 1 ≤ cap := h1
  have hb4 : (i : Int) ≤ (m : Int) + 1 := by omega
  have hb5 : ¬ cap = m := by omega
  have hb6 : (i : Int) ≤ (cap : Int) := by omega
  have hb7 : (m : Int) + 1 ≤ (cap : Int) := by omega
  have hb8 : (m : Int) ≤ (m : Int) + 1 := by omega
  have htm : ((m : Int) + 1).toNat = m + 1 := by omega
  have HROW := Lib.hid (show Row w.drew 56 6 (.slice (some ⟨g, off, none⟩) (m + 1 : Nat) cap) (m + 1) xs from hrow)
  clear hlist hC1 hc1s hc1t hnl hg1 hr1 r3 t3 h1 h2 h3 h4 hg hrow hxl hones
  by_cases hci : cap = i + 1
  · obtain rfl : m = i := by omega
    subst hci
    clear hap hcl HEND hij hb1 hb2 hb3 hb4 hb5 hb6 hb7 hb8 hmc
    obtain ⟨w4, hcl, r4, t4⟩ := run_clear_row (P := Tryd.prog) (w := w.drew) 52 56 0 (Value.agg #[.int .i64 0, .int .i64 0, .int .i64 0, .string ⟨#[]⟩, .string ⟨#[]⟩, .string ⟨#[]⟩]) 6 Tryd.underlying52 Tryd.zeroValue56 rfl (by decide) (by decide) HROW.out (show m < m + 1 by omega)
    have HEND := Lib.hid (show Row w4 56 6 (.slice (some ⟨g, off, none⟩) m (m + 1 : Nat)) m (xs.take (m * 6) ++ xs.drop ((m + 1) * 6)) ∧ Heap.Touch (own (.slice (some ⟨g, off, none⟩) (m + 1 : Nat) (m + 1 : Nat))) w w4 from by
      refine ⟨?_, (Heap.Touch.refl _ w).drew.after t4⟩
      have hxl := HROW.out.1
      rw [show xs.take (m * 6) ++ xs.drop ((m + 1) * 6) = xs.take (m * 6) from by rw [List.drop_of_length_le (by omega), List.append_nil]]
      exact r4)
    rw [show m + 1 - m = 1 by omega] at hcl
    have hij : ¬ ((m : Int) = (m : Int) + 1) := by omega
    have hb1 : (m : Int) ≤ (m : Int) + 1 := by omega
    have hb3 : (0 : Int) ≤ (m : Int) + 1 := by omega
    have hb4 : m ≤ m + 1 := by omega
    clear r4 t4
    go_enter Tryd.func94, Tryd.ntmps94
    go_wp2_with fail
    go_region_law (fail)
    go_wp2_with fail
    go_ret
    exact ⟨rfl, HEND.out⟩
  · have hci' : ¬ cap = i + 1 := hci
    go_enter Tryd.func94, Tryd.ntmps94
    go_wp2_with fail
    go_region_law ((refine step_append_runI rfl _ _ 52 rfl _ _ (by simp [Act.eval, Act.put]) (by simp [Act.eval, Act.put]) (hap _ ⟨g, off + (i + 1) * 6, none⟩ (cap - (i + 1)) (.inr rfl)) ?_))
    go_wp2_with fail
    go_ret
    exact ⟨rfl, HEND.out⟩
end
end Go.Proofs.YtpmffneohcbhbaaDoor.Sto.Del
