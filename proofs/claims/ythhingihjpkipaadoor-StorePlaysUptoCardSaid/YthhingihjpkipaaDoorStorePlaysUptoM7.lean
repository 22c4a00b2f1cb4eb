/- Parts of the proof, joined: slices.Delete of one pointer to a node, walked.; rillref.Pieces, walked.; rillref.tokens, Subject, Filter, walked.; rillref.takes, walked by its own recursion; Takes. -/
import Derived.Test.YthhingihjpkipaaDoorStorePlaysUptoM6
import Derived.RangeFuncBox
namespace Go.Proofs.YthhingihjpkipaaDoor.Idx.Ins
open Go.RowKit Heap

theorem step_append_runI {P : Program} {ops : Array Oper} {o : Oper} {a : Act} {w : World} {K : Act → World → Prop} {Q : Exit → Act → World → Prop} {E : Prop}
    (hg : o.guard = none) (s x : Operand) (t : TypeId) (hop : o.op = Op.call { callee := Callee.builtin Builtin.append, args := #[s, x], argTypes := #[t, t] })
    (v u : Value) (hs : a.eval s = v) (hx : a.eval x = u) {v' : Value} {w' : World} (hr : (Builtin.append_ #[t, t] o.type #[v, u]).run P w = .ok v' w') (hK : K (a.put o.dst v') w') :
    if Region.wanted o (yielded ops a.tmps) = true then Oper.wp P o a w K Q else E := by
  have hw : Region.wanted o (yielded ops a.tmps) = true := by simp [Region.wanted, hg]
  rw [if_pos hw]
  unfold Oper.wp execOp
  simp only [hop, resolve, invoke, builtin, Sem.run_bind, Sem.run_pure, Result.andThen_ok, List.map_toArray, List.map_cons, List.map_nil, hs, hx, hr]
  exact hK

theorem erase_list {cur xs : List Value} {off i m : Nat} (hi : i ≤ m) (h3 : off + (m + 1) ≤ cur.length) (hx : (cur.drop off).take (m + 1) = xs) :
    let c1 := cur.take (off + i) ++ xs.drop (i + 1) ++ cur.drop (off + i + (m - i))
    c1.length = cur.length ∧ (c1.drop off).take m = xs.eraseIdx i := by
  have hxl : xs.length = m + 1 := by rw [← hx, List.length_take, List.length_drop]; omega
  intro c1
  have hP : (cur.take off).length = off := by rw [List.length_take]; omega
  have e1 : cur.take (off + i) = cur.take off ++ xs.take i := by
    rw [List.take_add, ← hx, List.take_take, show min i (m + 1) = i by omega]
  refine ⟨?_, ?_⟩
  · show (cur.take (off + i) ++ xs.drop (i + 1) ++ cur.drop (off + i + (m - i))).length = _
    simp only [List.length_append, List.length_take, List.length_drop, hxl]; omega
  · show ((cur.take (off + i) ++ xs.drop (i + 1) ++ cur.drop (off + i + (m - i))).drop off).take m = _
    rw [e1, List.append_assoc, List.append_assoc, List.drop_append, hP, Nat.sub_self, List.drop_zero, List.drop_of_length_le (by omega), List.nil_append, ← List.append_assoc]
    have hl : (xs.take i ++ xs.drop (i + 1)).length = m := by simp only [List.length_append, List.length_take, List.length_drop, hxl]; omega
    rw [List.take_append, hl, Nat.sub_self, List.take_zero, List.append_nil, List.take_of_length_le (by omega), List.eraseIdx_eq_take_drop_succ]

section
variable {w : World} {m i : Nat} {xs : List Value}

set_option maxHeartbeats 4000000 in
set_option maxRecDepth 100000 in
theorem delete_any (g off cap : Nat) (hn : m ≤ 200000) (hi : i ≤ m) (hrow : Row w 154 1 (.slice (some ⟨g, off, none⟩) (m + 1 : Nat) cap) (m + 1) xs) (hones : ∀ u ∈ xs, u.oneCell' = true) :
    Calls Tryd.prog 126 #[.slice (some ⟨g, off, none⟩) (m + 1 : Nat) cap, .int .i64 i, .int .i64 ((i : Int) + 1)] w fun e w' => e = .returned (.slice (some ⟨g, off, none⟩) m cap) ∧ Row w' 154 1 (.slice (some ⟨g, off, none⟩) m cap) m (xs.eraseIdx i) ∧ Heap.Touch (own (.slice (some ⟨g, off, none⟩) (m + 1 : Nat) cap)) w w' := by
  have hrow2 := hrow.2
  have hxl := hrow.1
  rcases hrow2 with ⟨h2, _⟩ | ⟨g', off', cap', cur, hv, hg, h1, h2, h3, h4⟩
  · cases h2
  simp only [Value.slice.injEq, Option.some.injEq, Addr.mk.injEq] at hv
  obtain ⟨⟨rfl, rfl, _⟩, _, rfl⟩ := hv
  obtain ⟨i0, hi0, hz0, hzs, hzb⟩ := info_parts info_el
  simp only [Nat.mul_one] at h3 h4 hxl
  have hlist := erase_list (i := i) (m := m) hi (by rw [Array.length_toList]; omega) h4
  obtain ⟨C1, hC1⟩ : ∃ C1 : Array Value, C1 = (cur.toList.take (off + i) ++ xs.drop (i + 1) ++ cur.toList.drop (off + i + (m - i))).toArray := ⟨_, rfl⟩
  have hc1s : C1.size = cur.size := by rw [hC1, List.size_toArray, hlist.1, Array.length_toList]
  have hc1t : (C1.toList.drop off).take m = xs.eraseIdx i := by rw [hC1]; exact hlist.2
  have hnl : (xs.drop (i + 1)).length = m - i := by rw [List.length_drop, hxl]; omega
  have hap : ∀ ty (a : Addr) c, (m - i = 0 ∨ a = ⟨g, off + (i + 1), none⟩) → (Builtin.append_ #[147, 147] ty #[.slice (some ⟨g, off, none⟩) i cap, .slice (some a) (m - i) c]).run Tryd.prog w.drew = .ok (.slice (some ⟨g, off, none⟩) m cap) (w.drew.setRow g C1) := fun ty a c ha => by
    have h := run_append_room' (P := Tryd.prog) w.drew 147 ty 154 i0 Tryd.underlying147 hi0 g off i cap cur hg a (m - i) c (xs.drop (i + 1)) (by rw [hzs, hnl, Nat.mul_one]) (fun j u hj => by
        have hjl := (List.getElem?_eq_some_iff.1 hj).1
        rw [hnl] at hjl
        rcases ha with ha | ha
        · omega
        · subst ha
          rw [List.getElem?_drop] at hj
          rw [Addr.add_lit]
          have := (hrow.cell (i + 1 + j) (by omega)).1
          rw [← Nat.add_assoc] at this
          exact this.trans hj) (fun u hu => hones u (List.mem_of_mem_drop hu)) (by omega) (by rw [hzs, hnl]; omega)
    rw [hzs, hnl, Nat.mul_one, show i + (m - i) = m by omega] at h
    rw [hC1]
    exact h
  have hg1 : (w.drew.setRow g C1).heap[g]? = some (.cells C1 154 (0, 0)) := setRow_heap w.drew g cur C1 _ (0, 0) hg
  have hr1 : Row (w.drew.setRow g C1) 154 1 (.slice (some ⟨g, off, none⟩) (m + 1 : Nat) cap) (m + 1) ((C1.toList.drop off).take ((m + 1) * 1)) :=
    ⟨by rw [List.length_take, List.length_drop, Array.length_toList, hc1s]; omega, .inr ⟨g, off, cap, C1, rfl, hg1, by omega, h2, by rw [hc1s]; omega, rfl⟩⟩
  obtain ⟨w3, hcl, r3, t3⟩ := run_clear_row (P := Tryd.prog) 147 154 0 (.pointer none) 1 Tryd.underlying147 Tryd.zeroValue154 rfl (by decide) (by decide) hr1 (show m < m + 1 by omega)
  have HEND := Lib.hid (show Row w3 154 1 (.slice (some ⟨g, off, none⟩) m cap) m (xs.eraseIdx i) ∧ Heap.Touch (own (.slice (some ⟨g, off, none⟩) (m + 1 : Nat) cap)) w w3 from by
    refine ⟨?_, (touch_setRow (Heap.Touch.refl _ w).drew (by simp [own, Value.ownBlock]) _).after t3⟩
    rw [List.take_take, show min (m * 1) ((m + 1) * 1) = m by omega, hc1t] at r3
    exact r3)
  rw [show m + 1 - m = 1 by omega, Nat.mul_one] at hcl
  have hij : ¬ ((i : Int) = (i : Int) + 1) := by omega
  have hb1 : (i : Int) ≤ (i : Int) + 1 := by omega
  have hb2 : (i : Int) + 1 ≤ (m : Int) + 1 := by omega
  have hb3 : (0 : Int) ≤ (i : Int) + 1 := by omega
  have htn : ((i : Int) + 1).toNat = i + 1 := by omega
  have hmc : m + 1 ≤ cap := h1
  have hb4 : (i : Int) ≤ (m : Int) + 1 := by omega
  have hb5 : ¬ cap = m := by omega
  have hb6 : (i : Int) ≤ (cap : Int) := by omega
  have hb7 : (m : Int) + 1 ≤ (cap : Int) := by omega
  have hb8 : (m : Int) ≤ (m : Int) + 1 := by omega
  have htm : ((m : Int) + 1).toNat = m + 1 := by omega
  have HROW := Lib.hid (show Row w.drew 154 1 (.slice (some ⟨g, off, none⟩) (m + 1 : Nat) cap) (m + 1) xs from hrow)
  clear hlist hC1 hc1s hc1t hnl hg1 hr1 r3 t3 h1 h2 h3 h4 hg hrow hxl hones
  by_cases hci : cap = i + 1
  · obtain rfl : m = i := by omega
    subst hci
    clear hap hcl HEND hij hb1 hb2 hb3 hb4 hb5 hb6 hb7 hb8 hmc
    obtain ⟨w4, hcl, r4, t4⟩ := run_clear_row (P := Tryd.prog) (w := w.drew) 147 154 0 (.pointer none) 1 Tryd.underlying147 Tryd.zeroValue154 rfl (by decide) (by decide) HROW.out (show m < m + 1 by omega)
    have HEND := Lib.hid (show Row w4 154 1 (.slice (some ⟨g, off, none⟩) m (m + 1 : Nat)) m (xs.eraseIdx m) ∧ Heap.Touch (own (.slice (some ⟨g, off, none⟩) (m + 1 : Nat) (m + 1 : Nat))) w w4 from by
      refine ⟨?_, (Heap.Touch.refl _ w).drew.after t4⟩
      have hxl := HROW.out.1
      rw [show xs.eraseIdx m = xs.take (m * 1) from by rw [List.eraseIdx_eq_take_drop_succ, List.drop_of_length_le (by omega), List.append_nil, Nat.mul_one]]
      exact r4)
    rw [show m + 1 - m = 1 by omega, Nat.mul_one] at hcl
    have hij : ¬ ((m : Int) = (m : Int) + 1) := by omega
    have hb1 : (m : Int) ≤ (m : Int) + 1 := by omega
    have hb3 : (0 : Int) ≤ (m : Int) + 1 := by omega
    have hb4 : m ≤ m + 1 := by omega
    clear r4 t4
    go_enter Tryd.func126, Tryd.ntmps126
    go_wp2_with fail
    go_region_law (fail)
    go_wp2_with fail
    go_ret
    exact ⟨rfl, HEND.out⟩
  · have hci' : ¬ cap = i + 1 := hci
    go_enter Tryd.func126, Tryd.ntmps126
    go_wp2_with fail
    go_region_law ((refine step_append_runI rfl _ _ 147 rfl _ _ (by simp [Act.eval, Act.put]) (by simp [Act.eval, Act.put]) (hap _ ⟨g, off + (i + 1), none⟩ (cap - (i + 1)) (.inr rfl)) ?_))
    go_wp2_with fail
    go_ret
    exact ⟨rfl, HEND.out⟩
end
end Go.Proofs.YthhingihjpkipaaDoor.Idx.Ins

namespace Go.Proofs.YthhingihjpkipaaDoor.Subj
open Go.RowKit

/-- A row of texts, as cells. -/
def strsV (l : List Tok) : List Value := l.map fun t => .string ⟨t.toArray⟩

theorem strsV_len (l : List Tok) : (strsV l).length = l.length := by simp [strsV]
theorem strsV_get (l : List Tok) (i : Nat) (h : i < l.length) : (strsV l)[i]? = some (.string (strAt l i)) := by
  simp [strsV, strAt, h, List.getD]

theorem strsV_append (l m : List Tok) : strsV (l ++ m) = strsV l ++ strsV m := by simp [strsV]
theorem strsV_set (l : List Tok) (i : Nat) (t : Tok) : strsV (l.set i t) = (strsV l).set i (.string ⟨t.toArray⟩) := by simp [strsV, List.map_set]
theorem extract_one (s : ByteArray) (k : Nat) (h : k < s.size) : s.extract k (k + 1) = ⟨#[s[k]]⟩ := by
  apply ByteArray.ext
  apply Array.ext
  · simp; omega
  · intro i h1 h2
    simp at h2
    subst h2
    simp [ByteArray.data_extract]
    rfl

theorem pieces_dot (l : List UInt8) : pieces (l ++ [46]) = pieces l ++ [[]] := by
  induction l with
  | nil => simp [pieces]
  | cons b l ih =>
    rw [List.cons_append]
    conv => lhs; unfold pieces
    conv => rhs; unfold pieces
    rw [ih]
    split
    · simp
    · cases hp : pieces l with
      | nil => exact absurd hp (pieces_ne l)
      | cons p ps => simp

theorem pieces_byte (l : List UInt8) (c : UInt8) (hc : c ≠ 46) : pieces (l ++ [c]) = (pieces l).set ((pieces l).length - 1) ((pieces l).getD ((pieces l).length - 1) [] ++ [c]) := by
  induction l with
  | nil => simp [pieces, hc]
  | cons b l ih =>
    rw [List.cons_append]
    conv => lhs; unfold pieces
    conv => rhs; unfold pieces
    rw [ih]
    have hne := pieces_ne l
    split
    · cases hp : pieces l with
      | nil => exact absurd hp hne
      | cons p ps => simp
    · cases hp : pieces l with
      | nil => exact absurd hp hne
      | cons p ps =>
        cases ps with
        | nil => simp
        | cons q qs => simp

theorem info_str : (Tryd.prog.info? 9).map (fun i => (i.zero, i.size, i.bytes)) = some (some (.string ⟨#[]⟩), 1, 16) := by kernel_rfl

set_option maxRecDepth 100000 in
theorem pieces_any (s : ByteArray) (w : World) (hs : s.size ≤ 1048576) :
    Calls Tryd.prog 88 #[.string s, .int .u8 46] w fun e w' => ∃ v, e = .returned v ∧ w'.ownsRow w.heap.size 9 1 v (pieces s.data.toList).length (strsV (pieces s.data.toList)) ∧ Below w.heap.size w w' := by
  go_enter Tryd.func88, Tryd.ntmps88
  obtain ⟨i0, hi, hz0, hz1, hz2⟩ := info_parts info_str
  go_wp2
  go_loopw [5, 6] (fun v i wr => ∃ (k m : Nat), k ≤ s.size ∧ i = .int .i64 k ∧ Hid ((pieces (s.data.toList.take k)).length = m + 1) ∧ wr.ownsRow w.heap.size 9 1 v (m + 1) (strsV (pieces (s.data.toList.take k))) ∧ Below w.heap.size w wr) (fun _ i _ => s.size - (intOf i).toNat)
  case atStart =>
    refine ⟨0, 0, Nat.zero_le _, rfl, rfl, ?_, (Below.refl _ _).alloc (Nat.le_refl _) _⟩
    exact World.ownsRow_lit w _ 1 (Nat.le_refl _) (by decide) rfl
  case round =>
    obtain ⟨k, m, hk, rfl, HL, hown, hb⟩ := hrel
    obtain ⟨g, cap, rfl⟩ := ownsRow_succ hown
    have hbs := hb.size
    by_cases hlt : k < s.size
    · have htk : s.data.toList.take (k + 1) = s.data.toList.take k ++ [s[k]] := by
        rw [List.take_add_one]; simp [hlt]; rfl
      have hm : m ≤ 1048577 := by
        have := pieces_len (s.data.toList.take k)
        have h2 := List.count_le_length (a := 46) (l := s.data.toList.take k)
        have h3 := HL.out
        simp at h2; omega
      have hq : (strAt (pieces (s.data.toList.take k)) m).size ≤ 1048576 := by
        have h1 := pieces_each (s.data.toList.take k) m
        have h2 : (strAt (pieces (s.data.toList.take k)) m).size = ((pieces (s.data.toList.take k)).getD m []).length := by
          show ((pieces (s.data.toList.take k)).getD m []).toArray.size = _; simp
        have h3 : (s.data.toList.take k).length ≤ s.size := by simp; omega
        omega
      have hx : (s.extract k (k + 1)).size = 1 := by simp; omega
      have hp1 : s[k] = 46 → pieces (s.data.toList.take (k + 1)) = pieces (s.data.toList.take k) ++ [[]] := fun e => by rw [htk, e]; exact pieces_dot _
      have hp2 : s[k] ≠ 46 → pieces (s.data.toList.take (k + 1)) = (pieces (s.data.toList.take k)).set m ((pieces (s.data.toList.take k)).getD m [] ++ [s[k]]) := fun e => by
        rw [htk, pieces_byte _ _ e, HL.out]; rfl
      clear htk
      generalize pieces (s.data.toList.take k) = l at *
      have hpos := (hown.lt g rfl).1
      have hc := hown.cellAt m (by omega)
      have hf := hown.frozenAt m
      rw [strsV_get _ _ (by rw [HL.out]; omega)] at hc
      by_cases h46 : s[k] = 46
      · have d : ((s[k].toNat : Int) == 46) = true := by rw [h46]; rfl
        have HP := Lib.hid (hp1 h46)
        clear h46 hp1 hp2 hc hf hq hx
        go_wp2_with (at_builtin; go_loud (refine wpList_append_own _ rfl (.tmp 19) (.tmp 20) 125 rfl (w.heap.size) 9 i0 (.string ⟨#[]⟩) 1 16 Tryd.underlying125 hi hz0 hz1 hz2 rfl (by decide) _ _ _ rfl (hown.alloc _) ⟨wr.heap.size, 0, none⟩ 1 1 [.string ⟨#[]⟩] rfl rfl (cell_one_new _ _ _) (by simp [Value.oneCell']) (by unfold maxLen; omega) (by omega) (by simp; omega) ?_))
        intro v' w1 hown1 hgrow hne
        go_wp2
        refine ⟨⟨k + 1, m + 1, by omega, by go_num, ?_, ?_, ?_⟩, by simp [intOf]; omega⟩
        · show _ = _
          rw [HP.out]; simp [HL.out]
        · rw [HP.out, strsV_append]; exact hown1
        · exact (hb.alloc hbs _).grown hgrow (by simp; omega) (fun k hk => (hown.lt k hk).1)
      · have d : ((s[k].toNat : Int) == 46) = false := by
          simp; intro e; apply h46; apply UInt8.toNat_inj.1; exact Int.ofNat.inj e
        have HP := Lib.hid (hp2 h46)
        clear h46 hp1 hp2
        go_wp2
        go_region
        go_wp2
        have hst := (hown.stored m (.string (strAt l m ++ s.extract k (k + 1)))).1
        have he : strAt l m ++ s.extract k (k + 1) = ⟨(l.getD m [] ++ [s[k]]).toArray⟩ := by
          rw [extract_one s k hlt]
          apply ByteArray.ext; simp [strAt]
        rw [he] at hst ⊢
        refine ⟨⟨k + 1, m, by omega, by go_num, ?_, ?_, ?_⟩, by simp [intOf]; omega⟩
        · show _ = _
          rw [HP.out]; simp [HL.out]
        · rw [HP.out, strsV_set]; exact hst.drew
        · exact (hb.setCell (p := ⟨g, m, none⟩) hpos _).drew
    · obtain rfl : k = s.size := by omega
      go_wp2
      go_ret
      rw [List.take_of_length_le (by simp)] at *
      exact ⟨_, rfl, by rw [HL.out]; exact hown, hb⟩
end Go.Proofs.YthhingihjpkipaaDoor.Subj

namespace Go.Proofs.YthhingihjpkipaaDoor.Subj
open Go.RowKit

theorem count_take (s : ByteArray) (k : Nat) (h : k < s.size) : (s.data.toList.take (k + 1)).count 46 = (s.data.toList.take k).count 46 + if s[k] = 46 then 1 else 0 := by
  have htk : s.data.toList.take (k + 1) = s.data.toList.take k ++ [s[k]] := by
    rw [List.take_add_one]; simp [h]; rfl
  rw [htk, List.count_append]
  congr 1
  by_cases e : s[k] = 46
  · simp [e]
  · rw [if_neg e]; simp [e]

def TokPost (w : World) (l : List Tok) (er : Nat) (e : Ending) (w' : World) : Prop :=
  Below w.heap.size w w' ∧ ((er = 0 ∧ ∃ v, e = .returned (.tuple #[v, .int .i64 0]) ∧ w'.ownsRow w.heap.size 9 1 v l.length (strsV l)) ∨
    (er ≠ 0 ∧ e = .returned (.tuple #[.slice none 0 0, .int .i64 er])))

set_option maxRecDepth 100000 in
theorem in_any (n lo hi : Int) (w : World) :
    Calls Tryd.prog 75 #[.int .i64 n, .int .i64 lo, .int .i64 hi] w fun e w' => e = .returned (.bool (decide (lo ≤ n) && decide (n ≤ hi))) ∧ w = w' := by
  by_cases h1 : lo ≤ n
  · have d1 : decide (lo ≤ n) = true := by simp [h1]
    rw [d1]
    go_enter Tryd.func75, Tryd.ntmps75
    go_wp2
    go_ret
    all_goals exact ⟨by simp, rfl⟩
  · have d1 : decide (lo ≤ n) = false := by simp [h1]
    rw [d1]
    go_enter Tryd.func75, Tryd.ntmps75
    go_wp2
    go_ret
    all_goals exact ⟨by simp, rfl⟩

theorem tokenOk_eq (s : ByteArray) : tokenOk s.data.toList = ((decide (1 ≤ s.size) && decide (s.size ≤ 16)) && s.data.toList.all byteOk) := by
  unfold tokenOk
  have : s.data.toList.length = s.size := by simp
  rw [this]
  generalize s.data.toList.all byteOk = a
  generalize decide (1 ≤ s.size) = b
  generalize decide (s.size ≤ 16) = c
  revert a b c; decide

theorem all_take (s : ByteArray) (k : Nat) (h : k < s.size) : (s.data.toList.take (k + 1)).all byteOk = ((s.data.toList.take k).all byteOk && byteOk s[k]) := by
  have htk : s.data.toList.take (k + 1) = s.data.toList.take k ++ [s[k]] := by
    rw [List.take_add_one]; simp [h]; rfl
  rw [htk]; simp

set_option maxHeartbeats 8000000 in
set_option maxRecDepth 100000 in
theorem tokens_any (s : ByteArray) (wild : Bool) (w : World) (hs : s.size ≤ 1048576) :
    Calls Tryd.prog 107 #[.string s, .bool wild] w (TokPost w (pieces s.data.toList) (err wild s.data.toList)) := by
  have hpl := pieces_len s.data.toList
  have hP := fun w => pieces_any s w hs
  obtain ⟨er, her⟩ : ∃ er, err wild s.data.toList = er := ⟨_, rfl⟩
  rw [her]
  unfold err at her
  have hsz : ∀ i, (strAt (pieces s.data.toList) i).size ≤ 1048576 := fun i => by
    have := pieces_each s.data.toList i
    have h2 : (strAt (pieces s.data.toList) i).size = ((pieces s.data.toList).getD i []).length := by
      show ((pieces s.data.toList).getD i []).toArray.size = _; simp
    rw [h2]
    have h3 : s.data.toList.length = s.size := by simp
    omega
  generalize pieces s.data.toList = l at *
  have HPL := Lib.hid hpl; have HP := Lib.hid hP; have HER := Lib.hid her; have HSZ := Lib.hid hsz
  clear hpl hP her hsz
  go_enter Tryd.func107, Tryd.ntmps107
  go_wp2
  go_loop [6, 7] (fun c i => ∃ k m : Nat, k ≤ s.size ∧ m ≤ k ∧ i = .int .i64 k ∧ c = .int .i64 ((m : Int) + 1) ∧ Hid ((s.data.toList.take k).count 46 = m)) (fun _ i => s.size - (intOf i).toNat)
  case atStart => exact ⟨0, 0, Nat.zero_le _, Nat.zero_le _, rfl, rfl, rfl⟩
  case round =>
    obtain ⟨k, m, hk, hmk, rfl, rfl, HK⟩ := hrel
    by_cases hlt : k < s.size
    · have hct := count_take s k hlt
      have HC := Lib.hid hct; clear hct
      by_cases h46 : s[k] = 46
      · have d : ((s[k].toNat : Int) == 46) = true := by rw [h46]; rfl
        have H46 := Lib.hid h46; clear h46
        go_wp2
        refine ⟨⟨k + 1, m + 1, by omega, by omega, by go_num, by go_num, ?_⟩, by simp [intOf]; omega⟩
        show _ = _
        rw [HC.out, HK.out, if_pos H46.out]
      · have d : ((s[k].toNat : Int) == 46) = false := by
          simp; intro e; apply h46; apply UInt8.toNat_inj.1; exact Int.ofNat.inj e
        have H46 := Lib.hid h46; clear h46
        go_wp2
        refine ⟨⟨k + 1, m, by omega, by omega, by go_num, rfl, ?_⟩, by simp [intOf]; omega⟩
        show _ = _
        rw [HC.out, HK.out, if_neg H46.out, Nat.add_zero]
    · obtain rfl : k = s.size := by omega
      have hl : l.length = m + 1 := by
        have h1 := HK.out
        rw [List.take_of_length_le (by simp)] at h1
        rw [HPL.out, h1]
      have HL := Lib.hid hl; clear hl HK HPL
      by_cases h8 : 8 < m + 1
      · have h2 : er = 2 := by rw [← HER.out, if_pos (by rw [HL.out]; exact h8)]
        subst h2
        go_wp2
        go_ret2
        exact ⟨Below.refl _ _, .inr ⟨by decide, rfl⟩⟩
      · have her2 : (if okPieces wild l then 0 else 3) = er := by
          have h8' : ¬ 8 < l.length := by rw [HL.out]; exact h8
          have h9 := HER.out
          rw [if_neg h8'] at h9
          exact h9
        have HE := Lib.hid her2; clear her2 HER
        go_wp2_with fail
        refine (HP.out _).mono ?_
        rintro e w' ⟨v, rfl, hown, hb⟩
        rw [HL.out] at hown
        obtain ⟨g, cap, rfl⟩ := ownsRow_succ hown
        have hst : StrsAt w' g 0 l := fun i hi => by
          rw [Nat.zero_add, hown.cellAt i (by rw [HL.out] at hi; omega), strsV_get _ _ hi]
        have HST := Lib.hid hst; clear hst
        have HOWN := Lib.hid hown; clear hown
        go_wp2
        go_loop [9] (fun i => ∃ k : Nat, k ≤ m + 1 ∧ i = .int .i64 k ∧ Hid (∀ j, j < k → okAt wild l j = true)) (fun i => m + 1 - (intOf i).toNat)
        case atStart => exact ⟨0, Nat.zero_le _, rfl, fun j h => by omega⟩
        case round =>
          obtain ⟨k, hk, rfl, HK⟩ := hrel
          by_cases hlt : k < m + 1
          · have hcell := HST.out k (by rw [HL.out]; exact hlt)
            rw [Nat.zero_add] at hcell
            have htok := tokenOk_eq (strAt l k)
            rw [strAt_list] at htok
            have hdef : okAt wild l k = ((wild && (l.getD k [] == [42] || (l.getD k [] == [62] && decide (k + 1 = m + 1)))) || tokenOk (l.getD k [])) := by unfold okAt; rw [HL.out]
            have htl := strAt_toList l k
            have hszk := HSZ.out k
            have hnext : okAt wild l k = true → ∃ k' : Nat, k' ≤ m + 1 ∧ Value.int .i64 ((k : Int) + 1) = .int .i64 k' ∧ Hid (∀ j, j < k' → okAt wild l j = true) := fun h =>
              ⟨k + 1, by omega, by go_num, fun j hj => by
                by_cases e : j = k
                · subst e; exact h
                · exact HK.out j (by omega)⟩
            have hbad : okAt wild l k = false → er = 3 := fun h => by
              have : okPieces wild l = false := by
                cases ho : okPieces wild l with
                | false => rfl
                | true => rw [okPieces_iff] at ho; rw [ho k (by rw [HL.out]; exact hlt)] at h; cases h
              rw [← HE.out, this]; rfl
            have hall := fun j hj => all_take (strAt l k) j hj
            generalize hT : strAt l k = T at *
            generalize okAt wild l k = oa at *
            generalize l.getD k [] = lk at *
            clear hT
            have HT := Lib.hid htok; have HD := Lib.hid hdef; have HTL := Lib.hid htl; have HX := Lib.hid hnext; have HB := Lib.hid hbad; have HA := Lib.hid hall
            clear htok hdef htl hnext hbad hall
            go_wp2_with (go_at_call 75; refine (in_any _ _ _ _).mono ?_; rintro e w'' ⟨rfl, rfl⟩)
            generalize hb0 : (decide (1 ≤ (T.size : Int)) && decide ((T.size : Int) ≤ 16)) = b0
            have hb0' : (decide (1 ≤ T.size) && decide (T.size ≤ 16)) = b0 := by
              rw [← hb0, Bool.eq_iff_iff]; simp; omega
            have HB0 := Lib.hid hb0'; clear hb0 hb0'
            have hlk : T.data.toList = lk := by rw [← ByteArray.toList_eq, HTL.out]
            have HLK := Lib.hid hlk; clear hlk
            go_loop [10, 11] (fun ok q => ∃ (b : Bool) (j : Nat), j ≤ T.size ∧ ok = .bool b ∧ q = .int .i64 j ∧ Hid (b = (b0 && (T.data.toList.take j).all byteOk))) (fun _ q => T.size - (intOf q).toNat)
            case atStart => exact ⟨b0, 0, Nat.zero_le _, rfl, rfl, by show _ = _; simp⟩
            case round =>
              obtain ⟨b, j, hj, rfl, rfl, HJ⟩ := hrel
              by_cases hjt : j < T.size
              · have ha := HA.out j hjt
                have HAJ := Lib.hid ha; clear ha
                have hby := T[j].toNat_lt
                have hdef : byteOk T[j] = (decide (33 ≤ T[j].toNat) && decide (T[j].toNat ≤ 126) && T[j].toNat != 42 && T[j].toNat != 62) := rfl
                have HBD := Lib.hid hdef; clear hdef
                cases b with
                | false =>
                  go_wp2
                  refine ⟨⟨false, j + 1, by omega, rfl, by go_num, ?_⟩, by simp [intOf]; omega⟩
                  show _ = _
                  rw [HAJ.out, ← Bool.and_assoc, ← HJ.out]; rfl
                | true =>
                  have fin : ∀ y : Bool, y = byteOk T[j] → y = (b0 && (T.data.toList.take (j + 1)).all byteOk) := fun y hy => by
                    rw [HAJ.out, ← Bool.and_assoc, ← HJ.out, hy]; rfl
                  have FIN := Lib.hid fin; clear fin
                  by_cases b1 : T[j].toNat < 33
                  · have HQ := Lib.hid b1
                    go_wp2
                    refine ⟨⟨false, j + 1, by omega, rfl, by go_num, FIN.out _ (by rw [HBD.out]; simp; have := HQ.out; omega)⟩, by simp [intOf]; omega⟩
                  · by_cases b2 : 126 < T[j].toNat
                    · have HQ := Lib.hid b2
                      go_wp2
                      refine ⟨⟨false, j + 1, by omega, rfl, by go_num, FIN.out _ (by rw [HBD.out]; simp; have := HQ.out; omega)⟩, by simp [intOf]; omega⟩
                    · have HQ := Lib.hid b1; have HQ2 := Lib.hid b2
                      by_cases b3 : T[j].toNat = 42
                      · have d3 : ((T[j].toNat : Int) != 42) = false := by simp; omega
                        have H3 := Lib.hid b3; clear b3
                        go_wp2
                        refine ⟨⟨false, j + 1, by omega, rfl, by go_num, FIN.out _ (by rw [HBD.out]; simp [H3.out])⟩, by simp [intOf]; omega⟩
                      · have d3 : ((T[j].toNat : Int) != 42) = true := by simp; omega
                        have H3 := Lib.hid b3; clear b3
                        by_cases b4 : T[j].toNat = 62
                        · have d4 : ((T[j].toNat : Int) != 62) = false := by simp; omega
                          have H4 := Lib.hid b4; clear b4
                          go_wp2
                          refine ⟨⟨false, j + 1, by omega, rfl, by go_num, FIN.out _ (by rw [HBD.out]; simp [H4.out])⟩, by simp [intOf]; omega⟩
                        · have d4 : ((T[j].toNat : Int) != 62) = true := by simp; omega
                          have H4 := Lib.hid b4; clear b4
                          go_wp2
                          refine ⟨⟨true, j + 1, by omega, rfl, by go_num, FIN.out _ (by rw [HBD.out]; simp [H3.out, H4.out]; have := HQ.out; have := HQ2.out; omega)⟩, by simp [intOf]; omega⟩
              · obtain rfl : j = T.size := by omega
                have hb1 : tokenOk lk = b := by
                  rw [HJ.out, List.take_of_length_le (by simp), HT.out, HLK.out, ← HB0.out]
                rw [hb1] at HD
                clear HT HLK HB0 HJ hb1 HA
                cases wild with
                | false =>
                  have ho : oa = b := by rw [HD.out]; rfl
                  have HO := Lib.hid ho; clear ho HD
                  cases b with
                  | false =>
                    have h3 := HB.out HO.out
                    subst h3
                    go_wp2
                    go_ret2
                    exact ⟨hb, .inr ⟨by decide, rfl⟩⟩
                  | true =>
                    go_wp2
                    exact ⟨HX.out HO.out, by simp [intOf]; omega⟩
                | true =>
                  by_cases c1 : lk = [42]
                  · have ho : oa = true := by rw [HD.out, c1]; rfl
                    have d1 : (T.toList == [42]) = true := by rw [HTL.out, c1]; rfl
                    have HO := Lib.hid ho; clear ho HD c1
                    go_wp2
                    exact ⟨HX.out HO.out, by simp [intOf]; omega⟩
                  · have d1 : (T.toList == [42]) = false := by rw [HTL.out]; simpa using c1
                    have C1 : (lk == [42]) = false := by simpa using c1
                    by_cases c2 : k = m ∧ lk = [62]
                    · have ho : oa = true := by rw [HD.out, c2.1, c2.2]; simp
                      have d2 : (T.toList == [62]) = true := by rw [HTL.out, c2.2]; rfl
                      have d3 : ((k : Int) == (m : Int)) = true := by simp [c2.1]
                      have HO := Lib.hid ho; clear ho HD c1 c2 C1
                      go_wp2
                      exact ⟨HX.out HO.out, by simp [intOf]; omega⟩
                    · have ho : oa = b := by
                        rw [HD.out, C1]
                        have : (lk == [62] && decide (k + 1 = m + 1)) = false := by
                          rw [Bool.eq_false_iff]; intro h; simp at h; exact c2 ⟨h.2, h.1⟩
                        rw [this]; rfl
                      have HO := Lib.hid ho; clear ho HD C1 c1
                      by_cases c3 : lk = [62]
                      · have d2 : (T.toList == [62]) = true := by rw [HTL.out, c3]; rfl
                        have d3 : ((k : Int) == (m : Int)) = false := by
                          simp; intro e; exact c2 ⟨by omega, c3⟩
                        clear c2 c3
                        cases b with
                        | false =>
                          have h3 := HB.out HO.out
                          subst h3
                          go_wp2
                          go_ret2
                          exact ⟨hb, .inr ⟨by decide, rfl⟩⟩
                        | true =>
                          go_wp2
                          exact ⟨HX.out HO.out, by simp [intOf]; omega⟩
                      · have d2 : (T.toList == [62]) = false := by rw [HTL.out]; simpa using c3
                        clear c2 c3
                        cases b with
                        | false =>
                          have h3 := HB.out HO.out
                          subst h3
                          go_wp2
                          go_ret2
                          exact ⟨hb, .inr ⟨by decide, rfl⟩⟩
                        | true =>
                          go_wp2
                          exact ⟨HX.out HO.out, by simp [intOf]; omega⟩
          · obtain rfl : k = m + 1 := by omega
            have h0 : er = 0 := by
              rw [← HE.out, if_pos ((okPieces_iff wild l).2 (fun i hi => HK.out i (by rw [HL.out] at hi; exact hi)))]
            subst h0
            go_wp2
            go_ret2
            exact ⟨hb, .inl ⟨rfl, _, rfl, by rw [HL.out]; exact HOWN.out⟩⟩
end Go.Proofs.YthhingihjpkipaaDoor.Subj

namespace Go.Proofs.YthhingihjpkipaaDoor.Subj
open Go.RowKit

theorem Strs.cons {w : World} {v : Value} {x : Tok} {l : List Tok} (h : Strs w v (x :: l)) :
    ∃ g off cap, v = .slice (some ⟨g, off, none⟩) (l.length + 1) cap ∧ l.length + 1 ≤ cap ∧ w.cell? ⟨g, off, none⟩ = some (.string ⟨x.toArray⟩) ∧
      Strs w (.slice (if cap = 1 then some ⟨g, off, none⟩ else some ⟨g, off + 1, none⟩) l.length (cap - 1)) l := by
  obtain ⟨ao, cap, rfl, hc, ha⟩ := h
  obtain ⟨g, off, rfl, hs⟩ := ha (by simp)
  refine ⟨g, off, cap, rfl, by simpa using hc, ?_, ⟨_, cap - 1, rfl, by simp at hc; omega, fun hne => ⟨g, off + 1, ?_, hs.tail⟩⟩⟩
  · have := hs 0 (by simp)
    simpa [strAt] using this
  · have := List.length_pos_iff.2 hne
    simp at hc
    rw [if_neg (by omega)]

theorem Strs.nil {w : World} {v : Value} (h : Strs w v []) : ∃ ao cap, v = .slice ao 0 cap := by
  obtain ⟨ao, cap, rfl, _, _⟩ := h
  exact ⟨ao, cap, rfl⟩

theorem Strs.drewN {w : World} {v : Value} {l : List Tok} (h : Strs w v l) (n : Nat) : Strs (w.drewN n) v l := h
theorem Strs.below {w w' : World} {v : Value} {l : List Tok} (h : Strs w v l) (hb : Below w.heap.size w w') : Strs w' v l := by
  obtain ⟨ao, cap, rfl, hc, ha⟩ := h
  exact ⟨ao, cap, rfl, hc, fun hne => let ⟨g, off, e, hs⟩ := ha hne; ⟨g, off, e, hs.below hb⟩⟩
theorem Strs.own {w : World} {base n : Nat} {v : Value} {l : List Tok} (h : w.ownsRow base 9 1 v n (strsV l)) : Strs w v l := by
  have hn : l.length = n := by have := h.1; simpa [strsV_len] using this
  subst hn
  have h0 := h
  rcases h.2 with ⟨rfl, e⟩ | ⟨g, cap, cur, rfl, _, _, hle, _⟩
  · exact ⟨none, 0, by rw [e], by omega, fun hne => absurd (List.eq_nil_of_length_eq_zero e) hne⟩
  · exact ⟨_, cap, rfl, hle, fun _ => ⟨g, 0, rfl, fun i hi => by rw [Nat.zero_add, h0.cellAt i (by omega), strsV_get _ _ hi]⟩⟩

theorem nat_beq_zero (n : Nat) : ((n : Int) == 0) = decide (n = 0) := by
  rw [Bool.eq_iff_iff]; simp
theorem nat_zero_beq (n : Nat) : ((0 : Int) == n) = decide (0 = n) := by
  rw [Bool.eq_iff_iff]; simp; omega
theorem nat_beq (n m : Nat) : ((n : Int) == m) = decide (n = m) := by
  rw [Bool.eq_iff_iff]; simp; omega

theorem bytes_toList (x : Tok) : (ByteArray.mk x.toArray).toList = x := by
  rw [ByteArray.toList_eq]

/-- A call that answers a Bool; it may have drawn. -/
def QBool (w : World) (b : Bool) (e : Ending) (w' : World) : Prop := e = .returned (.bool b) ∧ ∃ n, w' = w.drewN n

set_option maxHeartbeats 1000000 in
set_option maxRecDepth 100000 in
theorem takes_ref (f : List Tok) : ∀ (s : List Tok) (vf vs : Value) (w : World), f.length ≤ maxLen → s.length ≤ maxLen → Strs w vf f → Strs w vs s →
    Calls Tryd.prog 87 #[vf, vs] w (QBool w (takes f s)) := by
  induction f with
  | nil =>
    intro s vf vs w h1 h2 hf hs
    obtain ⟨ao, cap, rfl⟩ := hf.nil
    obtain ⟨bo, cap', rfl, _, _⟩ := hs
    have hr : takes [] s = decide (s.length = 0) := by simp [takes]; cases s <;> simp
    rw [hr]
    generalize s.length = n at *
    go_enter Tryd.func87, Tryd.ntmps87
    go_wp2_with fail
    go_ret
    exact ⟨ret_bool (nat_beq_zero n), 0, rfl⟩
  | cons x f ih =>
    intro s vf vs w h1 h2 hf hs
    obtain ⟨gf, of, cf, rfl, hcf, hxf, hf'⟩ := hf.cons
    have hpx := bytes_toList x
    generalize (⟨x.toArray⟩ : ByteArray) = p at *
    simp only [List.length_cons] at h1
    cases s with
    | nil =>
      obtain ⟨bo, cap', rfl⟩ := hs.nil
      have hr : takes (x :: f) [] = false := by simp [takes]
      rw [hr]
      clear hf hf' hs ih h2 hpx
      go_enter Tryd.func87, Tryd.ntmps87
      go_wp2_with fail
      · go_ret
        exact ⟨rfl, 0, rfl⟩
      · go_quiet (fail)
        go_wp2
        go_ret
        exact ⟨rfl, _, rfl⟩
    | cons z s =>
      obtain ⟨gs, os, cs, rfl, hcs, hzs, hs'⟩ := hs.cons
      have hqz := bytes_toList z
      generalize (⟨z.toArray⟩ : ByteArray) = q at *
      simp only [List.length_cons] at h2
      have HC := Lib.hid fun n => ih s _ _ (w.drewN n) (by omega) (by omega) (hf'.drewN n) (hs'.drewN n)
      have hr : takes (x :: f) (z :: s) = if (p.toList == [62]) then true else ((p.toList == [42]) || (p.toList == q.toList)) && takes f s := by rw [hpx, hqz]; rfl
      rw [hr]
      generalize takes f s = r at *
      generalize f.length = n at *
      generalize s.length = m at *
      clear hf hf' hs hs' ih hr hpx hqz
      unfold maxLen at h1 h2
      have n0 : ((n : Int) + 1 == 0) = false := by simp; omega
      have m0 : ((m : Int) + 1 == 0) = false := by simp; omega
      cases h0 : (p.toList == [62])
      · cases h1 : (p.toList == [42])
        · cases h2 : (p.toList == q.toList)
          all_goals
            go_enter Tryd.func87, Tryd.ntmps87
            go_wp2_with fail
            first
              | (go_ret; exact ⟨rfl, 0, rfl⟩)
              | (go_quiet ((go_at_call 87; exact Calls.quiet_of (HC.out _)))
                 go_wp2
                 all_goals (go_ret; exact ⟨rfl, _, rfl⟩))
        · all_goals
            go_enter Tryd.func87, Tryd.ntmps87
            go_wp2_with fail
            first
              | (go_ret; exact ⟨rfl, 0, rfl⟩)
              | (go_quiet ((go_at_call 87; exact Calls.quiet_of (HC.out _)))
                 go_wp2
                 all_goals (go_ret; exact ⟨rfl, _, rfl⟩))
      · all_goals
          go_enter Tryd.func87, Tryd.ntmps87
          go_wp2_with fail
          first
            | (go_ret; exact ⟨rfl, 0, rfl⟩)
            | (go_quiet ((go_at_call 87; exact Calls.quiet_of (HC.out _)))
               go_wp2
               all_goals (go_ret; exact ⟨rfl, _, rfl⟩))

set_option maxRecDepth 100000 in
theorem takesS_ref (f s : ByteArray) (w : World) (hf : f.size ≤ 1048576) (hs : s.size ≤ 1048576) :
    Calls Tryd.prog 44 #[.string f, .string s] w fun e w' => e = .returned (.bool (takes (pieces f.data.toList) (pieces s.data.toList))) ∧ Below w.heap.size w w' := by
  have hl1 := pieces_size f hf
  have hl2 := pieces_size s hs
  have H1 := Lib.hid fun w => pieces_any f w hf
  have H2 := Lib.hid fun w => pieces_any s w hs
  have HC := Lib.hid fun vf vs w => takes_ref (pieces f.data.toList) (pieces s.data.toList) vf vs w (by unfold maxLen; omega) (by unfold maxLen; omega)
  clear hl1 hl2
  generalize pieces f.data.toList = lf at *
  generalize pieces s.data.toList = ls at *
  generalize takes lf ls = r at *
  go_enter Tryd.func44, Tryd.ntmps44
  go_wp2_with fail
  refine (H1.out _).mono ?_
  rintro e w1 ⟨v1, rfl, ho1, hb1⟩
  have HS1 := Lib.hid (Strs.own ho1); clear ho1
  go_wp2_with fail
  refine (H2.out _).mono ?_
  rintro e w2 ⟨v2, rfl, ho2, hb2⟩
  have HS2 := Lib.hid (Strs.own ho2); clear ho2
  have hbb := hb1.trans (hb2.mono hb1.size)
  have HS3 := Lib.hid (HS1.out.below hb2)
  go_wp2_with fail
  refine (HC.out _ _ _ HS3.out HS2.out).mono ?_
  rintro e w3 ⟨rfl, n, rfl⟩
  go_wp2
  go_ret
  exact ⟨rfl, below_drewN hbb _⟩

end Go.Proofs.YthhingihjpkipaaDoor.Subj
