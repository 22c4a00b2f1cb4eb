/- Parts of the proof, joined: slices.Insert of one paper where there is no room; in whatever place.; The reference's disk: Append. -/
import Derived.Test.YtbgchhgdlceceaaGreatDoorLogPlaysUptoM6
namespace Go.Proofs.YtbgchhgdlceceaaGreatDoor.Drw
open Go.RowKit Heap Dsk

/-- The new array. -/
theorem grow_list {row N X1 X2 : List Value} {i n G : Nat} (hi : i < n) (hG : n + 1 ≤ G) (hN : N.length = 3) (hr : row.length = G * 3) (hx : row.take (i * 3) = X1) (h1 : X1.length = i * 3) (h2 : X2.length = (n - i) * 3) :
    let c1 := row.take (i * 3) ++ N ++ row.drop (i * 3 + 3)
    let c2 := c1.take ((i + 1) * 3) ++ X2 ++ c1.drop ((i + 1) * 3 + (n - i) * 3)
    c2.take ((n + 1) * 3) = X1 ++ N ++ X2 ∧ c2.length = G * 3 ∧ c1.length = G * 3 := by
  intro c1 c2
  have e1 : c1.take ((i + 1) * 3) = X1 ++ N := by
    show (row.take (i * 3) ++ N ++ row.drop (i * 3 + 3)).take ((i + 1) * 3) = _
    rw [hx]
    have : (X1 ++ N).length = (i + 1) * 3 := by rw [List.length_append, h1, hN]; omega
    rw [← this]; exact List.take_left
  have l1 : c1.length = G * 3 := by
    show (row.take (i * 3) ++ N ++ row.drop (i * 3 + 3)).length = _
    rw [hx]
    simp only [List.length_append, List.length_drop, h1, hN, hr]; omega
  refine ⟨?_, ?_, l1⟩
  · show (c1.take ((i + 1) * 3) ++ X2 ++ c1.drop ((i + 1) * 3 + (n - i) * 3)).take ((n + 1) * 3) = _
    rw [e1]
    have : (X1 ++ N ++ X2).length = (n + 1) * 3 := by simp only [List.length_append, h1, h2, hN]; omega
    rw [← this]; exact List.take_left
  · show (c1.take ((i + 1) * 3) ++ X2 ++ c1.drop ((i + 1) * 3 + (n - i) * 3)).length = _
    rw [e1]
    simp only [List.length_append, List.length_drop, h1, h2, hN, l1]; omega

section
variable {w : World} {n i vb : Nat} {l : List FileP} {q : FileP}

set_option maxHeartbeats 4000000 in
set_option maxRecDepth 100000 in
theorem insert_grow (g off cap : Nat) (hl : l.length = n) (hn : n ≤ 20) (hi : i < n) (hroom : cap < n + 1) (hrow : Row w 101 3 (.slice (some ⟨g, off, none⟩) n cap) n (plsV l)) (hvb : w.heap[vb]? = some (.cells #[.int .i64 q.n, .int .i64 (q.sure : Nat), .string ⟨q.text.toArray⟩] 101 (0, 0))) :
    Calls Tryz.prog 170 #[.slice (some ⟨g, off, none⟩) n cap, .int .i64 i, .slice (some ⟨vb, 0, none⟩) 1 1] w fun e w' => ∃ v', e = .returned v' ∧ Row w' 101 3 v' (n + 1) (plsV (l.take i ++ q :: l.drop i)) ∧ Heap.Touch (own (.slice (some ⟨g, off, none⟩) n cap)) w w' ∧ ∀ k, own v' k → own (.slice (some ⟨g, off, none⟩) n cap) k ∨ w.heap.size ≤ k := by
  obtain ⟨hncap, hcapm⟩ := hrow.cap_le
  have hX1 : ((plsV l).take (i * 3)).length = i * 3 := by rw [List.length_take, plsV_len]; omega
  have hX2 : ((plsV l).drop (i * 3)).length = (n - i) * 3 := by rw [List.length_drop, plsV_len, Nat.sub_mul]; omega
  have hones := plsV_one l
  have hone : ∀ u ∈ cells q, u.oneCell' = true := fun u hu => by
    simp only [cells, List.mem_cons, List.not_mem_nil, or_false] at hu
    rcases hu with rfl | rfl | rfl <;> rfl
  have hcellR : ∀ j v, (plsV l)[j]? = some v → w.cell? ⟨g, off + j, none⟩ = some v := fun j v hj => by
    have hjl := (List.getElem?_eq_some_iff.1 hj).1
    rw [plsV_len] at hjl
    exact (hrow.cell j (by omega)).1.trans hj
  obtain ⟨i0, hi0, hz0, hzs, hzb⟩ := info_parts info_paper
  have hglt : g < w.heap.size := by
    have := hrow.lt g (by simp [own, Value.ownBlock]); exact this
  have hvlt : vb < w.heap.size := heap_lt hvb
  have hkk : (n : Int) + 1 - (i : Int) = ((n + 1 - i : Nat) : Int) := by omega
  have hik : i + (n + 1 - i) = n + 1 := by omega
  have hold : (Builtin.firstCells i0.size i (.slice (some ⟨g, off, none⟩) i cap)).run Tryz.prog w.drew = .ok ((plsV l).take (i * 3)).toArray w.drew := by
    rw [hzs]
    exact run_firstCells_some w.drew 3 i ⟨g, off, none⟩ i cap _ hX1 (fun j v hj => by
      rw [Addr.add_lit]
      rw [List.getElem?_take] at hj
      split at hj
      · exact hcellR j v hj
      · cases hj)
  obtain ⟨G, hG⟩ : ∃ G, G = grownCap w (n + 1) cap 101 := ⟨_, rfl⟩
  obtain ⟨ROW, hROW⟩ : ∃ ROW : Array Value, ROW = ((plsV l).take (i * 3)).toArray ++ Builtin.zeroCells (Value.agg #[.int .i64 0, .int .i64 0, .string ⟨#[]⟩]).cells (n + 1 - i) ++ Builtin.zeroCells (Value.agg #[.int .i64 0, .int .i64 0, .string ⟨#[]⟩]).cells (G - (n + 1)) := ⟨_, rfl⟩
  obtain ⟨W1, hW1⟩ : ∃ W1, W1 = w.drew.alloc (.cells ROW 101) := ⟨_, rfl⟩
  have hrz : ∀ ty, (Builtin.append_ #[82, 3] ty #[.slice (some ⟨g, off, none⟩) i cap, .int .i64 ((n : Int) + 1 - (i : Int))]).run Tryz.prog w = .ok (.slice (some ⟨w.heap.size, 0, none⟩) (n + 1) G) W1 := fun ty => by
    have h := Lib.run_append_grow_zeros w 82 3 ty 101 i0 _ .i64 .i64 Tryz.underlying82 Tryz.underlying3 hi0 hz0 (some ⟨g, off, none⟩) i cap _ hold (n + 1 - i) (by omega) (by omega) (by omega) (by omega) (by rw [hzb]; omega) (by rw [hzb, hik]; exact growslice_fits hroom (by omega))
    rw [hik] at h
    rw [hkk, hW1, hROW, hG]
    exact h
  have hGn : n + 1 ≤ G := by rw [hG]; exact grownCap_ge w _ _ _
  have hGm : G ≤ maxLen := by rw [hG]; exact grownCap_le_maxLen w (n + 1) cap 101 (by unfold maxLen; omega)
  have hRl : ROW.toList.length = G * 3 := by
    rw [hROW]
    simp [Builtin.zeroCells, Value.cells, plsV_len]
    omega
  have hRt : ROW.toList.take (i * 3) = (plsV l).take (i * 3) := by
    rw [hROW]
    simp only [Array.toList_append]
    rw [List.append_assoc, List.take_append, hX1, Nat.sub_self, List.take_zero, List.append_nil, List.take_of_length_le (by rw [hX1]; omega)]
  have hheap : W1.heap = w.heap.push (.cells ROW 101) := by rw [hW1]; rfl
  have hN1 : W1.heap[w.heap.size]? = some (.cells ROW 101 (0, 0)) := by rw [hheap, Array.getElem?_push_size]
  have hold1 : ∀ k, k < w.heap.size → W1.heap[k]? = w.heap[k]? := fun k hk => by rw [hheap, Array.getElem?_push_lt hk, Array.getElem?_eq_getElem hk]
  have ht1 : Heap.Touch (fun _ => False) w W1 := by rw [hW1]; exact ((Heap.Touch.refl _ w).drew).alloc _
  have hlist := grow_list (N := cells q) hi hGn rfl hRl hRt hX1 hX2
  obtain ⟨C1, hC1⟩ : ∃ C1 : Array Value, C1 = (ROW.toList.take (i * 3) ++ cells q ++ ROW.toList.drop (i * 3 + 3)).toArray := ⟨_, rfl⟩
  obtain ⟨C2, hC2⟩ : ∃ C2 : Array Value, C2 = (C1.toList.take ((i + 1) * 3) ++ (plsV l).drop (i * 3) ++ C1.toList.drop ((i + 1) * 3 + (n - i) * 3)).toArray := ⟨_, rfl⟩
  have hc1s : C1.size = G * 3 := by rw [hC1, List.size_toArray]; exact hlist.2.2
  have hc2 : C2.toList.take ((n + 1) * 3) = (plsV l).take (i * 3) ++ cells q ++ (plsV l).drop (i * 3) ∧ C2.size = G * 3 := by
    rw [hC2, hC1]
    exact ⟨hlist.1, by rw [List.size_toArray]; exact hlist.2.1⟩
  have hcpA : ∀ ty dc, (Builtin.copy_ #[82, 82] ty #[.slice (some ⟨w.heap.size, i * 3, none⟩) (n + 1 - i) dc, .slice (some ⟨vb, 0, none⟩) 1 1]).run Tryz.prog W1 = .ok (goInt 1) (W1.setRow w.heap.size C1) := fun ty dc => by
    have h := run_copyN W1 82 82 ty 101 3 w.heap.size (i * 3) (n + 1 - i) dc ⟨vb, 0, none⟩ 1 1 ROW 101 (cells q) 1 Tryz.underlying82 (by kernel_rfl) hN1 (by simp only [Nat.min_def]; split <;> omega) rfl
      (fun j v hj => by
        rw [Addr.add_lit, cell_of_row _ vb (0 + j) _ _ _ ((hold1 vb hvlt).trans hvb), Nat.zero_add]
        rcases j with _ | _ | _ | j
        · simpa [cells] using hj
        · simpa [cells] using hj
        · simpa [cells] using hj
        · simp [cells] at hj) (by rw [← Array.length_toList, hRl]; simp [cells]; omega) hone
    rw [hC1]
    exact h
  have hg1 : (W1.setRow w.heap.size C1).heap[w.heap.size]? = some (.cells C1 101 (0, 0)) := setRow_heap W1 _ ROW C1 _ (0, 0) hN1
  have hcpB : ∀ ty dc sc, (Builtin.copy_ #[82, 82] ty #[.slice (some ⟨w.heap.size, (i + 1) * 3, none⟩) (n - i) dc, .slice (some ⟨g, off + i * 3, none⟩) (n - i) sc]).run Tryz.prog (W1.setRow w.heap.size C1).drew = .ok (goInt ((n - i : Nat) : Int)) ((W1.setRow w.heap.size C1).drew.setRow w.heap.size C2) := fun ty dc sc => by
    have h := run_copyN (W1.setRow w.heap.size C1).drew 82 82 ty 101 3 w.heap.size ((i + 1) * 3) (n - i) dc ⟨g, off + i * 3, none⟩ (n - i) sc C1 101 ((plsV l).drop (i * 3)) (n - i) Tryz.underlying82 (by kernel_rfl) hg1 (by simp) hX2
      (fun j v hj => by
        rw [List.getElem?_drop] at hj
        rw [Addr.add_lit]
        have h9 := hcellR (i * 3 + j) v hj
        rw [← Nat.add_assoc] at h9
        show (W1.setRow w.heap.size C1).cell? _ = _
        rw [World.cell?_of_block (a := ⟨g, off + i * 3 + j, none⟩) ((setRow_other W1 w.heap.size g C1 (by omega)).trans (hold1 g hglt))]
        exact h9) (by rw [hX2, hc1s]; omega) (fun v hv => hones v (List.mem_of_mem_drop hv))
    rw [hX2] at h
    rw [hC2]
    exact h
  have hend : Row ((W1.setRow w.heap.size C1).drew.setRow w.heap.size C2) 101 3 (.slice (some ⟨w.heap.size, 0, none⟩) (n + 1) G) (n + 1) (plsV (l.take i ++ q :: l.drop i)) ∧ Heap.Touch (own (.slice (some ⟨g, off, none⟩) n cap)) w ((W1.setRow w.heap.size C1).drew.setRow w.heap.size C2) := by
    refine ⟨⟨by rw [insertV]; simp only [List.length_append, hX1, hX2]; simp [cells]; omega, .inr ⟨w.heap.size, 0, G, C2, rfl, setRow_heap _ _ C1 C2 _ (0, 0) hg1, hGn, hGm, by rw [hc2.2]; omega, by rw [insertV, List.drop_zero]; exact hc2.1⟩⟩, ?_⟩
    have h5 : Heap.Touch (fun k => k = w.heap.size) w ((W1.setRow w.heap.size C1).drew.setRow w.heap.size C2) := touch_setRow (F := fun k => k = w.heap.size) (touch_setRow (F := fun k => k = w.heap.size) (ht1.mono fun _ _ h => h.elim) rfl C1).drew rfl C2
    exact h5.mono fun k hk e => by omega
  have HEND := Lib.hid hend
  have hz2 : ¬ ((i : Int) = (n : Int)) := by omega
  have hw1 : IntKind.i64.wrap ((i : Int) + 1) = (i : Int) + 1 := IntWalk.i64_in _ (by omega)
  have hw2 : IntKind.i64.wrap ((n : Int) + 1) = (n : Int) + 1 := IntWalk.i64_in _ (by omega)
  have hw3 : IntKind.i64.wrap ((n : Int) + 1 - (i : Int)) = (n : Int) + 1 - (i : Int) := IntWalk.i64_in _ (by omega)
  have hb1 : (0 : Int) ≤ (i : Int) + 1 := by omega
  have hin : i ≤ n := by omega
  have htn : ((i : Int) + 1).toNat = i + 1 := by omega
  have hb3 : (i : Int) ≤ (n : Int) + 1 := by omega
  have hb3' : (i : Int) + 1 ≤ (n : Int) + 1 := by omega
  have hb4 : ¬ (cap = i) := by omega
  have hb5 : (cap : Int) < (n : Int) + 1 := by omega
  have hb6 : ¬ (G = i) := by omega
  have hb7 : ¬ (G = i + 1) := by omega
  clear hX1 hX2 hones hone hlist hC1 hC2 hc1s hc2 hg1 hend hrow hvb hl hold hROW hW1 hG hRl hRt hheap hN1 hold1 ht1 hkk hik hcellR
  go_enter Tryz.func170, Tryz.ntmps170
  go_wp2_with (first
    | (at_builtin; refine Lib.wpList_append_run _ rfl _ _ _ _ rfl _ _ rfl rfl _ _ (hrz _) ?_)
    | (at_builtin; refine wpList_copy_runI _ rfl _ _ 82 82 rfl _ _ rfl rfl (hcpA _ _) ?_))
  go_region_law ((refine step_copy_runI rfl _ _ 82 82 rfl _ _ (by simp [Act.eval, Act.put]) (by simp [Act.eval, Act.put]) (hcpB _ _ _) ?_))
  go_wp2
  go_ret
  exact ⟨_, rfl, HEND.out.1, HEND.out.2, fun k hk => .inr (by simp [own, Value.ownBlock] at hk; omega)⟩

/-- In whatever place. -/
theorem insert_any (v : Value) (hl : l.length = n) (hn : n ≤ 20) (hi : i ≤ n) (hrow : Row w 101 3 v n (plsV l)) (hvb : w.heap[vb]? = some (.cells #[.int .i64 q.n, .int .i64 (q.sure : Nat), .string ⟨q.text.toArray⟩] 101 (0, 0))) (hne : ¬ own v vb) :
    Calls Tryz.prog 170 #[v, .int .i64 i, .slice (some ⟨vb, 0, none⟩) 1 1] w fun e w' => ∃ v', e = .returned v' ∧ Row w' 101 3 v' (n + 1) (plsV (l.take i ++ q :: l.drop i)) ∧ Heap.Touch (own v) w w' ∧ ∀ k, own v' k → own v k ∨ w.heap.size ≤ k := by
  by_cases he : i = n
  · subst he
    have := insert_end v hl hn hrow hvb
    rw [show l.take i ++ q :: l.drop i = l ++ [q] from by rw [List.take_of_length_le (by omega), List.drop_of_length_le (by omega)]]
    exact this
  · rcases hrow.2 with ⟨rfl, h0⟩ | ⟨g, off, cap, cur, rfl, _⟩
    · omega
    · by_cases hr : n + 1 ≤ cap
      · exact insert_room g off cap hl hn (by omega) hr hrow hvb (fun e => hne (by rw [e]; simp [own, Value.ownBlock]))
      · exact insert_grow g off cap hl hn (by omega) (by omega) hrow hvb
end
end Go.Proofs.YtbgchhgdlceceaaGreatDoor.Drw

namespace Go.Proofs.YtbgchhgdlceceaaGreatDoor.Drw
open Go.RowKit Heap Dsk

theorem below_drewN (w : World) (m : Nat) : Below w.heap.size w (w.drewN m) := ⟨rfl, rfl, rfl, Nat.le_refl _, fun _ _ => rfl⟩

/-- Where a new number goes. -/
def slotF : List FileP → Int → Nat
  | [], _ => 0
  | p :: r, n => if p.n < n then slotF r n + 1 else 0

theorem slotF_le : ∀ (A : List FileP) (n : Int), slotF A n ≤ A.length
  | [], _ => Nat.le_refl _
  | p :: r, n => by
    unfold slotF
    split
    · have := slotF_le r n; simp only [List.length_cons]; omega
    · exact Nat.zero_le _

theorem slotF_at : ∀ {A : List FileP} {n : Int} {k : Nat}, k < slotF A n → ∃ p, A[k]? = some p ∧ p.n < n
  | [], n, k, h => by simp [slotF] at h
  | p :: r, n, 0, h => by
    unfold slotF at h
    split at h
    · rename_i e; exact ⟨p, rfl, e⟩
    · omega
  | p :: r, n, k + 1, h => by
    unfold slotF at h
    split at h
    · obtain ⟨q, h1, h2⟩ := slotF_at (A := r) (n := n) (k := k) (by omega)
      exact ⟨q, by simpa using h1, h2⟩
    · omega

theorem slotF_stop : ∀ {A : List FileP} {n : Int} {p : FileP}, A[slotF A n]? = some p → ¬ p.n < n
  | [], n, p, h => by simp [slotF] at h
  | a :: r, n, p, h => by
    unfold slotF at h
    split at h
    · exact slotF_stop (A := r) (by simpa using h)
    · rename_i e
      simp only [List.getElem?_cons_zero, Option.some.injEq] at h
      rw [← h]; exact e

theorem insF_slot : ∀ {A : List FileP} {q : FileP}, (∀ p ∈ A, p.n ≠ q.n) → insF A q = A.take (slotF A q.n) ++ q :: A.drop (slotF A q.n)
  | [], q, _ => rfl
  | a :: r, q, h => by
    have ha := h a (by simp)
    have ih := insF_slot (A := r) (q := q) fun p hp => h p (List.mem_cons_of_mem _ hp)
    unfold insF slotF
    by_cases e : q.n < a.n
    · rw [if_pos e, if_neg (by omega)]; rfl
    · rw [if_neg e, if_pos (by omega), ih]; rfl

section
variable {W w : World} {G : Nat → Prop} {E : Nat} {room : Int} {A : List FileP}

theorem DrawAt.usedN (h : DrawAt W G E room A w) (m : Nat) : Calls Tryz.prog 113 #[.pointer (some ⟨E, 0, none⟩)] (w.drewN m) fun e w' => e = .returned (.int .i64 (total A : Nat)) ∧ w' = w.drewN m :=
  (used_drw (h.next (below_drewN w m))).mono fun _ _ ⟨a, b⟩ => ⟨a, b.symm⟩

theorem DrawAt.grow (h : DrawAt W G E room A w) : DrawAt W (Dsk.Grow G w) E room A w := h.mono (fun _ hk => .inl hk) fun k hk => by
  rcases hk with hk | hk
  · exact h.newG k hk
  · exact Nat.le_trans h.below.size hk

set_option maxHeartbeats 2000000 in
set_option maxRecDepth 100000 in
theorem append_drw_hit (h : DrawAt W G E room A w) (n : Int) (s : ByteArray) (hs : s.size ≤ 4611686018427387904) (k : Nat) (p : FileP) (e1 : idxF A n = (k : Int)) (e2 : A[k]? = some p) (e3 : p.n = n) (e4 : getF A n = some p) : Calls Tryz.prog 101 #[.pointer (some ⟨E, 0, none⟩), .int .i64 n, .string s] w fun e w' => e = .returned (.int .i64 ((appD room A n s.data.toList).2 : Nat)) ∧ DrawAt W G E room (appD room A n s.data.toList).1 w' ∧ Heap.Touch G w w' := by
  have HA := Lib.hid (at_any h n)
  have HH := Lib.hid h
  have hnum := h.right.num p (getF_n e4).2
  rw [e3] at hnum
  have HIN := Lib.hid (in_yes n 0 1099511627776 w hnum)
  have hkA := (List.getElem?_eq_some_iff.1 e2).1
  have hfew := h.right.few; have hfit := h.right.fits; have hsm := h.right.small
  have hsl : s.data.toList.length = s.size := rfl
  have hkz : decide ((k : Int) < 0) = false := decide_eq_false (by omega)
  have w0 : IntKind.i64.wrap ((s.size : Int) + (total A : Int)) = (s.size : Int) + (total A : Int) := IntWalk.i64_in _ (by omega)
  obtain ⟨T, hT, hTs, hTl⟩ := text_of p.text
  have hTlen := h.right.len (getF_n e4).2
  rw [← hTs] at hTlen
  have HP := Lib.hid e2; have HE1 := Lib.hid e1; have HPN := Lib.hid e3; have HT := Lib.hid hT; have HTL := Lib.hid hTl
  rw [e1] at HA
  by_cases hfull : room - (total A : Int) < s.size
  · have hr : appD room A n s.data.toList = (A, 8) := by unfold appD; rw [if_neg (by omega), if_pos (by rw [hsl]; exact hfull)]
    rw [hr]
    have hd : decide (room < (s.size : Int) + (total A : Int)) = true := decide_eq_true (by omega)
    clear h e1 e2 e3 e4 hr hT hTs hTl hsl hnum
    go_enter Tryz.func101, Tryz.ntmps101
    go_wp2_with fail
    refine HIN.out.mono ?_
    rintro e w' ⟨rfl, rfl⟩
    go_wp2_with fail
    refine HA.out.mono ?_
    rintro e w' ⟨rfl, hb⟩
    have HD := Lib.hid (HH.out.next hb)
    have HB := Lib.hid hb
    obtain ⟨v, h1, h2, h3⟩ := HD.out.mem
    obtain ⟨c0, c1, cf⟩ := twoC h1
    have HU := Lib.hid (HD.out.usedN)
    clear hb h1 h2 h3 HA HIN
    go_upto_region 4 with fail
    go_quiet ((go_at_call 113; exact Calls.quiet_of_same (HU.out _)))
    go_wp2
    go_ret
    exact ⟨rfl, HD.out.next (below_drewN _ _), (Heap.Touch.ofBelow HB.out).drewN _⟩
  · have hr : appD room A n s.data.toList = (setF A ⟨n, p.text ++ s.data.toList, p.sure⟩, 0) := by unfold appD; rw [if_neg (by omega), if_neg (by rw [hsl]; exact hfull), e4]
    rw [hr]
    have hd : decide (room < (s.size : Int) + (total A : Int)) = false := decide_eq_false (by omega)
    have htl : (p.text ++ s.data.toList).length = T.size + s.size := by rw [List.length_append, hsl, hTs]
    have hrt : RightD room (setF A ⟨n, p.text ++ s.data.toList, p.sure⟩) := h.right.set e4 _ rfl (by have := h.right.sure p (getF_n e4).2; simp only [htl]; omega) (by simp only [htl]; omega)
    have hcat : T.size + s.size ≤ 131072 := by omega
    have HRT := Lib.hid hrt
    clear h e1 e2 e3 e4 hr hT hTs hTl hsl hnum htl hrt
    go_enter Tryz.func101, Tryz.ntmps101
    go_wp2_with fail
    refine HIN.out.mono ?_
    rintro e w' ⟨rfl, rfl⟩
    go_wp2_with fail
    refine HA.out.mono ?_
    rintro e w' ⟨rfl, hb⟩
    have HD := Lib.hid (HH.out.next hb)
    have HB := Lib.hid hb
    obtain ⟨v, h1, h2, h3⟩ := HD.out.mem
    obtain ⟨c0, c1, cf⟩ := twoC h1
    have HU := Lib.hid (HD.out.usedN)
    have hrow := h2.2
    rcases hrow with ⟨hv, h0⟩ | ⟨g, off, cap, cur, hv, _⟩
    · omega
    subst hv
    obtain ⟨d0, d1, d2⟩ := cells_pull h2 k p HP.out hkA
    obtain ⟨f0, f1, f2⟩ := frozen_pull h2 k hkA
    rw [← HT.out] at d2
    have hgG : G g := h3 g (by simp [own, Value.ownBlock])
    have hneE : E ≠ g := fun e => ne_row h1 h2 (by rw [e]; simp [own, Value.ownBlock])
    have HEND := Lib.hid (fun m => (by
      have ht : Heap.Touch G w' ((w'.drewN m).setCell ⟨g, off + k * 3 + 2, none⟩ (.string (T ++ s))) := ((Heap.Touch.refl _ w').drewN m).setCell (.inl hgG) _
      have hset := Row.set (w := w'.drewN m) (h2.kept (w' := w'.drewN m) fun _ _ _ => rfl) (k * 3 + 2) (by omega) (.string (T ++ s))
      rw [plsV_set (q := ⟨n, p.text ++ s.data.toList, p.sure⟩) HP.out (by omega) (by simp only [cells]; rw [app_text HTL.out rfl, HPN.out]; rfl), ← Nat.add_assoc] at hset
      refine ⟨HD.out.put HE1.out HP.out rfl HRT.out ?_ hset h3 ht, (Heap.Touch.ofBelow hb).after ht⟩
      rw [heap_setCell_other _ _ _ _ hneE]; exact h1 : DrawAt W G E room (setF A ⟨n, p.text ++ s.data.toList, p.sure⟩) ((w'.drewN m).setCell ⟨g, off + k * 3 + 2, none⟩ (.string (T ++ s))) ∧ Heap.Touch G w ((w'.drewN m).setCell ⟨g, off + k * 3 + 2, none⟩ (.string (T ++ s)))))
    clear hb h1 h2 h3 HA HIN hgG
    go_upto_region 4 with fail
    go_quiet ((go_at_call 113; exact Calls.quiet_of_same (HU.out _)))
    go_wp2
    go_ret
    exact ⟨rfl, HEND.out _⟩
end
end Go.Proofs.YtbgchhgdlceceaaGreatDoor.Drw
