/- Parts of the proof, joined: The reference's disk: Append of a new file.; Both disks side by side: rilllaw.same.; The reference's vault in memory: its drawer, its chest, each of blocks of its own. -/
import Derived.Test.YtidacfhdhdnidaaGreatDoorVaultPlaysUptoM41
namespace Go.Proofs.YtidacfhdhdnidaaGreatDoor.Drw
open Go.RowKit Heap Dsk

section
variable {W w : World} {G : Nat → Prop} {E : Nat} {room : Int} {A : List FileP}

set_option maxHeartbeats 1000000 in
set_option maxRecDepth 100000 in
theorem append_drw_bad (h : DrawAt W G E room A w) (n : Int) (s : ByteArray) (hb : ¬ (0 ≤ n ∧ n ≤ 1099511627776)) : Calls Tryz.prog 101 #[.pointer (some ⟨E, 0, none⟩), .int .i64 n, .string s] w fun e w' => e = .returned (.int .i64 ((appD room A n s.data.toList).2 : Nat)) ∧ DrawAt W (Dsk.Grow G w) E room (appD room A n s.data.toList).1 w' ∧ Heap.Touch G w w' := by
  have hr : appD room A n s.data.toList = (A, 1) := by unfold appD; rw [if_pos (by omega)]
  rw [hr]
  have HIN := Lib.hid (in_no n 0 1099511627776 w hb)
  have HH := Lib.hid h
  clear h hr hb
  go_enter Tryz.func101, Tryz.ntmps101
  go_wp2_with fail
  refine HIN.out.mono ?_
  rintro e w' ⟨rfl, rfl⟩
  go_wp2
  go_ret
  exact ⟨rfl, HH.out.grow, Heap.Touch.refl _ _⟩

set_option maxHeartbeats 2000000 in
set_option maxRecDepth 100000 in
theorem append_drw_full (h : DrawAt W G E room A w) (n : Int) (s : ByteArray) (hs : s.size ≤ 4611686018427387904) (hnum : 0 ≤ n ∧ n ≤ 1099511627776) (e1 : idxF A n = -1) (e2 : getF A n = none) (hf : room - (total A : Int) < s.size ∨ A.length = 20) : Calls Tryz.prog 101 #[.pointer (some ⟨E, 0, none⟩), .int .i64 n, .string s] w fun e w' => e = .returned (.int .i64 ((appD room A n s.data.toList).2 : Nat)) ∧ DrawAt W (Dsk.Grow G w) E room (appD room A n s.data.toList).1 w' ∧ Heap.Touch G w w' := by
  have hsl : s.data.toList.length = s.size := rfl
  have hr : appD room A n s.data.toList = (A, 8) := by
    unfold appD
    rw [if_neg (by omega)]
    by_cases hfull : room - (total A : Int) < s.size
    · rw [if_pos (by rw [hsl]; exact hfull)]
    · rw [if_neg (by rw [hsl]; exact hfull), e2]
      simp only
      rw [if_pos (by omega)]
  rw [hr]
  have HA := Lib.hid (at_any h n)
  rw [e1] at HA
  have HIN := Lib.hid (in_yes n 0 1099511627776 w hnum)
  have HH := Lib.hid h
  have hfit := h.right.fits; have hsm := h.right.small; have hfew := h.right.few
  have w0 : IntKind.i64.wrap ((s.size : Int) + (total A : Int)) = (s.size : Int) + (total A : Int) := IntWalk.i64_in _ (by omega)
  by_cases hfull : room - (total A : Int) < s.size
  · have hd : decide (room < (s.size : Int) + (total A : Int)) = true := decide_eq_true (by omega)
    clear h hr hf hnum e1 e2 hsl
    go_enter Tryz.func101, Tryz.ntmps101
    go_wp2_with fail
    refine HIN.out.mono ?_
    rintro e w' ⟨rfl, rfl⟩
    go_wp2_with fail
    refine HA.out.mono ?_
    rintro e w' ⟨rfl, hb⟩
    have HD := Lib.hid (HH.out.next hb)
    have HB := Lib.hid hb
    obtain ⟨v, h1, h2, h3⟩ := HD.out.mem
    obtain ⟨c0, c1, cf⟩ := twoC h1
    have HU := Lib.hid (HD.out.usedN)
    clear hb h1 h2 h3 HA HIN
    go_upto_region 4 with fail
    go_quiet ((go_at_call 66; exact Calls.quiet_of_same (HU.out _)))
    go_wp2
    go_ret
    exact ⟨rfl, (HH.out.grow.next HB.out).next (below_drewN _ _), (Heap.Touch.ofBelow HB.out).drewN _⟩
  · have hd : decide (room < (s.size : Int) + (total A : Int)) = false := decide_eq_false (by omega)
    have h20 : A.length = 20 := by omega
    have HL := Lib.hid h20
    clear h hr hf hnum e1 e2 hsl h20 hfew
    go_enter Tryz.func101, Tryz.ntmps101
    go_wp2_with fail
    refine HIN.out.mono ?_
    rintro e w' ⟨rfl, rfl⟩
    go_wp2_with fail
    refine HA.out.mono ?_
    rintro e w' ⟨rfl, hb⟩
    have HD := Lib.hid (HH.out.next hb)
    have HB := Lib.hid hb
    obtain ⟨v, h1, h2, h3⟩ := HD.out.mem
    rw [HL.out] at h2
    obtain ⟨a, c, hv⟩ := h2.slice
    subst hv
    obtain ⟨c0, c1, cf⟩ := twoC h1
    have HU := Lib.hid (HD.out.usedN)
    clear hb h1 h2 h3 HA HIN
    go_upto_region 4 with fail
    go_quiet ((go_at_call 66; exact Calls.quiet_of_same (HU.out _)))
    go_wp2
    go_ret
    exact ⟨rfl, (HH.out.grow.next HB.out).next (below_drewN _ _), (Heap.Touch.ofBelow HB.out).drewN _⟩

set_option maxHeartbeats 2000000 in
set_option maxRecDepth 100000 in
theorem append_drw_new (h : DrawAt W G E room A w) (n : Int) (s : ByteArray) (hnum : 0 ≤ n ∧ n ≤ 1099511627776) (e1 : idxF A n = -1) (e2 : getF A n = none) (hf : ¬ room - (total A : Int) < s.size) (h20 : A.length ≠ 20) : Calls Tryz.prog 101 #[.pointer (some ⟨E, 0, none⟩), .int .i64 n, .string s] w fun e w' => e = .returned (.int .i64 ((appD room A n s.data.toList).2 : Nat)) ∧ DrawAt W (Dsk.Grow G w) E room (appD room A n s.data.toList).1 w' ∧ Heap.Touch G w w' := by
  have hsl : s.data.toList.length = s.size := rfl
  have hr : appD room A n s.data.toList = (insF A ⟨n, s.data.toList, 0⟩, 0) := by
    unfold appD
    rw [if_neg (by omega), if_neg (by rw [hsl]; exact hf), e2]
    simp only
    rw [if_neg h20]
  rw [hr]
  have HA := Lib.hid (at_any h n)
  rw [e1] at HA
  have HIN := Lib.hid (in_yes n 0 1099511627776 w hnum)
  have HH := Lib.hid h
  have hfit := h.right.fits; have hsm := h.right.small; have hfew := h.right.few
  have hssz : s.size ≤ 65536 := by omega
  have w0 : IntKind.i64.wrap ((s.size : Int) + (total A : Int)) = (s.size : Int) + (total A : Int) := IntWalk.i64_in _ (by omega)
  have hd : decide (room < (s.size : Int) + (total A : Int)) = false := decide_eq_false (by omega)
  have HRT := Lib.hid (h.right.ins e2 hnum.1 hnum.2 h20 (by rw [hsl]; omega))
  have hslot := slotF_le A n
  obtain ⟨K, hK⟩ : ∃ K, slotF A n = K := ⟨_, rfl⟩
  have hins1 := insF_slot (q := ⟨n, s.data.toList, 0⟩) (getF_none e2)
  simp only at hins1
  rw [hK] at hslot hins1
  have HINS := Lib.hid hins1
  have HAT := Lib.hid (fun (k : Nat) (hk : k < K) => (slotF_at (A := A) (n := n) (by rw [hK]; exact hk) : ∃ p, A[k]? = some p ∧ p.n < n))
  have HST := Lib.hid (fun (p : FileP) (hp : A[K]? = some p) => (slotF_stop (A := A) (n := n) (by rw [hK]; exact hp) : ¬ p.n < n))
  obtain ⟨L, hL⟩ : ∃ L, A.length = L := ⟨_, rfl⟩
  rw [hL] at hslot hfew h20
  have HL := Lib.hid hL
  have hd20 : ((L : Int) == 20) = false := by simp; omega
  clear h hr hf hnum e1 e2 hsl hL hK hins1
  go_enter Tryz.func101, Tryz.ntmps101
  go_wp2_with fail
  refine HIN.out.mono ?_
  rintro e w' ⟨rfl, rfl⟩
  go_wp2_with fail
  refine HA.out.mono ?_
  rintro e w' ⟨rfl, hb⟩
  have HD := Lib.hid (HH.out.next hb)
  have HB := Lib.hid hb
  obtain ⟨v, h1, h2, h3⟩ := HD.out.mem
  rw [HL.out] at h2
  obtain ⟨a, c, hv⟩ := h2.slice
  subst hv
  obtain ⟨c0, c1, cf⟩ := twoC h1
  have HU := Lib.hid (HD.out.usedN)
  have H1 := Lib.hid h1; have H2 := Lib.hid h2; have H3 := Lib.hid h3
  clear hb h1 h2 h3 HA HIN
  go_upto_region 4 with fail
  go_quiet ((go_at_call 66; exact Calls.quiet_of_same (HU.out _)))
  clear HU
  go_wp2_with fail
  go_loopw [7] (fun i wr => ∃ k : Nat, k ≤ K ∧ i = .int .i64 k ∧ Hid (Below w'.heap.size w' wr)) (fun i _ => K - (intOf i).toNat)
  case atStart => exact ⟨0, Nat.zero_le _, rfl, Lib.hid (below_drewN _ _)⟩
  case round =>
    obtain ⟨k, hk, rfl, HW⟩ := hrel
    have hE : wr.heap[E]? = some (.cells #[.int .i64 room, .slice a L c] 84 (0, 0)) := (HW.out.block E (heap_lt H1.out)).trans H1.out
    have hrr : Row wr 101 3 (.slice a L c) L (plsV A) := H2.out.kept fun k _ hk => HW.out.block k hk
    clear c0 c1 cf
    obtain ⟨c0, c1, cf⟩ := twoC hE
    by_cases hlt : k < K
    · obtain ⟨p, hp, hpn⟩ := HAT.out k hlt
      have hkL : k < L := by omega
      have hkz : (k : Int) < L := by omega
      have hrow := hrr.2
      rcases hrow with ⟨hv, h0⟩ | ⟨g, off, cap, cur, hv, _⟩
      · omega
      simp only [Value.slice.injEq, true_and] at hv
      obtain ⟨rfl, rfl⟩ := hv
      obtain ⟨d0, d1, d2⟩ := cells_pull hrr k p hp hkL
      clear hE hrr hp d1 d2
      go_wp2_with fail
      exact ⟨⟨k + 1, by omega, by go_num, HW⟩, by simp [intOf]; omega⟩
    · obtain rfl : k = K := by omega
      by_cases hKL : k < L
      · have hkz : (k : Int) < L := by omega
        have hkA : k < A.length := by rw [HL.out]; exact hKL
        have hp := List.getElem?_eq_getElem hkA
        have hpn := HST.out _ hp
        generalize A[k] = p at hp hpn
        have hrow := hrr.2
        rcases hrow with ⟨hv, h0⟩ | ⟨g, off, cap, cur, hv, _⟩
        · omega
        simp only [Value.slice.injEq, true_and] at hv
        obtain ⟨rfl, rfl⟩ := hv
        obtain ⟨d0, d1, d2⟩ := cells_pull hrr k p hp hKL
        clear hp d1 d2
        have hwa : ∃ wa, wa = wr.alloc (.cells #[.int .i64 n, .int .i64 0, .string ⟨#[]⟩] 101) := ⟨_, rfl⟩
        obtain ⟨wa, hwa⟩ := hwa
        have hba : Below wr.heap.size wr wa := by rw [hwa]; exact (Below.refl _ _).alloc (Nat.le_refl _) _
        have hvb : wa.heap[wr.heap.size]? = some (.cells #[.int .i64 n, .int .i64 ((0 : Nat) : Int), .string ⟨([] : List UInt8).toArray⟩] 101 (0, 0)) := by rw [hwa]; exact heap_alloc_new wr _
        have hra : Row wa 101 3 (.slice (some ⟨g, off, none⟩) L c) L (plsV A) := hrr.kept fun k _ hk => hba.block k hk
        have hne : ¬ own (.slice (some ⟨g, off, none⟩) L c) wr.heap.size := fun ho => by have := hrr.lt _ ho; omega
        have HI := Lib.hid (insert_any (q := ⟨n, [], 0⟩) (vb := wr.heap.size) (i := k) (.slice (some ⟨g, off, none⟩) L c) HL.out hfew hslot hra hvb hne)
        have HFIN := Lib.hid (fun w3 v' (r3 : Row w3 101 3 v' (L + 1) (plsV (A.take k ++ ⟨n, [], 0⟩ :: A.drop k))) (t3 : Heap.Touch (own (.slice (some ⟨g, off, none⟩) L c)) wa w3) (o3 : ∀ k, own v' k → own (.slice (some ⟨g, off, none⟩) L c) k ∨ wa.heap.size ≤ k) => (by
          have hEw : w3.heap[E]? = some (.cells #[.int .i64 room, .slice (some ⟨g, off, none⟩) L c] 84 (0, 0)) := by
            rw [t3.block E (by have := heap_lt hE; have := hba.size; omega) (ne_row hE hrr)]
            exact (hba.block E (heap_lt hE)).trans hE
          have hbw : Below w'.heap.size w' wa := HW.out.trans (hba.mono HW.out.size)
          have hoG : ∀ k, own v' k → Dsk.Grow G w k := fun k hk => by
            rcases o3 k hk with h | h
            · exact .inl (H3.out k h)
            · exact .inr (Nat.le_trans HB.out.size (Nat.le_trans hbw.size h))
          have hneE : ¬ own v' E := fun h => by
            rcases o3 E h with h | h
            · exact ne_row hE hrr h
            · have h1 := heap_lt hE; have h2 := hba.size; omega
          have r4 : Row (w3.setCell ⟨E, 1, none⟩ v') 101 3 v' (L + 1) (plsV (A.take k ++ ⟨n, [], 0⟩ :: A.drop k)) := r3.kept fun k hk _ => heap_setCell_other _ _ _ _ (fun e => hneE (by have e' : k = E := e; rw [← e']; exact hk))
          have hE4 := heap_setCell_same w3 E 1 _ _ v' hEw
          have t4 : Heap.Touch G w' (w3.setCell ⟨E, 1, none⟩ v') := (((Heap.Touch.ofBelow hbw).after (t3.mono fun k _ hk => H3.out k hk))).setCell (.inl HD.out.gE) _
          exact ⟨hEw, hE4, r4, t4, hoG, hneE⟩ :
          w3.heap[E]? = some (.cells #[.int .i64 room, .slice (some ⟨g, off, none⟩) L c] 84 (0, 0)) ∧ (w3.setCell ⟨E, 1, none⟩ v').heap[E]? = some (.cells #[.int .i64 room, v'] 84 (0, 0)) ∧ Row (w3.setCell ⟨E, 1, none⟩ v') 101 3 v' (L + 1) (plsV (A.take k ++ ⟨n, [], 0⟩ :: A.drop k)) ∧ Heap.Touch G w' (w3.setCell ⟨E, 1, none⟩ v') ∧ (∀ k, own v' k → Dsk.Grow G w k) ∧ ¬ own v' E))
        clear hvb hra hne hrr hE hba
        go_wp2_with fail
        rw [← hwa]
        clear hwa
        refine HI.out.mono ?_
        rintro e w3 ⟨v', rfl, r3, t3, o3⟩
        have hx := HFIN.out w3 v' r3 t3 o3
        obtain ⟨b0, b1, bf⟩ := twoC hx.1
        obtain ⟨a3, n3, hv3⟩ := r3.slice
        subst hv3
        have HX := Lib.hid hx.2
        clear hx r3 t3 o3 HI HFIN
        go_upto_region 11 with fail
        obtain ⟨w4, hw4⟩ : ∃ w4, w4 = w3.setCell ⟨E, 1, none⟩ (.slice a3 (L + 1) n3) := ⟨_, rfl⟩
        rw [← hw4]
        rw [← hw4] at HX
        clear hw4 b0 b1 bf
        obtain ⟨hE4, r4, t4, hoG, hneE⟩ := HX.out
        obtain ⟨b0, b1, bf⟩ := twoC hE4
        have hmid : (A.take k ++ ⟨n, [], 0⟩ :: A.drop k)[k]? = some ⟨n, [], 0⟩ := by
          rw [List.getElem?_append_right (by rw [List.length_take]; omega), List.length_take, HL.out, show min k L = k by omega, Nat.sub_self]; rfl
        have hrow4 := r4.2
        rcases hrow4 with ⟨hv4, h0⟩ | ⟨g4, off4, cap4, cur4, hv4, _⟩
        · omega
        simp only [Value.slice.injEq, true_and] at hv4
        obtain ⟨rfl, rfl⟩ := hv4
        obtain ⟨d0, d1, d2⟩ := cells_pull r4 k _ hmid (by omega)
        obtain ⟨f0, f1, f2⟩ := frozen_pull r4 k (by omega)
        have hgE : E ≠ g4 := fun e => hneE (by rw [e]; simp [own, Value.ownBlock])
        have hend : DrawAt W (Dsk.Grow G w) E room (insF A ⟨n, s.data.toList, 0⟩) (w4.setCell ⟨g4, off4 + k * 3 + 2, none⟩ (.string s)) ∧ Heap.Touch G w (w4.setCell ⟨g4, off4 + k * 3 + 2, none⟩ (.string s)) := by
          have hset := Row.set r4 (k * 3 + 2) (by omega) (.string s)
          rw [plsV_set (q := ⟨n, s.data.toList, 0⟩) hmid (by omega) (by simp only [cells]; rw [byte_back]; rfl), ← Nat.add_assoc] at hset
          have hl9 : (A.take k ++ (⟨n, [], 0⟩ : FileP) :: A.drop k).set k ⟨n, s.data.toList, 0⟩ = insF A ⟨n, s.data.toList, 0⟩ := by
            rw [HINS.out, List.set_append_right _ _ (by rw [List.length_take]; omega), List.length_take, HL.out, show min k L = k by omega, Nat.sub_self]; rfl
          rw [hl9] at hset
          have hlen : (insF A ⟨n, s.data.toList, 0⟩).length = L + 1 := by rw [len_insF, HL.out]
          have t5 : Heap.Touch (Dsk.Grow G w) w' (w4.setCell ⟨g4, off4 + k * 3 + 2, none⟩ (.string s)) := (t4.mono fun _ _ h => .inl h).setCell (.inl (hoG g4 (by simp [own, Value.ownBlock]))) _
          have t6 : Heap.Touch G w (w4.setCell ⟨g4, off4 + k * 3 + 2, none⟩ (.string s)) := ((Heap.Touch.ofBelow HB.out).trans t5 fun k hk h => by
            rcases h with h | h
            · exact h
            · omega)
          refine ⟨⟨HRT.out, HH.out.below.trans (t6.below HH.out.below.size HH.out.newG), HH.out.grow.newG, .inl HH.out.gE, _, ?_, ?_, hoG⟩, t6⟩
          · rw [heap_setCell_other _ _ _ _ hgE]; exact hE4
          · rw [hlen]; exact hset
        have HEND := Lib.hid hend
        clear hE4 r4 t4 hoG hneE HX hmid hend
        go_wp2_with fail
        go_ret
        exact ⟨rfl, HEND.out⟩
      · have hkz : ¬ (k : Int) < L := by omega
        have hwa : ∃ wa, wa = wr.alloc (.cells #[.int .i64 n, .int .i64 0, .string ⟨#[]⟩] 101) := ⟨_, rfl⟩
        obtain ⟨wa, hwa⟩ := hwa
        have hba : Below wr.heap.size wr wa := by rw [hwa]; exact (Below.refl _ _).alloc (Nat.le_refl _) _
        have hvb : wa.heap[wr.heap.size]? = some (.cells #[.int .i64 n, .int .i64 ((0 : Nat) : Int), .string ⟨([] : List UInt8).toArray⟩] 101 (0, 0)) := by rw [hwa]; exact heap_alloc_new wr _
        have hra : Row wa 101 3 (.slice a L c) L (plsV A) := hrr.kept fun k _ hk => hba.block k hk
        have hne : ¬ own (.slice a L c) wr.heap.size := fun ho => by have := hrr.lt _ ho; omega
        have HI := Lib.hid (insert_any (q := ⟨n, [], 0⟩) (vb := wr.heap.size) (i := k) (.slice a L c) HL.out hfew hslot hra hvb hne)
        have HFIN := Lib.hid (fun w3 v' (r3 : Row w3 101 3 v' (L + 1) (plsV (A.take k ++ ⟨n, [], 0⟩ :: A.drop k))) (t3 : Heap.Touch (own (.slice a L c)) wa w3) (o3 : ∀ k, own v' k → own (.slice a L c) k ∨ wa.heap.size ≤ k) => (by
          have hEw : w3.heap[E]? = some (.cells #[.int .i64 room, .slice a L c] 84 (0, 0)) := by
            rw [t3.block E (by have := heap_lt hE; have := hba.size; omega) (ne_row hE hrr)]
            exact (hba.block E (heap_lt hE)).trans hE
          have hbw : Below w'.heap.size w' wa := HW.out.trans (hba.mono HW.out.size)
          have hoG : ∀ k, own v' k → Dsk.Grow G w k := fun k hk => by
            rcases o3 k hk with h | h
            · exact .inl (H3.out k h)
            · exact .inr (Nat.le_trans HB.out.size (Nat.le_trans hbw.size h))
          have hneE : ¬ own v' E := fun h => by
            rcases o3 E h with h | h
            · exact ne_row hE hrr h
            · have h1 := heap_lt hE; have h2 := hba.size; omega
          have r4 : Row (w3.setCell ⟨E, 1, none⟩ v') 101 3 v' (L + 1) (plsV (A.take k ++ ⟨n, [], 0⟩ :: A.drop k)) := r3.kept fun k hk _ => heap_setCell_other _ _ _ _ (fun e => hneE (by have e' : k = E := e; rw [← e']; exact hk))
          have hE4 := heap_setCell_same w3 E 1 _ _ v' hEw
          have t4 : Heap.Touch G w' (w3.setCell ⟨E, 1, none⟩ v') := (((Heap.Touch.ofBelow hbw).after (t3.mono fun k _ hk => H3.out k hk))).setCell (.inl HD.out.gE) _
          exact ⟨hEw, hE4, r4, t4, hoG, hneE⟩ :
          w3.heap[E]? = some (.cells #[.int .i64 room, .slice a L c] 84 (0, 0)) ∧ (w3.setCell ⟨E, 1, none⟩ v').heap[E]? = some (.cells #[.int .i64 room, v'] 84 (0, 0)) ∧ Row (w3.setCell ⟨E, 1, none⟩ v') 101 3 v' (L + 1) (plsV (A.take k ++ ⟨n, [], 0⟩ :: A.drop k)) ∧ Heap.Touch G w' (w3.setCell ⟨E, 1, none⟩ v') ∧ (∀ k, own v' k → Dsk.Grow G w k) ∧ ¬ own v' E))
        clear hvb hra hne hrr hE hba
        go_wp2_with fail
        rw [← hwa]
        clear hwa
        refine HI.out.mono ?_
        rintro e w3 ⟨v', rfl, r3, t3, o3⟩
        have hx := HFIN.out w3 v' r3 t3 o3
        obtain ⟨b0, b1, bf⟩ := twoC hx.1
        obtain ⟨a3, n3, hv3⟩ := r3.slice
        subst hv3
        have HX := Lib.hid hx.2
        clear hx r3 t3 o3 HI HFIN
        go_upto_region 11 with fail
        obtain ⟨w4, hw4⟩ : ∃ w4, w4 = w3.setCell ⟨E, 1, none⟩ (.slice a3 (L + 1) n3) := ⟨_, rfl⟩
        rw [← hw4]
        rw [← hw4] at HX
        clear hw4 b0 b1 bf
        obtain ⟨hE4, r4, t4, hoG, hneE⟩ := HX.out
        obtain ⟨b0, b1, bf⟩ := twoC hE4
        have hmid : (A.take k ++ ⟨n, [], 0⟩ :: A.drop k)[k]? = some ⟨n, [], 0⟩ := by
          rw [List.getElem?_append_right (by rw [List.length_take]; omega), List.length_take, HL.out, show min k L = k by omega, Nat.sub_self]; rfl
        have hrow4 := r4.2
        rcases hrow4 with ⟨hv4, h0⟩ | ⟨g4, off4, cap4, cur4, hv4, _⟩
        · omega
        simp only [Value.slice.injEq, true_and] at hv4
        obtain ⟨rfl, rfl⟩ := hv4
        obtain ⟨d0, d1, d2⟩ := cells_pull r4 k _ hmid (by omega)
        obtain ⟨f0, f1, f2⟩ := frozen_pull r4 k (by omega)
        have hgE : E ≠ g4 := fun e => hneE (by rw [e]; simp [own, Value.ownBlock])
        have hend : DrawAt W (Dsk.Grow G w) E room (insF A ⟨n, s.data.toList, 0⟩) (w4.setCell ⟨g4, off4 + k * 3 + 2, none⟩ (.string s)) ∧ Heap.Touch G w (w4.setCell ⟨g4, off4 + k * 3 + 2, none⟩ (.string s)) := by
          have hset := Row.set r4 (k * 3 + 2) (by omega) (.string s)
          rw [plsV_set (q := ⟨n, s.data.toList, 0⟩) hmid (by omega) (by simp only [cells]; rw [byte_back]; rfl), ← Nat.add_assoc] at hset
          have hl9 : (A.take k ++ (⟨n, [], 0⟩ : FileP) :: A.drop k).set k ⟨n, s.data.toList, 0⟩ = insF A ⟨n, s.data.toList, 0⟩ := by
            rw [HINS.out, List.set_append_right _ _ (by rw [List.length_take]; omega), List.length_take, HL.out, show min k L = k by omega, Nat.sub_self]; rfl
          rw [hl9] at hset
          have hlen : (insF A ⟨n, s.data.toList, 0⟩).length = L + 1 := by rw [len_insF, HL.out]
          have t5 : Heap.Touch (Dsk.Grow G w) w' (w4.setCell ⟨g4, off4 + k * 3 + 2, none⟩ (.string s)) := (t4.mono fun _ _ h => .inl h).setCell (.inl (hoG g4 (by simp [own, Value.ownBlock]))) _
          have t6 : Heap.Touch G w (w4.setCell ⟨g4, off4 + k * 3 + 2, none⟩ (.string s)) := ((Heap.Touch.ofBelow HB.out).trans t5 fun k hk h => by
            rcases h with h | h
            · exact h
            · omega)
          refine ⟨⟨HRT.out, HH.out.below.trans (t6.below HH.out.below.size HH.out.newG), HH.out.grow.newG, .inl HH.out.gE, _, ?_, ?_, hoG⟩, t6⟩
          · rw [heap_setCell_other _ _ _ _ hgE]; exact hE4
          · rw [hlen]; exact hset
        have HEND := Lib.hid hend
        clear hE4 r4 t4 hoG hneE HX hmid hend
        go_wp2_with fail
        go_ret
        exact ⟨rfl, HEND.out⟩
end
end Go.Proofs.YtidacfhdhdnidaaGreatDoor.Drw

namespace Go.Proofs.YtidacfhdhdnidaaGreatDoor.Drw
open Go.RowKit Heap Dsk

section
variable {W w : World} {F G : Nat → Prop} {D E : Nat} {room : Int} {A : List FileP}

theorem append_drw (h : DrawAt W G E room A w) (n : Int) (s : ByteArray) (hs : s.size ≤ 4611686018427387904) : Calls Tryz.prog 101 #[.pointer (some ⟨E, 0, none⟩), .int .i64 n, .string s] w fun e w' => e = .returned (.int .i64 ((appD room A n s.data.toList).2 : Nat)) ∧ DrawAt W (Dsk.Grow G w) E room (appD room A n s.data.toList).1 w' ∧ Heap.Touch G w w' := by
  by_cases hnum : 0 ≤ n ∧ n ≤ 1099511627776
  · rcases idxF_cases A n with ⟨e1, e2⟩ | ⟨k, p, e1, e2, e3, e4, _⟩
    · by_cases hf : room - (total A : Int) < s.size
      · exact append_drw_full h n s hs hnum e1 e2 (.inl hf)
      · by_cases h20 : A.length = 20
        · exact append_drw_full h n s hs hnum e1 e2 (.inr h20)
        · exact append_drw_new h n s hnum e1 e2 hf h20
    · exact (append_drw_hit h n s hs k p e1 e2 e3 e4).mono fun e w' ⟨a, b, c⟩ => ⟨a, b.mono (fun _ hk => .inl hk) h.grow.newG, c⟩
  · exact append_drw_bad h n s hnum

end
end Go.Proofs.YtidacfhdhdnidaaGreatDoor.Drw

namespace Go.Proofs.YtidacfhdhdnidaaGreatDoor.Vlt
open Go.RowKit Heap Dsk Log Drw
open Subj (ML)
open Rec (Rc recErr)
open Sto (ChAt NextCh tryD after runS)

structure SParts (W : World) (G : Nat → Prop) (v : Value) (X E C : Nat) (room size : Int) (s : Vt) (w : World) : Prop where
  cells : w.heap[X]? = some (.cells #[.pointer (some ⟨E, 0, none⟩), .pointer (some ⟨C, 0, none⟩), .int .i64 size] 121 (0, 0))
  drw : DrawAt W G E room s.A w
  ch : ChAt W C v s.L s.last w
  ltG : ∀ k, G k → k < w.heap.size
  gC : ¬ G C
  gX : ¬ G X
  gv : ∀ k, own v k → ¬ G k
  cX : C ≠ X
  vX : ¬ own v X
  oldX : W.heap.size ≤ X
  sz : 1 ≤ size ∧ size ≤ 4096

/-- The reference's vault at X, of the blocks F. -/
structure SfAt (W : World) (F : Nat → Prop) (X E C : Nat) (room size : Int) (s : Vt) (w : World) : Prop where
  ex : ∃ G v, SParts W G v X E C room size s w ∧ ∀ k, G k ∨ own v k ∨ k = C ∨ k = X → F k
  newF : ∀ k, F k → W.heap.size ≤ k
  bF : ∀ k, F k → k < w.heap.size

def NextSf (W : World) (F : Nat → Prop) (X E C : Nat) (room size : Int) (w : World) (s' : Vt) (w' : World) : Prop :=
  (∃ F', SfAt W F' X E C room size s' w' ∧ ∀ k, F' k → F k ∨ w.heap.size ≤ k) ∧ Heap.Touch F w w'

theorem DrawAt.shrink {W w : World} {G : Nat → Prop} {E : Nat} {room : Int} {A : List FileP} (h : DrawAt W G E room A w) : DrawAt W (fun k => G k ∧ k < w.heap.size) E room A w := by
  obtain ⟨v, h1, h2, h3⟩ := h.mem
  exact ⟨h.right, h.below, fun k hk => h.newG k hk.1, ⟨h.gE, heap_lt h1⟩, v, h1, h2, fun k hk => ⟨h3 k hk, h2.lt k hk⟩⟩

section
variable {W w w1 w2 : World} {F G : Nat → Prop} {v : Value} {X E C : Nat} {room size : Int} {s s1 s2 : Vt}

theorem SParts.ltX (h : SParts W G v X E C room size s w) : X < w.heap.size := heap_lt h.cells
theorem SParts.ltC (h : SParts W G v X E C room size s w) : C < w.heap.size := heap_lt h.ch.cell

theorem SParts.low (h : SParts W G v X E C room size s w) (hb : Below w.heap.size w w1) : SParts W G v X E C room size s w1 :=
  { h with
    cells := (hb.block X h.ltX).trans h.cells
    drw := h.drw.next hb
    ch := h.ch.next hb
    ltG := fun k hk => Nat.lt_of_lt_of_le (h.ltG k hk) hb.size }

/-- The drawer is turned. -/
theorem SParts.drwS {A' : List FileP} (h : SParts W G v X E C room size s w) (hd : DrawAt W (Dsk.Grow G w) E room A' w1) (ht : Heap.Touch G w w1) :
    SParts W (fun k => Dsk.Grow G w k ∧ k < w1.heap.size) v X E C room size ⟨A', s.L, s.last⟩ w1 where
  cells := (ht.block X h.ltX h.gX).trans h.cells
  drw := DrawAt.shrink hd
  ch := h.ch.touch ht h.drw.newG h.gC h.gv
  ltG := fun k hk => hk.2
  gC := fun e => by
    rcases e.1 with e | e
    · exact h.gC e
    · have := h.ltC; omega
  gX := fun e => by
    rcases e.1 with e | e
    · exact h.gX e
    · have := h.ltX; omega
  gv := fun k hk e => by
    rcases e.1 with e | e
    · exact h.gv k hk e
    · have := h.ch.row.lt k hk; omega
  cX := h.cX
  vX := h.vX
  oldX := h.oldX
  sz := h.sz

/-- The chest is turned. -/
theorem SParts.chS {L' : List Rc} {last' : Int} (h : SParts W G v X E C room size s w) (hn : NextCh W C v w L' last' w1) :
    ∃ v', SParts W G v' X E C room size ⟨s.A, L', last'⟩ w1 ∧ ∀ k, own v' k → own v k ∨ w.heap.size ≤ k := by
  obtain ⟨v', hC, ht, ho⟩ := hn
  have hnX : ¬ (X = C ∨ own v X) := fun e => e.elim (fun e => h.cX e.symm) h.vX
  refine ⟨v', ⟨(ht.block X h.ltX hnX).trans h.cells, h.drw.kept hC.below fun k hk hlt => ht.block k hlt fun e => ?_, hC, fun k hk => Nat.lt_of_lt_of_le (h.ltG k hk) ht.size, h.gC, h.gX, fun k hk e => ?_, h.cX, fun e => ?_, h.oldX, h.sz⟩, ho⟩
  · rcases e with rfl | e
    · exact h.gC hk
    · exact h.gv k e hk
  · rcases ho k hk with e2 | e2
    · exact h.gv k e2 e
    · have := h.ltG k e; omega
  · rcases ho X e with e2 | e2
    · exact h.vX e2
    · have := h.ltX; omega

theorem SfAt.below (h : SfAt W F X E C room size s w) : Below W.heap.size W w := by
  obtain ⟨G, v, hP, _⟩ := h.ex
  exact hP.drw.below

theorem SfAt.low (h : SfAt W F X E C room size s w) (hb : Below w.heap.size w w1) : SfAt W F X E C room size s w1 := by
  obtain ⟨G, v, hP, hF⟩ := h.ex
  exact ⟨⟨G, v, hP.low hb, hF⟩, h.newF, fun k hk => Nat.lt_of_lt_of_le (h.bF k hk) hb.size⟩

theorem SfAt.kept (h : SfAt W F X E C room size s w) (hb : Below W.heap.size W w1) (hsz : w.heap.size ≤ w1.heap.size) (hs : Same F w w1) : SfAt W F X E C room size s w1 := by
  obtain ⟨G, v, hP, hF⟩ := h.ex
  refine ⟨⟨G, v, { hP with cells := (hs X (hF X (.inr (.inr (.inr rfl)))) hP.ltX).trans hP.cells, drw := hP.drw.kept hb fun k hk hlt => hs k (hF k (.inl hk)) hlt, ch := ⟨(hs C (hF C (.inr (.inr (.inl rfl)))) hP.ltC).trans hP.ch.cell, hP.ch.row.kept fun k hk hlt => hs k (hF k (.inr (.inl hk))) hlt, hP.ch.old, hP.ch.mine, hb⟩, ltG := fun k hk => Nat.lt_of_lt_of_le (hP.ltG k hk) hsz }, hF⟩, h.newF, fun k hk => Nat.lt_of_lt_of_le (h.bF k hk) hsz⟩

theorem NextSf.same (h : SfAt W F X E C room size s w) (hb : Below w.heap.size w w1) : NextSf W F X E C room size w s w1 :=
  ⟨⟨F, h.low hb, fun _ hk => .inl hk⟩, Heap.Touch.ofBelow hb⟩

theorem NextSf.trans {F' : Nat → Prop} (hF : ∀ k, F' k → F k ∨ w.heap.size ≤ k) (ht : Heap.Touch F w w1) (h : NextSf W F' X E C room size w1 s w2) : NextSf W F X E C room size w s w2 := by
  obtain ⟨⟨F2, h1, h2⟩, h3⟩ := h
  refine ⟨⟨F2, h1, fun k hk => ?_⟩, ht.trans h3 fun k hk hf => ?_⟩
  · rcases h2 k hk with e | e
    · exact hF k e
    · exact .inr (Nat.le_trans ht.size e)
  · rcases hF k hf with e | e
    · exact e
    · omega

theorem SfAt.drwS {A' : List FileP} (h : SfAt W F X E C room size s w) (hP : SParts W G v X E C room size s w) (hF : ∀ k, G k ∨ own v k ∨ k = C ∨ k = X → F k) (hd : DrawAt W (Dsk.Grow G w) E room A' w1) (ht : Heap.Touch G w w1) :
    NextSf W F X E C room size w ⟨A', s.L, s.last⟩ w1 := by
  refine ⟨⟨fun k => (F k ∨ w.heap.size ≤ k) ∧ k < w1.heap.size, ⟨⟨_, v, hP.drwS hd ht, fun k hk => ?_⟩, fun k hk => ?_, fun k hk => hk.2⟩, fun k hk => hk.1⟩, ht.mono fun k _ hk => hF k (.inl hk)⟩
  · rcases hk with hk | hk | rfl | rfl
    · exact ⟨hk.1.imp (fun e => hF k (.inl e)) id, hk.2⟩
    · exact ⟨.inl (hF k (.inr (.inl hk))), Nat.lt_of_lt_of_le (hP.ch.row.lt k hk) ht.size⟩
    · exact ⟨.inl (hF _ (.inr (.inr (.inl rfl)))), Nat.lt_of_lt_of_le hP.ltC ht.size⟩
    · exact ⟨.inl (hF _ (.inr (.inr (.inr rfl)))), Nat.lt_of_lt_of_le hP.ltX ht.size⟩
  · rcases hk.1 with e | e
    · exact h.newF k e
    · exact Nat.le_trans h.below.size e

theorem SfAt.chS {L' : List Rc} {last' : Int} (h : SfAt W F X E C room size s w) (hP : SParts W G v X E C room size s w) (hF : ∀ k, G k ∨ own v k ∨ k = C ∨ k = X → F k) (hn : NextCh W C v w L' last' w1) :
    NextSf W F X E C room size w ⟨s.A, L', last'⟩ w1 := by
  obtain ⟨v', hP', ho⟩ := hP.chS hn
  obtain ⟨_, _, ht, _⟩ := hn
  refine ⟨⟨fun k => (F k ∨ w.heap.size ≤ k) ∧ k < w1.heap.size, ⟨⟨G, v', hP', fun k hk => ?_⟩, fun k hk => ?_, fun k hk => hk.2⟩, fun k hk => hk.1⟩, ht.mono fun k _ hk => ?_⟩
  · rcases hk with hk | hk | rfl | rfl
    · exact ⟨.inl (hF k (.inl hk)), hP'.ltG k hk⟩
    · exact ⟨(ho k hk).imp (fun e => hF k (.inr (.inl e))) id, hP'.ch.row.lt k hk⟩
    · exact ⟨.inl (hF _ (.inr (.inr (.inl rfl)))), hP'.ltC⟩
    · exact ⟨.inl (hF _ (.inr (.inr (.inr rfl)))), hP'.ltX⟩
  · rcases hk.1 with e | e
    · exact h.newF k e
    · exact Nat.le_trans h.below.size e
  · rcases hk with rfl | hk
    · exact hF _ (.inr (.inr (.inl rfl)))
    · exact hF k (.inr (.inl hk))
end
end Go.Proofs.YtidacfhdhdnidaaGreatDoor.Vlt
