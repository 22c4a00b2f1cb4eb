/- Parts of the proof, joined: The reference's disk: Append of a new file.; Both disks side by side: rilllaw.same. -/
import Derived.Test.YtbgchhgdlceceaaGreatDoorLogPlaysUptoM7
namespace Go.Proofs.YtbgchhgdlceceaaGreatDoor.Drw
open Go.RowKit Heap Dsk

section
variable {W w : World} {G : Nat → Prop} {E : Nat} {room : Int} {A : List FileP}

set_option maxHeartbeats 1000000 in
set_option maxRecDepth 100000 in
theorem append_drw_bad (h : DrawAt W G E room A w) (n : Int) (s : ByteArray) (hb : ¬ (0 ≤ n ∧ n ≤ 1099511627776)) : Calls Tryz.prog 101 #[.pointer (some ⟨E, 0, none⟩), .int .i64 n, .string s] w fun e w' => e = .returned (.int .i64 ((appD room A n s.data.toList).2 : Nat)) ∧ DrawAt W (Dsk.Grow G w) E room (appD room A n s.data.toList).1 w' ∧ Heap.Touch G w w' := by
  have hr : appD room A n s.data.toList = (A, 1) := by unfold appD; rw [if_pos (by omega)]
  rw [hr]
  have HIN := Lib.hid (in_no n 0 1099511627776 w hb)
  have HH := Lib.hid h
  clear h hr hb
  go_enter Tryz.func101, Tryz.ntmps101
  go_wp2_with fail
  refine HIN.out.mono ?_
  rintro e w' ⟨rfl, rfl⟩
  go_wp2
  go_ret
  exact ⟨rfl, HH.out.grow, Heap.Touch.refl _ _⟩

set_option maxHeartbeats 2000000 in
set_option maxRecDepth 100000 in
theorem append_drw_full (h : DrawAt W G E room A w) (n : Int) (s : ByteArray) (hs : s.size ≤ 4611686018427387904) (hnum : 0 ≤ n ∧ n ≤ 1099511627776) (e1 : idxF A n = -1) (e2 : getF A n = none) (hf : room - (total A : Int) < s.size ∨ A.length = 20) : Calls Tryz.prog 101 #[.pointer (some ⟨E, 0, none⟩), .int .i64 n, .string s] w fun e w' => e = .returned (.int .i64 ((appD room A n s.data.toList).2 : Nat)) ∧ DrawAt W (Dsk.Grow G w) E room (appD room A n s.data.toList).1 w' ∧ Heap.Touch G w w' := by
  have hsl : s.data.toList.length = s.size := rfl
  have hr : appD room A n s.data.toList = (A, 8) := by
    unfold appD
    rw [if_neg (by omega)]
    by_cases hfull : room - (total A : Int) < s.size
    · rw [if_pos (by rw [hsl]; exact hfull)]
    · rw [if_neg (by rw [hsl]; exact hfull), e2]
      simp only
      rw [if_pos (by omega)]
  rw [hr]
  have HA := Lib.hid (at_any h n)
  rw [e1] at HA
  have HIN := Lib.hid (in_yes n 0 1099511627776 w hnum)
  have HH := Lib.hid h
  have hfit := h.right.fits; have hsm := h.right.small; have hfew := h.right.few
  have w0 : IntKind.i64.wrap ((s.size : Int) + (total A : Int)) = (s.size : Int) + (total A : Int) := IntWalk.i64_in _ (by omega)
  by_cases hfull : room - (total A : Int) < s.size
  · have hd : decide (room < (s.size : Int) + (total A : Int)) = true := decide_eq_true (by omega)
    clear h hr hf hnum e1 e2 hsl
    go_enter Tryz.func101, Tryz.ntmps101
    go_wp2_with fail
    refine HIN.out.mono ?_
    rintro e w' ⟨rfl, rfl⟩
    go_wp2_with fail
    refine HA.out.mono ?_
    rintro e w' ⟨rfl, hb⟩
    have HD := Lib.hid (HH.out.next hb)
    have HB := Lib.hid hb
    obtain ⟨v, h1, h2, h3⟩ := HD.out.mem
    obtain ⟨c0, c1, cf⟩ := twoC h1
    have HU := Lib.hid (HD.out.usedN)
    clear hb h1 h2 h3 HA HIN
    go_upto_region 4 with fail
    go_quiet ((go_at_call 113; exact Calls.quiet_of_same (HU.out _)))
    go_wp2
    go_ret
    exact ⟨rfl, (HH.out.grow.next HB.out).next (below_drewN _ _), (Heap.Touch.ofBelow HB.out).drewN _⟩
  · have hd : decide (room < (s.size : Int) + (total A : Int)) = false := decide_eq_false (by omega)
    have h20 : A.length = 20 := by omega
    have HL := Lib.hid h20
    clear h hr hf hnum e1 e2 hsl h20 hfew
    go_enter Tryz.func101, Tryz.ntmps101
    go_wp2_with fail
    refine HIN.out.mono ?_
    rintro e w' ⟨rfl, rfl⟩
    go_wp2_with fail
    refine HA.out.mono ?_
    rintro e w' ⟨rfl, hb⟩
    have HD := Lib.hid (HH.out.next hb)
    have HB := Lib.hid hb
    obtain ⟨v, h1, h2, h3⟩ := HD.out.mem
    rw [HL.out] at h2
    obtain ⟨a, c, hv⟩ := h2.slice
    subst hv
    obtain ⟨c0, c1, cf⟩ := twoC h1
    have HU := Lib.hid (HD.out.usedN)
    clear hb h1 h2 h3 HA HIN
    go_upto_region 4 with fail
    go_quiet ((go_at_call 113; exact Calls.quiet_of_same (HU.out _)))
    go_wp2
    go_ret
    exact ⟨rfl, (HH.out.grow.next HB.out).next (below_drewN _ _), (Heap.Touch.ofBelow HB.out).drewN _⟩

set_option maxHeartbeats 2000000 in
set_option maxRecDepth 100000 in
theorem append_drw_new (h : DrawAt W G E room A w) (n : Int) (s : ByteArray) (hnum : 0 ≤ n ∧ n ≤ 1099511627776) (e1 : idxF A n = -1) (e2 : getF A n = none) (hf : ¬ room - (total A : Int) < s.size) (h20 : A.length ≠ 20) : Calls Tryz.prog 101 #[.pointer (some ⟨E, 0, none⟩), .int .i64 n, .string s] w fun e w' => e = .returned (.int .i64 ((appD room A n s.data.toList).2 : Nat)) ∧ DrawAt W (Dsk.Grow G w) E room (appD room A n s.data.toList).1 w' ∧ Heap.Touch G w w' := by
  have hsl : s.data.toList.length = s.size := rfl
  have hr : appD room A n s.data.toList = (insF A ⟨n, s.data.toList, 0⟩, 0) := by
    unfold appD
    rw [if_neg (by omega), if_neg (by rw [hsl]; exact hf), e2]
    simp only
    rw [if_neg h20]
  rw [hr]
  have HA := Lib.hid (at_any h n)
  rw [e1] at HA
  have HIN := Lib.hid (in_yes n 0 1099511627776 w hnum)
  have HH := Lib.hid h
  have hfit := h.right.fits; have hsm := h.right.small; have hfew := h.right.few
  have hssz : s.size ≤ 65536 := by omega
  have w0 : IntKind.i64.wrap ((s.size : Int) + (total A : Int)) = (s.size : Int) + (total A : Int) := IntWalk.i64_in _ (by omega)
  have hd : decide (room < (s.size : Int) + (total A : Int)) = false := decide_eq_false (by omega)
  have HRT := Lib.hid (h.right.ins e2 hnum.1 hnum.2 h20 (by rw [hsl]; omega))
  have hslot := slotF_le A n
  obtain ⟨K, hK⟩ : ∃ K, slotF A n = K := ⟨_, rfl⟩
  have hins1 := insF_slot (q := ⟨n, s.data.toList, 0⟩) (getF_none e2)
  simp only at hins1
  rw [hK] at hslot hins1
  have HINS := Lib.hid hins1
  have HAT := Lib.hid (fun (k : Nat) (hk : k < K) => (slotF_at (A := A) (n := n) (by rw [hK]; exact hk) : ∃ p, A[k]? = some p ∧ p.n < n))
  have HST := Lib.hid (fun (p : FileP) (hp : A[K]? = some p) => (slotF_stop (A := A) (n := n) (by rw [hK]; exact hp) : ¬ p.n < n))
  obtain ⟨L, hL⟩ : ∃ L, A.length = L := ⟨_, rfl⟩
  rw [hL] at hslot hfew h20
  have HL := Lib.hid hL
  have hd20 : ((L : Int) == 20) = false := by simp; omega
  clear h hr hf hnum e1 e2 hsl hL hK hins1
  go_enter Tryz.func101, Tryz.ntmps101
  go_wp2_with fail
  refine HIN.out.mono ?_
  rintro e w' ⟨rfl, rfl⟩
  go_wp2_with fail
  refine HA.out.mono ?_
  rintro e w' ⟨rfl, hb⟩
  have HD := Lib.hid (HH.out.next hb)
  have HB := Lib.hid hb
  obtain ⟨v, h1, h2, h3⟩ := HD.out.mem
  rw [HL.out] at h2
  obtain ⟨a, c, hv⟩ := h2.slice
  subst hv
  obtain ⟨c0, c1, cf⟩ := twoC h1
  have HU := Lib.hid (HD.out.usedN)
  have H1 := Lib.hid h1; have H2 := Lib.hid h2; have H3 := Lib.hid h3
  clear hb h1 h2 h3 HA HIN
  go_upto_region 4 with fail
  go_quiet ((go_at_call 113; exact Calls.quiet_of_same (HU.out _)))
  clear HU
  go_wp2_with fail
  go_loopw [7] (fun i wr => ∃ k : Nat, k ≤ K ∧ i = .int .i64 k ∧ Hid (Below w'.heap.size w' wr)) (fun i _ => K - (intOf i).toNat)
  case atStart => exact ⟨0, Nat.zero_le _, rfl, Lib.hid (below_drewN _ _)⟩
  case round =>
    obtain ⟨k, hk, rfl, HW⟩ := hrel
    have hE : wr.heap[E]? = some (.cells #[.int .i64 room, .slice a L c] 84 (0, 0)) := (HW.out.block E (heap_lt H1.out)).trans H1.out
    have hrr : Row wr 101 3 (.slice a L c) L (plsV A) := H2.out.kept fun k _ hk => HW.out.block k hk
    clear c0 c1 cf
    obtain ⟨c0, c1, cf⟩ := twoC hE
    by_cases hlt : k < K
    · obtain ⟨p, hp, hpn⟩ := HAT.out k hlt
      have hkL : k < L := by omega
      have hkz : (k : Int) < L := by omega
      have hrow := hrr.2
      rcases hrow with ⟨hv, h0⟩ | ⟨g, off, cap, cur, hv, _⟩
      · omega
      simp only [Value.slice.injEq, true_and] at hv
      obtain ⟨rfl, rfl⟩ := hv
      obtain ⟨d0, d1, d2⟩ := cells_pull hrr k p hp hkL
      clear hE hrr hp d1 d2
      go_wp2_with fail
      exact ⟨⟨k + 1, by omega, by go_num, HW⟩, by simp [intOf]; omega⟩
    · obtain rfl : k = K := by omega
      by_cases hKL : k < L
      · have hkz : (k : Int) < L := by omega
        have hkA : k < A.length := by rw [HL.out]; exact hKL
        have hp := List.getElem?_eq_getElem hkA
        have hpn := HST.out _ hp
        generalize A[k] = p at hp hpn
        have hrow := hrr.2
        rcases hrow with ⟨hv, h0⟩ | ⟨g, off, cap, cur, hv, _⟩
        · omega
        simp only [Value.slice.injEq, true_and] at hv
        obtain ⟨rfl, rfl⟩ := hv
        obtain ⟨d0, d1, d2⟩ := cells_pull hrr k p hp hKL
        clear hp d1 d2
        have hwa : ∃ wa, wa = wr.alloc (.cells #[.int .i64 n, .int .i64 0, .string ⟨#[]⟩] 101) := ⟨_, rfl⟩
        obtain ⟨wa, hwa⟩ := hwa
        have hba : Below wr.heap.size wr wa := by rw [hwa]; exact (Below.refl _ _).alloc (Nat.le_refl _) _
        have hvb : wa.heap[wr.heap.size]? = some (.cells #[.int .i64 n, .int .i64 ((0 : Nat) : Int), .string ⟨([] : List UInt8).toArray⟩] 101 (0, 0)) := by rw [hwa]; exact heap_alloc_new wr _
        have hra : Row wa 101 3 (.slice (some ⟨g, off, none⟩) L c) L (plsV A) := hrr.kept fun k _ hk => hba.block k hk
        have hne : ¬ own (.slice (some ⟨g, off, none⟩) L c) wr.heap.size := fun ho => by have := hrr.lt _ ho; omega
        have HI := Lib.hid (insert_any (q := ⟨n, [], 0⟩) (vb := wr.heap.size) (i := k) (.slice (some ⟨g, off, none⟩) L c) HL.out hfew hslot hra hvb hne)
        have HFIN := Lib.hid (fun w3 v' (r3 : Row w3 101 3 v' (L + 1) (plsV (A.take k ++ ⟨n, [], 0⟩ :: A.drop k))) (t3 : Heap.Touch (own (.slice (some ⟨g, off, none⟩) L c)) wa w3) (o3 : ∀ k, own v' k → own (.slice (some ⟨g, off, none⟩) L c) k ∨ wa.heap.size ≤ k) => (by
          have hEw : w3.heap[E]? = some (.cells #[.int .i64 room, .slice (some ⟨g, off, none⟩) L c] 84 (0, 0)) := by
            rw [t3.block E (by have := heap_lt hE; have := hba.size; omega) (ne_row hE hrr)]
            exact (hba.block E (heap_lt hE)).trans hE
          have hbw : Below w'.heap.size w' wa := HW.out.trans (hba.mono HW.out.size)
          have hoG : ∀ k, own v' k → Dsk.Grow G w k := fun k hk => by
            rcases o3 k hk with h | h
            · exact .inl (H3.out k h)
            · exact .inr (Nat.le_trans HB.out.size (Nat.le_trans hbw.size h))
          have hneE : ¬ own v' E := fun h => by
            rcases o3 E h with h | h
            · exact ne_row hE hrr h
            · have h1 := heap_lt hE; have h2 := hba.size; omega
          have r4 : Row (w3.setCell ⟨E, 1, none⟩ v') 101 3 v' (L + 1) (plsV (A.take k ++ ⟨n, [], 0⟩ :: A.drop k)) := r3.kept fun k hk _ => heap_setCell_other _ _ _ _ (fun e => hneE (by have e' : k = E := e; rw [← e']; exact hk))
          have hE4 := heap_setCell_same w3 E 1 _ _ v' hEw
          have t4 : Heap.Touch G w' (w3.setCell ⟨E, 1, none⟩ v') := (((Heap.Touch.ofBelow hbw).after (t3.mono fun k _ hk => H3.out k hk))).setCell (.inl HD.out.gE) _
          exact ⟨hEw, hE4, r4, t4, hoG, hneE⟩ :
          w3.heap[E]? = some (.cells #[.int .i64 room, .slice (some ⟨g, off, none⟩) L c] 84 (0, 0)) ∧ (w3.setCell ⟨E, 1, none⟩ v').heap[E]? = some (.cells #[.int .i64 room, v'] 84 (0, 0)) ∧ Row (w3.setCell ⟨E, 1, none⟩ v') 101 3 v' (L + 1) (plsV (A.take k ++ ⟨n, [], 0⟩ :: A.drop k)) ∧ Heap.Touch G w' (w3.setCell ⟨E, 1, none⟩ v') ∧ (∀ k, own v' k → Dsk.Grow G w k) ∧ ¬ own v' E))
        clear hvb hra hne hrr hE hba
        go_wp2_with fail
        rw [← hwa]
        clear hwa
        refine HI.out.mono ?_
        rintro e w3 ⟨v', rfl, r3, t3, o3⟩
        have hx := HFIN.out w3 v' r3 t3 o3
        obtain ⟨b0, b1, bf⟩ := twoC hx.1
        obtain ⟨a3, n3, hv3⟩ := r3.slice
        subst hv3
        have HX := Lib.hid hx.2
        clear hx r3 t3 o3 HI HFIN
        go_upto_region 11 with fail
        obtain ⟨w4, hw4⟩ : ∃ w4, w4 = w3.setCell ⟨E, 1, none⟩ (.slice a3 (L + 1) n3) := ⟨_, rfl⟩
        rw [← hw4]
        rw [← hw4] at HX
        clear hw4 b0 b1 bf
        obtain ⟨hE4, r4, t4, hoG, hneE⟩ := HX.out
        obtain ⟨b0, b1, bf⟩ := twoC hE4
        have hmid : (A.take k ++ ⟨n, [], 0⟩ :: A.drop k)[k]? = some ⟨n, [], 0⟩ := by
          rw [List.getElem?_append_right (by rw [List.length_take]; omega), List.length_take, HL.out, show min k L = k by omega, Nat.sub_self]; rfl
        have hrow4 := r4.2
        rcases hrow4 with ⟨hv4, h0⟩ | ⟨g4, off4, cap4, cur4, hv4, _⟩
        · omega
        simp only [Value.slice.injEq, true_and] at hv4
        obtain ⟨rfl, rfl⟩ := hv4
        obtain ⟨d0, d1, d2⟩ := cells_pull r4 k _ hmid (by omega)
        obtain ⟨f0, f1, f2⟩ := frozen_pull r4 k (by omega)
        have hgE : E ≠ g4 := fun e => hneE (by rw [e]; simp [own, Value.ownBlock])
        have hend : DrawAt W (Dsk.Grow G w) E room (insF A ⟨n, s.data.toList, 0⟩) (w4.setCell ⟨g4, off4 + k * 3 + 2, none⟩ (.string s)) ∧ Heap.Touch G w (w4.setCell ⟨g4, off4 + k * 3 + 2, none⟩ (.string s)) := by
          have hset := Row.set r4 (k * 3 + 2) (by omega) (.string s)
          rw [plsV_set (q := ⟨n, s.data.toList, 0⟩) hmid (by omega) (by simp only [cells]; rw [byte_back]; rfl), ← Nat.add_assoc] at hset
          have hl9 : (A.take k ++ (⟨n, [], 0⟩ : FileP) :: A.drop k).set k ⟨n, s.data.toList, 0⟩ = insF A ⟨n, s.data.toList, 0⟩ := by
            rw [HINS.out, List.set_append_right _ _ (by rw [List.length_take]; omega), List.length_take, HL.out, show min k L = k by omega, Nat.sub_self]; rfl
          rw [hl9] at hset
          have hlen : (insF A ⟨n, s.data.toList, 0⟩).length = L + 1 := by rw [len_insF, HL.out]
          have t5 : Heap.Touch (Dsk.Grow G w) w' (w4.setCell ⟨g4, off4 + k * 3 + 2, none⟩ (.string s)) := (t4.mono fun _ _ h => .inl h).setCell (.inl (hoG g4 (by simp [own, Value.ownBlock]))) _
          have t6 : Heap.Touch G w (w4.setCell ⟨g4, off4 + k * 3 + 2, none⟩ (.string s)) := ((Heap.Touch.ofBelow HB.out).trans t5 fun k hk h => by
            rcases h with h | h
            · exact h
            · omega)
          refine ⟨⟨HRT.out, HH.out.below.trans (t6.below HH.out.below.size HH.out.newG), HH.out.grow.newG, .inl HH.out.gE, _, ?_, ?_, hoG⟩, t6⟩
          · rw [heap_setCell_other _ _ _ _ hgE]; exact hE4
          · rw [hlen]; exact hset
        have HEND := Lib.hid hend
        clear hE4 r4 t4 hoG hneE HX hmid hend
        go_wp2_with fail
        go_ret
        exact ⟨rfl, HEND.out⟩
      · have hkz : ¬ (k : Int) < L := by omega
        have hwa : ∃ wa, wa = wr.alloc (.cells #[.int .i64 n, .int .i64 0, .string ⟨#[]⟩] 101) := ⟨_, rfl⟩
        obtain ⟨wa, hwa⟩ := hwa
        have hba : Below wr.heap.size wr wa := by rw [hwa]; exact (Below.refl _ _).alloc (Nat.le_refl _) _
        have hvb : wa.heap[wr.heap.size]? = some (.cells #[.int .i64 n, .int .i64 ((0 : Nat) : Int), .string ⟨([] : List UInt8).toArray⟩] 101 (0, 0)) := by rw [hwa]; exact heap_alloc_new wr _
        have hra : Row wa 101 3 (.slice a L c) L (plsV A) := hrr.kept fun k _ hk => hba.block k hk
        have hne : ¬ own (.slice a L c) wr.heap.size := fun ho => by have := hrr.lt _ ho; omega
        have HI := Lib.hid (insert_any (q := ⟨n, [], 0⟩) (vb := wr.heap.size) (i := k) (.slice a L c) HL.out hfew hslot hra hvb hne)
        have HFIN := Lib.hid (fun w3 v' (r3 : Row w3 101 3 v' (L + 1) (plsV (A.take k ++ ⟨n, [], 0⟩ :: A.drop k))) (t3 : Heap.Touch (own (.slice a L c)) wa w3) (o3 : ∀ k, own v' k → own (.slice a L c) k ∨ wa.heap.size ≤ k) => (by
          have hEw : w3.heap[E]? = some (.cells #[.int .i64 room, .slice a L c] 84 (0, 0)) := by
            rw [t3.block E (by have := heap_lt hE; have := hba.size; omega) (ne_row hE hrr)]
            exact (hba.block E (heap_lt hE)).trans hE
          have hbw : Below w'.heap.size w' wa := HW.out.trans (hba.mono HW.out.size)
          have hoG : ∀ k, own v' k → Dsk.Grow G w k := fun k hk => by
            rcases o3 k hk with h | h
            · exact .inl (H3.out k h)
            · exact .inr (Nat.le_trans HB.out.size (Nat.le_trans hbw.size h))
          have hneE : ¬ own v' E := fun h => by
            rcases o3 E h with h | h
            · exact ne_row hE hrr h
            · have h1 := heap_lt hE; have h2 := hba.size; omega
          have r4 : Row (w3.setCell ⟨E, 1, none⟩ v') 101 3 v' (L + 1) (plsV (A.take k ++ ⟨n, [], 0⟩ :: A.drop k)) := r3.kept fun k hk _ => heap_setCell_other _ _ _ _ (fun e => hneE (by have e' : k = E := e; rw [← e']; exact hk))
          have hE4 := heap_setCell_same w3 E 1 _ _ v' hEw
          have t4 : Heap.Touch G w' (w3.setCell ⟨E, 1, none⟩ v') := (((Heap.Touch.ofBelow hbw).after (t3.mono fun k _ hk => H3.out k hk))).setCell (.inl HD.out.gE) _
          exact ⟨hEw, hE4, r4, t4, hoG, hneE⟩ :
          w3.heap[E]? = some (.cells #[.int .i64 room, .slice a L c] 84 (0, 0)) ∧ (w3.setCell ⟨E, 1, none⟩ v').heap[E]? = some (.cells #[.int .i64 room, v'] 84 (0, 0)) ∧ Row (w3.setCell ⟨E, 1, none⟩ v') 101 3 v' (L + 1) (plsV (A.take k ++ ⟨n, [], 0⟩ :: A.drop k)) ∧ Heap.Touch G w' (w3.setCell ⟨E, 1, none⟩ v') ∧ (∀ k, own v' k → Dsk.Grow G w k) ∧ ¬ own v' E))
        clear hvb hra hne hrr hE hba
        go_wp2_with fail
        rw [← hwa]
        clear hwa
        refine HI.out.mono ?_
        rintro e w3 ⟨v', rfl, r3, t3, o3⟩
        have hx := HFIN.out w3 v' r3 t3 o3
        obtain ⟨b0, b1, bf⟩ := twoC hx.1
        obtain ⟨a3, n3, hv3⟩ := r3.slice
        subst hv3
        have HX := Lib.hid hx.2
        clear hx r3 t3 o3 HI HFIN
        go_upto_region 11 with fail
        obtain ⟨w4, hw4⟩ : ∃ w4, w4 = w3.setCell ⟨E, 1, none⟩ (.slice a3 (L + 1) n3) := ⟨_, rfl⟩
        rw [← hw4]
        rw [← hw4] at HX
        clear hw4 b0 b1 bf
        obtain ⟨hE4, r4, t4, hoG, hneE⟩ := HX.out
        obtain ⟨b0, b1, bf⟩ := twoC hE4
        have hmid : (A.take k ++ ⟨n, [], 0⟩ :: A.drop k)[k]? = some ⟨n, [], 0⟩ := by
          rw [List.getElem?_append_right (by rw [List.length_take]; omega), List.length_take, HL.out, show min k L = k by omega, Nat.sub_self]; rfl
        have hrow4 := r4.2
        rcases hrow4 with ⟨hv4, h0⟩ | ⟨g4, off4, cap4, cur4, hv4, _⟩
        · omega
        simp only [Value.slice.injEq, true_and] at hv4
        obtain ⟨rfl, rfl⟩ := hv4
        obtain ⟨d0, d1, d2⟩ := cells_pull r4 k _ hmid (by omega)
        obtain ⟨f0, f1, f2⟩ := frozen_pull r4 k (by omega)
        have hgE : E ≠ g4 := fun e => hneE (by rw [e]; simp [own, Value.ownBlock])
        have hend : DrawAt W (Dsk.Grow G w) E room (insF A ⟨n, s.data.toList, 0⟩) (w4.setCell ⟨g4, off4 + k * 3 + 2, none⟩ (.string s)) ∧ Heap.Touch G w (w4.setCell ⟨g4, off4 + k * 3 + 2, none⟩ (.string s)) := by
          have hset := Row.set r4 (k * 3 + 2) (by omega) (.string s)
          rw [plsV_set (q := ⟨n, s.data.toList, 0⟩) hmid (by omega) (by simp only [cells]; rw [byte_back]; rfl), ← Nat.add_assoc] at hset
          have hl9 : (A.take k ++ (⟨n, [], 0⟩ : FileP) :: A.drop k).set k ⟨n, s.data.toList, 0⟩ = insF A ⟨n, s.data.toList, 0⟩ := by
            rw [HINS.out, List.set_append_right _ _ (by rw [List.length_take]; omega), List.length_take, HL.out, show min k L = k by omega, Nat.sub_self]; rfl
          rw [hl9] at hset
          have hlen : (insF A ⟨n, s.data.toList, 0⟩).length = L + 1 := by rw [len_insF, HL.out]
          have t5 : Heap.Touch (Dsk.Grow G w) w' (w4.setCell ⟨g4, off4 + k * 3 + 2, none⟩ (.string s)) := (t4.mono fun _ _ h => .inl h).setCell (.inl (hoG g4 (by simp [own, Value.ownBlock]))) _
          have t6 : Heap.Touch G w (w4.setCell ⟨g4, off4 + k * 3 + 2, none⟩ (.string s)) := ((Heap.Touch.ofBelow HB.out).trans t5 fun k hk h => by
            rcases h with h | h
            · exact h
            · omega)
          refine ⟨⟨HRT.out, HH.out.below.trans (t6.below HH.out.below.size HH.out.newG), HH.out.grow.newG, .inl HH.out.gE, _, ?_, ?_, hoG⟩, t6⟩
          · rw [heap_setCell_other _ _ _ _ hgE]; exact hE4
          · rw [hlen]; exact hset
        have HEND := Lib.hid hend
        clear hE4 r4 t4 hoG hneE HX hmid hend
        go_wp2_with fail
        go_ret
        exact ⟨rfl, HEND.out⟩
end
end Go.Proofs.YtbgchhgdlceceaaGreatDoor.Drw

namespace Go.Proofs.YtbgchhgdlceceaaGreatDoor.Drw
open Go.RowKit Heap Dsk

section
variable {W w : World} {F G : Nat → Prop} {D E : Nat} {room : Int} {A : List FileP}

theorem append_drw (h : DrawAt W G E room A w) (n : Int) (s : ByteArray) (hs : s.size ≤ 4611686018427387904) : Calls Tryz.prog 101 #[.pointer (some ⟨E, 0, none⟩), .int .i64 n, .string s] w fun e w' => e = .returned (.int .i64 ((appD room A n s.data.toList).2 : Nat)) ∧ DrawAt W (Dsk.Grow G w) E room (appD room A n s.data.toList).1 w' ∧ Heap.Touch G w w' := by
  by_cases hnum : 0 ≤ n ∧ n ≤ 1099511627776
  · rcases idxF_cases A n with ⟨e1, e2⟩ | ⟨k, p, e1, e2, e3, e4, _⟩
    · by_cases hf : room - (total A : Int) < s.size
      · exact append_drw_full h n s hs hnum e1 e2 (.inl hf)
      · by_cases h20 : A.length = 20
        · exact append_drw_full h n s hs hnum e1 e2 (.inr h20)
        · exact append_drw_new h n s hnum e1 e2 hf h20
    · exact (append_drw_hit h n s hs k p e1 e2 e3 e4).mono fun e w' ⟨a, b, c⟩ => ⟨a, b.mono (fun _ hk => .inl hk) h.grow.newG, c⟩
  · exact append_drw_bad h n s hnum

theorem row_nums {w : World} {v : Value} {l : List Int} (h : Row w 3 1 v l.length (numsV l)) (hne : l ≠ []) : ∃ g off cap, v = .slice (some ⟨g, off, none⟩) l.length cap ∧ ∀ j, j < l.length → w.cell? ⟨g, off + j, none⟩ = some (.int .i64 (l.getD j 0)) := by
  rcases h.2 with ⟨rfl, h0⟩ | ⟨g, off, cap, cur, rfl, _⟩
  · exact absurd (List.eq_nil_of_length_eq_zero h0) hne
  · refine ⟨g, off, cap, rfl, fun j hj => ?_⟩
    rw [(h.cell j (by omega)).1]
    simp [numsV, List.getD, hj]

theorem equal_rows {v1 v2 : Value} {l : List Int} (h1 : Row w 3 1 v1 l.length (numsV l)) (h2 : Row w 3 1 v2 l.length (numsV l)) (hl : l.length ≤ 1000) :
    Calls Tryz.prog 56 #[v1, v2] w fun e w' => e = .returned (.bool true) ∧ Below w.heap.size w w' := by
  by_cases hn : l = []
  · subst hn
    obtain ⟨a1, c1, rfl⟩ := h1.slice
    obtain ⟨a2, c2, rfl⟩ := h2.slice
    exact (Tryz.slices_Equal_int_empty a1 a2 c1 0 c2 w (by omega)).mono fun e w' ⟨a, b⟩ => ⟨by rw [a]; rfl, by rw [b]; exact Below.refl _ _⟩
  · obtain ⟨g1, o1, c1, rfl, x1⟩ := row_nums h1 hn
    obtain ⟨g2, o2, c2, rfl, x2⟩ := row_nums h2 hn
    refine (Tryz.slices_Equal_int g1 o1 l.length c1 g2 o2 l.length c2 l l w (Nat.le_refl _) (Nat.le_refl _) (by omega) (by omega) x1 x2).mono fun e w' ⟨a, q, b⟩ => ⟨by rw [a]; simp, ?_⟩
    rw [b]; exact below_drewN w q

set_option maxHeartbeats 2000000 in
set_option maxRecDepth 100000 in
theorem same_true (hd : DiskAt W F D room A w) (hx : DrawAt W G E room A w) : Calls Tryz.prog 46 #[.pointer (some ⟨D, 0, none⟩), .pointer (some ⟨E, 0, none⟩)] w fun e w' => e = .returned (.bool true) ∧ Below w.heap.size w w' := by
  have HU1 := Lib.hid (used_any hd); have HU2 := Lib.hid (used_drw hx)
  have HL1 := Lib.hid (list_any hd)
  have HD := Lib.hid hd; have HX := Lib.hid hx
  have hfew := hx.right.few
  clear hd hx
  go_enter Tryz.func46, Tryz.ntmps46
  go_wp2_with fail
  refine HU1.out.mono ?_
  rintro e w' ⟨rfl, rfl⟩
  go_wp2_with fail
  refine HU2.out.mono ?_
  rintro e w' ⟨rfl, rfl⟩
  clear HU1 HU2
  go_wp2_with fail
  refine HL1.out.mono ?_
  rintro e w1 ⟨v1, rfl, hb1, hr1, ho1⟩
  have HL2 := Lib.hid (list_drw (HX.out.next hb1))
  have HB1 := Lib.hid hb1; have HR1 := Lib.hid hr1
  clear hb1 hr1 ho1 HL1
  go_wp2_with fail
  refine HL2.out.mono ?_
  rintro e w2 ⟨v2, rfl, hb2, hr2, ho2⟩
  have HEQ := Lib.hid (equal_rows (HR1.out.kept fun k _ hk => hb2.block k hk) hr2 (by rw [List.length_map]; omega))
  have HB2 := Lib.hid (HB1.out.trans (hb2.mono HB1.out.size))
  clear hb2 hr2 ho2 HR1 HB1 HL2
  go_wp2_with fail
  refine HEQ.out.mono ?_
  rintro e w3 ⟨rfl, hb3⟩
  have HB3 := Lib.hid (HB2.out.trans (hb3.mono HB2.out.size))
  clear hb3 HB2 HEQ
  have hx3 := HX.out.next HB3.out
  obtain ⟨v, h1, h2, h3⟩ := hx3.mem
  obtain ⟨L, hL⟩ : ∃ L, A.length = L := ⟨_, rfl⟩
  rw [hL] at h2 hfew
  obtain ⟨a, c, hv⟩ := h2.slice
  subst hv
  obtain ⟨c0, c1, cf⟩ := twoC h1
  have HL := Lib.hid hL; have H1 := Lib.hid h1; have H2 := Lib.hid h2
  clear hx3 h1 h2 h3 hL
  go_wp2_with fail
  go_loopw [27] (fun i wr => ∃ k : Nat, k ≤ L ∧ i = .int .i64 k ∧ Hid (Below w3.heap.size w3 wr)) (fun i _ => L - (intOf i).toNat)
  case atStart => exact ⟨0, Nat.zero_le _, rfl, Lib.hid (Below.refl _ _)⟩
  case round =>
    obtain ⟨k, hk, rfl, HW⟩ := hrel
    clear c0 c1 cf
    by_cases hlt : k < L
    · have hltz : (k : Int) < L := by omega
      have hrr : Row wr 101 3 (.slice a L c) L (plsV A) := H2.out.kept fun k _ hk => HW.out.block k hk
      have hkA : k < A.length := by rw [HL.out]; exact hlt
      have hp := List.getElem?_eq_getElem hkA
      have hpm : A[k] ∈ A := List.getElem_mem hkA
      generalize A[k] = p at hp hpm
      have hg := getF_mem HX.out.right.sorted hpm
      have hnum := HX.out.right.num p hpm
      have hrow := hrr.2
      rcases hrow with ⟨hv, h0⟩ | ⟨g, off, cap, cur, hv, _⟩
      · omega
      simp only [Value.slice.injEq, true_and] at hv
      obtain ⟨rfl, rfl⟩ := hv
      obtain ⟨d0, d1, d2⟩ := cells_pull hrr k p hp hlt
      obtain ⟨wa, hwa⟩ : ∃ wa, wa = wr.alloc (.cells #[.int .i64 p.n, .int .i64 (p.sure : Nat), .string ⟨p.text.toArray⟩] 101) := ⟨_, rfl⟩
      have hba : Below wr.heap.size wr wa := by rw [hwa]; exact (Below.refl _ _).alloc (Nat.le_refl _) _
      have hba3 := HB3.out.trans ((HW.out.trans (hba.mono HW.out.size)).mono HB3.out.size)
      have hea : wa.heap[wr.heap.size]? = some (.cells #[.int .i64 p.n, .int .i64 (p.sure : Nat), .string ⟨p.text.toArray⟩] 101 (0, 0)) := by rw [hwa]; exact heap_alloc_new wr _
      obtain ⟨x0, x1, x2, xf⟩ := threeC hea
      have hrd := read_any (HD.out.kept (hba3.mono HD.out.below.size) (fun k _ hk => hba3.block k hk)) p.n (by omega)
      rw [show readD A p.n = (p.text, 0) from by unfold readD; rw [hg]] at hrd
      have HRD := Lib.hid hrd
      have HF := Lib.hid (show Below w3.heap.size w3 wa from HW.out.trans (hba.mono HW.out.size))
      clear hrr hp hpm hg hnum hba hba3 hea hrd HW
      go_upto_region 6 with fail
      rw [← hwa]
      clear hwa d0 d1 d2
      go_wp2_with fail
      refine HRD.out.mono ?_
      rintro e w5 ⟨rfl, rfl⟩
      clear HRD
      go_wp2_with fail
      exact ⟨⟨k + 1, by omega, by go_num, HF⟩, by simp [intOf]; omega⟩
    · have hltz : ¬ (k : Int) < L := by omega
      have HF := Lib.hid (HB3.out.trans (HW.out.mono HB3.out.size))
      clear HW
      go_wp2
      go_ret
      exact ⟨rfl, HF.out⟩
end
end Go.Proofs.YtbgchhgdlceceaaGreatDoor.Drw
