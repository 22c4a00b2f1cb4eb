/- Parts of the proof, joined: The reference's disk: Remove.; The reference's disk: List.; The reference's disk: Crash.; slices.Insert of one paper, walked. -/
import Derived.Test.YtidacfhdhdnidaaGreatDoorVaultPlaysUptoM39
namespace Go.Proofs.YtidacfhdhdnidaaGreatDoor.Drw
open Go.RowKit Heap Dsk

theorem delF_at : ∀ {A : List FileP} {k : Nat} {p : FileP} {n : Int}, A[k]? = some p → p.n = n → (∀ y ∈ A.take k, y.n ≠ n) → delF A n = A.take k ++ A.drop (k + 1)
  | [], k, p, n, h, _, _ => by simp at h
  | a :: r, 0, p, n, h, e, _ => by
    simp only [List.getElem?_cons_zero, Option.some.injEq] at h; subst h
    unfold delF; rw [if_pos e]; rfl
  | a :: r, k + 1, p, n, h, e, hn => by
    unfold delF
    rw [if_neg (hn a (by simp)), delF_at (k := k) (by simpa using h) e (fun y hy => hn y (by rw [List.take_succ_cons]; exact List.mem_cons_of_mem _ hy))]
    rfl

theorem plsV_take (A : List FileP) (k : Nat) : (plsV A).take (k * 3) = plsV (A.take k) := by
  induction A generalizing k with
  | nil => simp [plsV]
  | cons a r ih =>
    cases k with
    | zero => simp [plsV]
    | succ k =>
      have hl : (cells a).length = 3 := rfl
      rw [plsV_cons, List.take_append, hl, show (k + 1) * 3 - 3 = k * 3 by omega, ih, List.take_of_length_le (by rw [hl]; omega)]
      rfl

theorem plsV_drop (A : List FileP) (k : Nat) : (plsV A).drop (k * 3) = plsV (A.drop k) := by
  induction A generalizing k with
  | nil => simp [plsV]
  | cons a r ih =>
    cases k with
    | zero => simp
    | succ k =>
      have hl : (cells a).length = 3 := rfl
      rw [plsV_cons, List.drop_append, hl, show (k + 1) * 3 - 3 = k * 3 by omega, ih, List.drop_of_length_le (by rw [hl]; omega)]
      rfl

theorem plsV_one (A : List FileP) : ∀ u ∈ plsV A, u.oneCell' = true := by
  induction A with
  | nil => intro u hu; cases hu
  | cons a r ih =>
    intro u hu
    rw [plsV_cons, List.mem_append] at hu
    rcases hu with hu | hu
    · simp only [cells, List.mem_cons, List.not_mem_nil, or_false] at hu
      rcases hu with rfl | rfl | rfl <;> rfl
    · exact ih u hu

theorem info_paper : (Tryz.prog.info? 101).map (fun i => (i.zero, i.size, i.bytes)) = some (some (.agg #[.int .i64 0, .int .i64 0, .string ⟨#[]⟩]), 3, 32) := by kernel_rfl

section
variable {W w : World} {G : Nat → Prop} {E : Nat} {room : Int} {A : List FileP}

set_option maxHeartbeats 2000000 in
set_option maxRecDepth 100000 in
theorem remove_drw (h : DrawAt W G E room A w) (n : Int) : Calls Tryz.prog 106 #[.pointer (some ⟨E, 0, none⟩), .int .i64 n] w fun e w' => e = .returned (.int .i64 ((removeD A n).2 : Nat)) ∧ DrawAt W (Dsk.Grow G w) E room (removeD A n).1 w' ∧ Heap.Touch G w w' := by
  have HA := Lib.hid (at_any h n)
  have HH := Lib.hid h
  have hfew := h.right.few
  have HGN := Lib.hid (show ∀ k, Dsk.Grow G w k → W.heap.size ≤ k from fun k hk => by
    rcases hk with hk | hk
    · exact h.newG k hk
    · exact Nat.le_trans h.below.size hk)
  rcases idxF_cases A n with ⟨e1, e2⟩ | ⟨k, p, e1, e2, e3, e4, e5⟩
  · have hr : removeD A n = (A, 4) := by unfold removeD; rw [e2]
    rw [hr]
    rw [e1] at HA
    clear h e1 e2 hr
    go_enter Tryz.func106, Tryz.ntmps106
    go_wp2_with fail
    refine HA.out.mono ?_
    rintro e w' ⟨rfl, hb⟩
    have HB := Lib.hid hb
    clear hb
    go_wp2_with fail
    go_ret
    exact ⟨rfl, (HH.out.next HB.out).mono (fun k hk => .inl hk) HGN.out, Heap.Touch.ofBelow HB.out⟩
  · have hr : removeD A n = (delF A n, 0) := by unfold removeD; rw [e4]
    rw [hr]
    have hkA := (List.getElem?_eq_some_iff.1 e2).1
    have hdel := delF_at e2 e3 e5
    have HRT := Lib.hid (h.right.del e4); have HDEL := Lib.hid hdel
    rw [e1] at HA
    obtain ⟨L, hL⟩ : ∃ L, A.length = L := ⟨_, rfl⟩
    have HL := Lib.hid hL
    rw [hL] at hkA hfew
    clear h e1 e2 e3 e4 e5 hr hdel hL
    obtain ⟨i0, hi, hz0, hz1, hz2⟩ := info_parts info_paper
    go_enter Tryz.func106, Tryz.ntmps106
    go_wp2_with fail
    refine HA.out.mono ?_
    rintro e w' ⟨rfl, hb⟩
    have HD := Lib.hid (HH.out.next hb)
    have HB := Lib.hid hb
    obtain ⟨v, h1, h2, h3⟩ := HD.out.mem
    rw [HL.out] at h2
    obtain ⟨c0, c1, cf⟩ := twoC h1
    have hrow := h2.2
    rcases hrow with ⟨hv, h0⟩ | ⟨g, off, cap, cur, hv, _⟩
    · omega
    subst hv
    obtain ⟨hncap, hcapm⟩ := h2.cap_le
    have HROW := Lib.hid h2; have HE := Lib.hid h1; have H3 := Lib.hid h3
    have hnews1 : ∀ j u, (plsV (A.take k))[j]? = some u → w'.drew.cell? ((⟨g, off, none⟩ : Addr).add j) = some u := fun j u hj => by
      rw [← plsV_take, List.getElem?_take] at hj
      split at hj
      · rw [Addr.add_lit]
        exact (h2.cell j (by omega)).1.trans hj
      · cases hj
    have hlen1 : (plsV (A.take k)).length = k * 3 := by rw [plsV_len, List.length_take, HL.out]; omega
    have hlen2 : (plsV (A.drop (k + 1))).length = (L - (k + 1)) * 3 := by rw [plsV_len, List.length_drop, HL.out]
    have HN1 := Lib.hid hnews1
    have hkc : k ≤ cap := by omega
    have hkc2 : k + 1 ≤ cap := by omega
    have hkL : k ≤ L := by omega
    have hkL2 : k + 1 ≤ L := by omega
    have hb1 : (0 : Int) ≤ (k : Int) + 1 := by omega
    have hb3 : (k : Int) + 1 ≤ (L : Int) := by omega
    have htn : ((k : Int) + 1).toNat = k + 1 := by omega
    have wz : IntKind.i64.wrap ((k : Int) + 1) = (k : Int) + 1 := IntWalk.i64_in _ (by omega)
    have hneE : E ≠ g := fun e => ne_row h1 h2 (by rw [e]; simp [own, Value.ownBlock])
    have HE2 := Lib.hid (fun w2 (t2 : Heap.Touch (own (.slice none 0 0)) w'.drew w2) => (⟨(t2.block E (heap_lt (w := w'.drew) h1) (by simp [own, Value.ownBlock])).trans h1, fun j u hj => by
        rw [← plsV_drop, List.getElem?_drop] at hj
        rw [Addr.add_lit]
        have hjl : j < (L - (k + 1)) * 3 := by
          have := (List.getElem?_eq_some_iff.1 hj).1
          rw [plsV_len, HL.out] at this; omega
        have h9 := (h2.cell ((k + 1) * 3 + j) (by omega)).1
        rw [hj, ← Nat.add_assoc] at h9
        exact (t2.cell (p := ⟨g, off + (k + 1) * 3 + j, none⟩) (World.block_lt_of_cell? w'.drew _ h9) (by simp [own, Value.ownBlock])).trans h9⟩ :
        w2.heap[E]? = some (.cells #[.int .i64 room, .slice (some ⟨g, off, none⟩) L cap] 84 (0, 0)) ∧ ∀ j u, (plsV (A.drop (k + 1)))[j]? = some u → w2.cell? ((⟨g, off + (k + 1) * 3, none⟩ : Addr).add j) = some u))
    have HFIN := Lib.hid (fun w2 w3 a2 n2 v3 (t2 : Heap.Touch (own (.slice none 0 0)) w'.drew w2) (o2 : ∀ j, own (.slice a2 k n2) j → own (.slice none 0 0) j ∨ w'.drew.heap.size ≤ j) (r3 : Row w3 101 3 v3 (k + (L - (k + 1))) (plsV (A.take k) ++ plsV (A.drop (k + 1)))) (t3 : Heap.Touch (own (.slice a2 k n2)) w2 w3) (o3 : ∀ j, own v3 j → own (.slice a2 k n2) j ∨ w2.heap.size ≤ j) => (by
      have hnew2 : ∀ j, own (.slice a2 k n2) j → w'.heap.size ≤ j := fun j hj => by
        rcases o2 j hj with h | h
        · simp [own, Value.ownBlock] at h
        · exact h
      have hnew3 : ∀ j, own v3 j → w'.heap.size ≤ j := fun j hj => by
        rcases o3 j hj with h | h
        · exact hnew2 j h
        · exact Nat.le_trans t2.size h
      have tw : Heap.Touch (fun _ => False) w' w3 := ((Heap.Touch.refl _ w').drew.after (t2.mono fun j _ hj => by simp [own, Value.ownBlock] at hj)).trans t3 (fun j hj hj2 => by have := hnew2 j hj2; omega)
      have hE3 : w3.heap[E]? = some (.cells #[.int .i64 room, .slice (some ⟨g, off, none⟩) L cap] 84 (0, 0)) := (tw.block E (heap_lt h1) (fun h => h)).trans h1
      have hE4 := heap_setCell_same w3 E 1 _ _ v3 hE3
      have tf : Heap.Touch G w' (w3.setCell ⟨E, 1, none⟩ v3) := (tw.mono fun _ _ h => h.elim).setCell (.inl HD.out.gE) _
      have hlen : k + (L - (k + 1)) = (A.take k ++ A.drop (k + 1)).length := by rw [List.length_append, List.length_take, List.length_drop, HL.out]; omega
      refine ⟨⟨hE3, ⟨HRT.out, (HD.out.below).trans (tf.below HD.out.below.size HD.out.newG), HGN.out, .inl HD.out.gE, v3, hE4, ?_, fun j hj => .inr (Nat.le_trans hb.size (hnew3 j hj))⟩⟩, (Heap.Touch.ofBelow hb).after tf⟩
      rw [HDEL.out]
      rw [hlen, ← plsV_append] at r3
      refine r3.kept fun j hj _ => heap_setCell_other _ _ _ _ (fun e => ?_)
      have h5 := hnew3 j hj
      have h6 := heap_lt h1
      have e' : j = E := e
      omega : (w3.heap[E]? = some (.cells #[.int .i64 room, .slice (some ⟨g, off, none⟩) L cap] 84 (0, 0)) ∧ DrawAt W (Dsk.Grow G w) E room (delF A n) (w3.setCell ⟨E, 1, none⟩ v3)) ∧ Heap.Touch G w (w3.setCell ⟨E, 1, none⟩ v3)))
    clear hb h1 h2 h3 HA hnews1
    by_cases hcp : cap = k + 1
    · obtain rfl : L = k + 1 := by omega
      subst hcp
      have hz : k + 1 - (k + 1) = 0 := by omega
      rw [hz] at HFIN hlen2
      have hq1 : (k : Int) ≤ (k : Int) + 1 := by omega
      have hnil : plsV (A.drop (k + 1)) = [] := List.eq_nil_of_length_eq_zero (by rw [hlen2])
      go_upto_region 4 with fail
      go_region_law (first
        | (refine Heap.step_append_row _ rfl (.const (.slice none 0 0)) (.tmp 17) 82 rfl 101 i0 _ 3 32 Tryz.underlying82 hi hz0 hz1 hz2 rfl (by decide) (.slice none 0 0) 0 [] (by simp [Act.eval, Act.put]) (Row.nil _ _ _) ⟨g, off, none⟩ k (k + 1) (plsV (A.take k)) (by simp [Act.eval, Act.put]) hlen1 HN1.out (plsV_one _) (by unfold maxLen; omega) (by omega) ?_
           intro v2 w2 r2 t2 o2
           rw [Nat.zero_add, List.nil_append] at r2
           obtain ⟨a2, n2, rfl⟩ := r2.slice
           have hx := HE2.out w2 t2
           obtain ⟨b0, b1, bf⟩ := twoC hx.1
           have HX := Lib.hid hx.2
           have R2 := Lib.hid r2; have T2 := Lib.hid t2; have O2 := Lib.hid o2
           clear hx r2 t2 o2)
        | (refine Heap.step_append_row _ rfl (.tmp 18) (.tmp 25) 82 rfl 101 i0 _ 3 32 Tryz.underlying82 hi hz0 hz1 hz2 rfl (by decide) (.slice a2 k n2) k (plsV (A.take k)) (by simp [Act.eval, Act.put]) R2.out ⟨g, off, none⟩ 0 0 (plsV (A.drop (k + 1))) (by simp [Act.eval, Act.put]) hlen2 (fun j u hj => by rw [hnil] at hj; simp at hj) (plsV_one _) (by unfold maxLen; omega) (by omega) ?_
           intro v3 w3 r3 t3 o3
           have hx := HFIN.out w2 w3 a2 n2 v3 T2.out O2.out r3 t3 o3
           obtain ⟨x0, x1, xf⟩ := twoC hx.1.1
           obtain ⟨a3, n3, rfl⟩ := r3.slice
           have HF := Lib.hid (⟨hx.1.2, hx.2⟩ : DrawAt W (Dsk.Grow G w) E room (delF A n) (w3.setCell ⟨E, 1, none⟩ (.slice a3 (k + 0) n3)) ∧ Heap.Touch G w (w3.setCell ⟨E, 1, none⟩ (.slice a3 (k + 0) n3)))
           clear hx r3 t3 o3))
      all_goals
        go_wp2
        go_ret
        exact ⟨rfl, HF.out⟩
    · go_upto_region 4 with fail
      go_region_law (first
        | (refine Heap.step_append_row _ rfl (.const (.slice none 0 0)) (.tmp 17) 82 rfl 101 i0 _ 3 32 Tryz.underlying82 hi hz0 hz1 hz2 rfl (by decide) (.slice none 0 0) 0 [] (by simp [Act.eval, Act.put]) (Row.nil _ _ _) ⟨g, off, none⟩ k cap (plsV (A.take k)) (by simp [Act.eval, Act.put]) hlen1 HN1.out (plsV_one _) (by unfold maxLen; omega) (by omega) ?_
           intro v2 w2 r2 t2 o2
           rw [Nat.zero_add, List.nil_append] at r2
           obtain ⟨a2, n2, rfl⟩ := r2.slice
           have hx := HE2.out w2 t2
           obtain ⟨b0, b1, bf⟩ := twoC hx.1
           have HX := Lib.hid hx.2
           have R2 := Lib.hid r2; have T2 := Lib.hid t2; have O2 := Lib.hid o2
           clear hx r2 t2 o2)
        | (refine Heap.step_append_row _ rfl (.tmp 18) (.tmp 25) 82 rfl 101 i0 _ 3 32 Tryz.underlying82 hi hz0 hz1 hz2 rfl (by decide) (.slice a2 k n2) k (plsV (A.take k)) (by simp [Act.eval, Act.put]) R2.out ⟨g, off + (k + 1) * 3, none⟩ (L - (k + 1)) (cap - (k + 1)) (plsV (A.drop (k + 1))) (by simp [Act.eval, Act.put]) hlen2 HX.out (plsV_one _) (by unfold maxLen; omega) (by omega) ?_
           intro v3 w3 r3 t3 o3
           have hx := HFIN.out w2 w3 a2 n2 v3 T2.out O2.out r3 t3 o3
           obtain ⟨x0, x1, xf⟩ := twoC hx.1.1
           obtain ⟨a3, n3, rfl⟩ := r3.slice
           have HF := Lib.hid (⟨hx.1.2, hx.2⟩ : DrawAt W (Dsk.Grow G w) E room (delF A n) (w3.setCell ⟨E, 1, none⟩ (.slice a3 (k + (L - (k + 1))) n3)) ∧ Heap.Touch G w (w3.setCell ⟨E, 1, none⟩ (.slice a3 (k + (L - (k + 1))) n3)))
           clear hx r3 t3 o3))
      all_goals
        go_wp2
        go_ret
        exact ⟨rfl, HF.out⟩
end
end Go.Proofs.YtidacfhdhdnidaaGreatDoor.Drw

namespace Go.Proofs.YtidacfhdhdnidaaGreatDoor.Drw
open Go.RowKit Heap Dsk

def LN (w : World) (l : List Int) (v : Value) (wr : World) : Prop := Below w.heap.size w wr ∧ Row wr 3 1 v l.length (numsV l) ∧ ∀ k, own v k → w.heap.size ≤ k

theorem LN.step {w wr : World} {l : List Int} {v : Value} (h : LN w l v wr) (x : Int) :
    Row (wr.alloc (.cells #[.int .i64 x] 3)) 3 1 v l.length (numsV l) ∧
      ∀ v2 w3, Row w3 3 1 v2 (l.length + 1) (numsV l ++ [.int .i64 x]) → Heap.Touch (own v) (wr.alloc (.cells #[.int .i64 x] 3)) w3 → (∀ k, own v2 k → own v k ∨ wr.heap.size + 1 ≤ k) → LN w (l ++ [x]) v2 w3 := by
  obtain ⟨hb, hr, ho⟩ := h
  have hba : Below wr.heap.size wr (wr.alloc (.cells #[.int .i64 x] 3)) := (Below.refl _ _).alloc (Nat.le_refl _) _
  refine ⟨hr.kept fun k _ hk => hba.block k hk, fun v2 w3 r3 t3 o3 => ⟨?_, ?_, ?_⟩⟩
  · have h1 := hb.trans (hba.mono hb.size)
    exact h1.trans (t3.below h1.size fun k hk => ho k hk)
  · have e1 : (l ++ [x]).length = l.length + 1 := by simp
    have e2 : numsV (l ++ [x]) = numsV l ++ [.int .i64 x] := by simp [numsV]
    rw [e1, e2]; exact r3
  · intro k hk
    rcases o3 k hk with hk | hk
    · exact ho k hk
    · have := hb.size; omega

section
variable {W w : World} {G : Nat → Prop} {E : Nat} {room : Int} {A : List FileP}

set_option maxHeartbeats 2000000 in
set_option maxRecDepth 100000 in
theorem list_drw (h : DrawAt W G E room A w) : Calls Tryz.prog 55 #[.pointer (some ⟨E, 0, none⟩)] w fun e w' => ∃ v, e = .returned v ∧ LN w (A.map (·.n)) v w' := by
  have HH := Lib.hid h
  have hfew := h.right.few
  obtain ⟨L, hL⟩ : ∃ L, A.length = L := ⟨_, rfl⟩
  rw [hL] at hfew
  have HL := Lib.hid hL
  clear h hL
  obtain ⟨i0, hi, hz0, hz1, hz2⟩ := info_parts info_intD
  go_enter Tryz.func55, Tryz.ntmps55
  go_wp2_with fail
  go_loopw [3, 4] (fun s i wr => ∃ k : Nat, k ≤ L ∧ i = .int .i64 k ∧ Hid (LN w ((A.take k).map (·.n)) s wr)) (fun _ i _ => L - (intOf i).toNat)
  case atStart => exact ⟨0, Nat.zero_le _, rfl, Lib.hid ⟨Below.refl _ _, Row.nil _ _ _, fun k hk => by simp [own, Value.ownBlock] at hk⟩⟩
  case round =>
    obtain ⟨k, hk, rfl, HR⟩ := hrel
    obtain ⟨v, h1, h2, h3⟩ := (HH.out.next HR.out.1).mem
    rw [HL.out] at h2
    obtain ⟨c0, c1, cf⟩ := twoC h1
    obtain ⟨a, c, hv⟩ := h2.slice
    subst hv
    by_cases hlt : k < L
    · have hltz : (k : Int) < L := by omega
      have hkA : k < A.length := by rw [HL.out]; exact hlt
      have hp := List.getElem?_eq_getElem hkA
      have hst : (A.take (k + 1)).map (·.n) = (A.take k).map (·.n) ++ [A[k].n] := by
        rw [List.take_add_one, hp]
        show ((A.take k) ++ [A[k]]).map _ = _
        rw [List.map_append]; rfl
      have hll : ((A.take k).map (·.n)).length = k := by rw [List.length_map, List.length_take]; omega
      generalize A[k] = p at hp hst
      have hrow := h2.2
      rcases hrow with ⟨hv, h0⟩ | ⟨g, off, cap, cur, hv, _⟩
      · omega
      simp only [Value.slice.injEq, true_and] at hv
      obtain ⟨rfl, rfl⟩ := hv
      obtain ⟨d0, d1, d2⟩ := cells_pull h2 k p hp hlt
      have HST := Lib.hid hst; have HLL := Lib.hid hll
      have HG := Lib.hid (LN.step HR.out p.n)
      obtain ⟨a3, c3, hs3⟩ := HR.out.2.1.slice
      subst hs3
      clear hp hst hll h1 h2 h3 HR d1 d2
      generalize (A.take k).map (·.n) = l at *
      have hk20 : l.length ≤ 20 := by rw [HLL.out]; omega
      go_wp2_with (at_builtin; refine Heap.wpList_append_row _ rfl (.tmp 14) (.tmp 23) 22 rfl 3 i0 _ 1 8 Tryz.underlying22 hi hz0 hz1 hz2 rfl (by decide) _ l.length _ rfl HG.out.1 ⟨wr.heap.size, 0, none⟩ 1 1 [.int .i64 p.n] rfl rfl (news_intD wr p.n _) (by simp [Value.oneCell']) (by unfold maxLen; omega) (by omega) ?_)
      intro v2 w3 r3 t3 o3
      have HF := Lib.hid (HG.out.2 v2 w3 r3 t3 o3)
      clear r3 t3 o3
      go_wp2_with fail
      exact ⟨⟨k + 1, by omega, by go_num, by rw [HST.out]; exact HF⟩, by simp [intOf]; omega⟩
    · have hltz : ¬ (k : Int) < L := by omega
      obtain rfl : k = L := by omega
      have HF := Lib.hid HR.out
      rw [List.take_of_length_le (by rw [HL.out]; exact Nat.le_refl _)] at HF
      clear h1 h2 h3 HR
      go_wp2_with fail
      go_ret
      exact ⟨_, rfl, HF.out⟩
end
end Go.Proofs.YtidacfhdhdnidaaGreatDoor.Drw

namespace Go.Proofs.YtidacfhdhdnidaaGreatDoor.Drw
open Go.RowKit Heap Dsk

theorem crashI_form {K i : Nat} {A : List FileP} (hi : i < A.length) : (crashI K i A)[i]? = some A[i] ∧ (crashI K i A).set i (keptF K A[i]) = crashI K (i + 1) A ∧ (crashI K i A).length = A.length := by
  have hd : A.drop i = A[i] :: A.drop (i + 1) := List.drop_eq_getElem_cons hi
  have hl : ((A.take i).map (keptF K)).length = i := by rw [List.length_map, List.length_take]; omega
  refine ⟨?_, ?_, ?_⟩
  · unfold crashI
    rw [List.getElem?_append_right (by omega), hl, Nat.sub_self, hd]; rfl
  · unfold crashI
    rw [List.set_append_right _ _ (by omega), hl, Nat.sub_self, hd, List.set_cons_zero, List.take_add_one, List.getElem?_eq_getElem hi]
    show _ = ((A.take i) ++ [A[i]]).map (keptF K) ++ _
    rw [List.map_append]; simp
  · unfold crashI
    rw [List.length_append, hl, List.length_drop]; omega

theorem total_crash : ∀ (A : List FileP) (K : Nat), total (crashD A K) ≤ total A
  | [], _ => Nat.le_refl _
  | a :: r, K => by
    have ih := total_crash r K
    show (keptF K a).text.length + total (crashD r K) ≤ a.text.length + total r
    have : (keptF K a).text.length ≤ a.text.length := by
      show (a.text.take _).length ≤ _
      rw [List.length_take]; omega
    omega

theorem RightD.crash {room : Int} {A : List FileP} (h : RightD room A) (K : Nat) : RightD room (crashD A K) := by
  have hm : (crashD A K).map (·.n) = A.map (·.n) := by unfold crashD; rw [List.map_map]; rfl
  refine ⟨by rw [sorted_iff, hm, ← sorted_iff]; exact h.sorted, by unfold crashD; rw [List.length_map]; exact h.few, by have := total_crash A K; have := h.fits; omega, h.small, fun x hx => ?_, fun x hx => ?_⟩
  · obtain ⟨y, hy, rfl⟩ := List.mem_map.1 hx
    have := h.sure y hy
    show y.sure + min K (y.text.length - y.sure) ≤ (y.text.take (y.sure + min K (y.text.length - y.sure))).length
    rw [List.length_take]; omega
  · obtain ⟨y, hy, rfl⟩ := List.mem_map.1 hx
    exact h.num y hy

def CW (E : Nat) (room : Int) (v : Value) (n : Nat) (l : List FileP) (w wr : World) : Prop :=
  wr.heap[E]? = some (.cells #[.int .i64 room, v] 84 (0, 0)) ∧ Row wr 101 3 v n (plsV l) ∧ Heap.Touch (own v) w wr

/-- A paper's cell, written. -/
theorem CW.put {E : Nat} {room : Int} {n g off cap : Nat} {l : List FileP} {w wr : World} {k j : Nat} {p q : FileP} {u : Value} (h : CW E room (.slice (some ⟨g, off, none⟩) n cap) n l w wr) (hp : l[k]? = some p) (hk : k < n) (hj : j < 3) (hq : cells q = (cells p).set j u) (hne : E ≠ g) :
    CW E room (.slice (some ⟨g, off, none⟩) n cap) n (l.set k q) w (wr.setCell ⟨g, off + k * 3 + j, none⟩ u) := by
  have hset := Row.set h.2.1 (k * 3 + j) (by omega) u
  rw [plsV_set hp hj hq, ← Nat.add_assoc] at hset
  exact ⟨(heap_setCell_other _ _ _ _ hne).trans h.1, hset, h.2.2.setCell (.inl (by simp [own, Value.ownBlock])) _⟩

theorem byte_back (X : ByteArray) : (⟨X.data.toList.toArray⟩ : ByteArray) = X := by cases X; simp

/-- Where the look through a text stands. -/
def InC (sure K : Nat) (T T2 : ByteArray) (kk : Nat) : Prop := (T2 = T ∧ sure ≤ kk ∧ kk ≤ sure + K ∧ kk ≤ T.size) ∨ (sure + K < T.size ∧ T2 = T.extract 0 (sure + K) ∧ kk = sure + K + 1)

section
variable {W w : World} {G : Nat → Prop} {E : Nat} {room : Int} {A : List FileP}

set_option maxHeartbeats 2000000 in
set_option maxRecDepth 100000 in
theorem crash_drw (h : DrawAt W G E room A w) (keep : Int) (hkp : -9223372036854775808 ≤ keep ∧ keep ≤ 9223372036854775807) : Calls Tryz.prog 52 #[.pointer (some ⟨E, 0, none⟩), .int .i64 keep] w fun e w' => e = .returned (.tuple #[]) ∧ DrawAt W G E room (crashD A keep.toNat) w' ∧ Heap.Touch G w w' := by
  have HH := Lib.hid h
  obtain ⟨K, hK⟩ : ∃ K, keep.toNat = K := ⟨_, rfl⟩
  rw [hK]
  have HK := Lib.hid hK
  obtain ⟨v, h1, h2, h3⟩ := h.mem
  have hfew := h.right.few
  obtain ⟨L, hL⟩ : ∃ L, A.length = L := ⟨_, rfl⟩
  rw [hL] at hfew h2
  have HL := Lib.hid hL
  obtain ⟨a, c, hv⟩ := h2.slice
  subst hv
  have H0 := Lib.hid (show CW E room (.slice a L c) L (crashI K 0 A) w w from ⟨h1, by rw [crashI_zero]; exact h2, Heap.Touch.refl _ _⟩)
  have HEND := Lib.hid (fun wr (q : CW E room (.slice a L c) L (crashI K L A) w wr) => (by
    obtain ⟨q1, q2, q3⟩ := q
    rw [← hL, crashI_all] at q2
    have tf : Heap.Touch G w wr := q3.mono fun j _ hj => h3 j (by rw [hL] at *; exact hj)
    exact ⟨⟨RightD.crash h.right K, h.below.trans (tf.below h.below.size h.newG), h.newG, h.gE, _, q1, by rw [show (crashD A K).length = A.length from by unfold crashD; rw [List.length_map]]; rw [hL] at q2 ⊢; exact q2, h3⟩, tf⟩ : DrawAt W G E room (crashD A K) wr ∧ Heap.Touch G w wr))
  clear h h1 h2 h3 hL hK
  go_enter Tryz.func52, Tryz.ntmps52
  go_wp2_with fail
  go_loopw [4] (fun i wr => ∃ k : Nat, k ≤ L ∧ i = .int .i64 k ∧ Hid (CW E room (.slice a L c) L (crashI K k A) w wr)) (fun i _ => L - (intOf i).toNat)
  case atStart => exact ⟨0, Nat.zero_le _, rfl, H0⟩
  case round =>
    obtain ⟨k, hk, rfl, HR⟩ := hrel
    clear H0
    obtain ⟨c0, c1, cf⟩ := twoC HR.out.1
    by_cases hlt : k < L
    · have hltz : (k : Int) < L := by omega
      have hkA : k < A.length := by rw [HL.out]; exact hlt
      obtain ⟨g1, g2, g3⟩ := crashI_form (K := K) hkA
      have hpm : A[k] ∈ A := List.getElem_mem hkA
      generalize A[k] = p at g1 g2 hpm
      have hsure := HH.out.right.sure p hpm
      have hplen := HH.out.right.len hpm
      have hrow := HR.out.2.1.2
      rcases hrow with ⟨hv, h0⟩ | ⟨g, off, cap, cur, hv, _⟩
      · omega
      simp only [Value.slice.injEq, true_and] at hv
      obtain ⟨rfl, rfl⟩ := hv
      have hneE : E ≠ g := fun e => ne_row HR.out.1 HR.out.2.1 (by rw [e]; simp [own, Value.ownBlock])
      obtain ⟨d0, d1, d2⟩ := cells_pull HR.out.2.1 k p g1 hlt
      obtain ⟨T, hT, hTs, hTl⟩ := text_of p.text
      have G1 := Lib.hid g1; have G2 := Lib.hid g2; have HT := Lib.hid hT; have HTS := Lib.hid hTs; have HTL := Lib.hid hTl
      have hsureT : p.sure ≤ T.size := by rw [hTs]; exact hsure
      have hTlen : T.size ≤ 65536 := by rw [hTs]; exact hplen
      clear g1 g2 g3 hpm hsure hplen hT hTs hTl d0 d2
      -- the text is looked through from what is sure on
      have HI0 := Lib.hid (show CW E room (.slice (some ⟨g, off, none⟩) L c) L ((crashI K k A).set k ⟨p.n, p.text, p.sure⟩) w wr from by
        rw [show (crashI K k A).set k ⟨p.n, p.text, p.sure⟩ = crashI K k A from by
          have := G1.out
          apply List.ext_getElem?
          intro j
          by_cases hj : k = j
          · subst hj; rw [List.getElem?_set_self (List.getElem?_eq_some_iff.1 this).1]; exact this.symm
          · rw [List.getElem?_set_ne hj]]
        exact HR.out)
      have HI1 := Lib.hid (show CW E room (.slice (some ⟨g, off, none⟩) L c) L ((crashI K k A).set k ⟨p.n, T.data.toList, p.sure⟩) w wr ∧ InC p.sure K T T p.sure from ⟨by rw [HTL.out]; exact HI0.out, .inl ⟨rfl, Nat.le_refl _, Nat.le_add_right _ _, hsureT⟩⟩)
      clear HI0
      go_wp2_with fail
      go_loopw [6] (fun i wr => ∃ (kk : Nat) (T2 : ByteArray), i = .int .i64 kk ∧ Hid (CW E room (.slice (some ⟨g, off, none⟩) L c) L ((crashI K k A).set k ⟨p.n, T2.data.toList, p.sure⟩) w wr ∧ InC p.sure K T T2 kk)) (fun i _ => T.size + 1 - (intOf i).toNat)
      case atStart => exact ⟨p.sure, T, rfl, HI1⟩
      case round =>
        obtain ⟨kk, T2, rfl, HI⟩ := hrel
        clear HI1 HR c0 c1 cf d1
        have hlk : ((crashI K k A).set k ⟨p.n, T2.data.toList, p.sure⟩)[k]? = some ⟨p.n, T2.data.toList, p.sure⟩ := by
          rw [List.getElem?_set_self (List.getElem?_eq_some_iff.1 G1.out).1]
        obtain ⟨c0, c1, cf⟩ := twoC HI.out.1.1
        obtain ⟨d0, d1, d2⟩ := cells_pull HI.out.1.2.1 k _ hlk hlt
        obtain ⟨f0, f1, f2⟩ := frozen_pull HI.out.1.2.1 k hlt
        rw [byte_back T2] at d2
        have HLK := Lib.hid hlk
        clear hlk
        by_cases hin : kk < T2.size
        · have hinz : (kk : Int) < T2.size := by omega
          have hun : T2 = T ∧ p.sure ≤ kk ∧ kk ≤ p.sure + K ∧ kk ≤ T.size := by
            rcases HI.out.2 with h | ⟨h1, h2, h3⟩
            · exact h
            · rw [h2, ByteArray.size_extract] at hin
              omega
          obtain ⟨rfl, hu1, hu2, hu3⟩ := hun
          have wz : IntKind.i64.wrap ((kk : Int) - (p.sure : Int)) = (kk : Int) - (p.sure : Int) := IntWalk.i64_in _ (by omega)
          by_cases hge : keep ≤ (kk : Int) - p.sure
          · have hkk : kk = p.sure + K := by have := HK.out; omega
            have HF := Lib.hid (show CW E room (.slice (some ⟨g, off, none⟩) L c) L ((crashI K k A).set k ⟨p.n, (T2.extract 0 kk).data.toList, p.sure⟩) w (wr.setCell ⟨g, off + k * 3 + 2, none⟩ (.string (T2.extract 0 kk))) ∧ InC p.sure K T2 (T2.extract 0 kk) (kk + 1) from by
              refine ⟨?_, .inr ⟨by omega, by rw [hkk], by omega⟩⟩
              have := CW.put (j := 2) (u := .string (T2.extract 0 kk)) (q := ⟨p.n, (T2.extract 0 kk).data.toList, p.sure⟩) HI.out.1 HLK.out hlt (by omega) (by show [_, _, Value.string (⟨(T2.extract 0 kk).data.toList.toArray⟩ : ByteArray)] = _; rw [byte_back]; rfl) hneE
              rw [List.set_set] at this
              exact this)
            clear HI hkk
            go_wp2_with fail
            exact ⟨⟨kk + 1, _, by go_num, HF⟩, by simp [intOf]; omega⟩
          · have hgz : (kk : Int) - p.sure < keep := by omega
            have HF := Lib.hid (show CW E room (.slice (some ⟨g, off, none⟩) L c) L ((crashI K k A).set k ⟨p.n, T2.data.toList, p.sure⟩) w wr ∧ InC p.sure K T2 T2 (kk + 1) from ⟨HI.out.1, .inl ⟨rfl, by omega, by have := HK.out; omega, by omega⟩⟩)
            clear HI
            go_wp2_with fail
            exact ⟨⟨kk + 1, _, by go_num, HF⟩, by simp [intOf]; omega⟩
        · have hinz : ¬ (kk : Int) < T2.size := by omega
          have hfin : keptF K p = ⟨p.n, T2.data.toList, T2.size⟩ := by
            have hS : p.text.length = T.size := HTS.out.symm
            unfold keptF
            rcases HI.out.2 with ⟨h1, h2, h3, h4⟩ | ⟨h1, h2, h3⟩
            · subst h1
              rw [hS, show p.sure + min K (T2.size - p.sure) = T2.size by omega, ← hS, List.take_length, HTL.out]
            · have hs2 : T2.size = p.sure + K := by rw [h2, ByteArray.size_extract]; omega
              rw [hS, show p.sure + min K (T.size - p.sure) = p.sure + K by omega, hs2, h2, ← take_text HTL.out]
          have HF := Lib.hid (show CW E room (.slice (some ⟨g, off, none⟩) L c) L (crashI K (k + 1) A) w (wr.setCell ⟨g, off + k * 3 + 1, none⟩ (.int .i64 (T2.size : Nat))) from by
            have := CW.put (j := 1) (u := .int .i64 (T2.size : Nat)) (q := ⟨p.n, T2.data.toList, T2.size⟩) HI.out.1 HLK.out hlt (by omega) (by simp [cells]) hneE
            rw [List.set_set, ← hfin, G2.out] at this
            exact this)
          clear HI hfin HLK
          go_wp2_with fail
          exact ⟨⟨k + 1, by omega, by go_num, HF⟩, by simp [intOf]; omega⟩
    · have hltz : ¬ (k : Int) < L := by omega
      obtain rfl : k = L := by omega
      go_wp2
      go_end0
      exact ⟨rfl, HEND.out _ HR.out⟩
end
end Go.Proofs.YtidacfhdhdnidaaGreatDoor.Drw

namespace Go.Proofs.YtidacfhdhdnidaaGreatDoor.Drw
open Go.RowKit Heap Dsk

/-- 'copy' into a row of elements of so many cells each. -/
theorem run_copyN {P : Program} (w : World) (dT sT ty elem : TypeId) (size g o dLen dCap : Nat) (a : Addr) (sLen sCap : Nat) (cur : Array Value) (t : TypeId) (cs : List Value) (m : Nat)
    (hu : P.underlying dT = some (.slice elem)) (hs : (P.info? elem).map (·.size) = some size)
    (hg : w.heap[g]? = some (.cells cur t (0, 0))) (hm : Nat.min sLen dLen = m) (hn : cs.length = m * size)
    (hsrc : ∀ j v, cs[j]? = some v → w.cell? (a.add j) = some v) (hfit : o + cs.length ≤ cur.size) (h1 : ∀ v ∈ cs, v.oneCell' = true) :
    (Builtin.copy_ #[dT, sT] ty #[.slice (some ⟨g, o, none⟩) dLen dCap, .slice (some a) sLen sCap]).run P w =
      .ok (goInt m) (w.setRow g (cur.toList.take o ++ cs ++ cur.toList.drop (o + cs.length)).toArray) := by
  have hl := run_loadCells_list (P := P) w a cs hsrc
  have hst := run_storeCells_at P g o t cs 0 cur w hg (by simpa using hfit) h1
  cases hq : P.info? elem with
  | none => simp [hq] at hs
  | some i =>
    have hi : i.size = size := by simpa [hq] using hs
    rw [hn] at hl hst
    simp [Builtin.copy_, run_underlying hu, Builtin.lenOf, Builtin.firstCells, sizeOf, typeInfo, hq, hi, hm, hl, hst, hn]

/-! ### lists -/
theorem shift_list {P X1 X2 R N : List Value} {A : List Value} (hA : A.length = P.length + X1.length + N.length) (hAt : A.take (P.length + X1.length) = P ++ X1) :
    (A ++ X2 ++ R).take (P.length + X1.length) ++ N ++ (A ++ X2 ++ R).drop (P.length + X1.length + N.length) = P ++ (X1 ++ N ++ X2) ++ R := by
  rw [List.append_assoc A, List.take_append, hAt, List.drop_append, ← hA, List.drop_length, Nat.sub_self, List.drop_zero]
  rw [show P.length + X1.length - A.length = 0 by omega, List.take_zero]
  simp

theorem insertV (l : List FileP) (q : FileP) (i : Nat) : plsV (l.take i ++ q :: l.drop i) = (plsV l).take (i * 3) ++ cells q ++ (plsV l).drop (i * 3) := by
  rw [plsV_append, plsV_cons, plsV_take, plsV_drop, List.append_assoc]

section
variable {w : World} {n i vb : Nat} {l : List FileP} {q : FileP}

set_option maxHeartbeats 2000000 in
set_option maxRecDepth 100000 in
/-- At the end. -/
theorem insert_end (v : Value) (hl : l.length = n) (hn : n ≤ 20) (hrow : Row w 101 3 v n (plsV l)) (hvb : w.heap[vb]? = some (.cells #[.int .i64 q.n, .int .i64 (q.sure : Nat), .string ⟨q.text.toArray⟩] 101 (0, 0))) :
    Calls Tryz.prog 151 #[v, .int .i64 n, .slice (some ⟨vb, 0, none⟩) 1 1] w fun e w' => ∃ v', e = .returned v' ∧ Row w' 101 3 v' (n + 1) (plsV (l ++ [q])) ∧ Heap.Touch (own v) w w' ∧ ∀ k, own v' k → own v k ∨ w.heap.size ≤ k := by
  have HR := Lib.hid hrow
  have hnews : ∀ j u, (cells q)[j]? = some u → w.cell? ((⟨vb, 0, none⟩ : Addr).add j) = some u := fun j u hj => by
    rw [Addr.add_lit, cell_of_row w vb (0 + j) _ _ _ hvb, Nat.zero_add]
    rcases j with _ | _ | _ | j
    · simpa [cells] using hj
    · simpa [cells] using hj
    · simpa [cells] using hj
    · simp [cells] at hj
  have hone : ∀ u ∈ cells q, u.oneCell' = true := fun u hu => by
    simp only [cells, List.mem_cons, List.not_mem_nil, or_false] at hu
    rcases hu with rfl | rfl | rfl <;> rfl
  have HE := Lib.hid (show plsV (l ++ [q]) = plsV l ++ cells q from by rw [plsV_append]; simp [plsV])
  rw [HE.out]
  have HN := Lib.hid hnews; have HO := Lib.hid hone
  clear hnews hone
  obtain ⟨i0, hi, hz0, hz1, hz2⟩ := info_parts info_paper
  rcases hrow.2 with ⟨rfl, rfl⟩ | ⟨g, off, cap, cur, rfl, hg, h1, h2, _⟩
  · clear hrow hvb hl
    go_enter Tryz.func151, Tryz.ntmps151
    go_wp2_with (at_builtin; refine Heap.wpList_append_row _ rfl (.tmp 23) (.tmp 24) 82 rfl 101 i0 _ 3 32 Tryz.underlying82 hi hz0 hz1 hz2 rfl (by decide) _ 0 _ rfl HR.out ⟨vb, 0, none⟩ 1 1 (cells q) rfl rfl HN.out HO.out (by unfold maxLen; omega) (by omega) ?_)
    intro v2 w3 r3 t3 o3
    have HF := Lib.hid (⟨r3, t3, o3⟩ : Row w3 101 3 v2 (0 + 1) (plsV l ++ cells q) ∧ Heap.Touch (own (.slice none 0 0)) w w3 ∧ ∀ k, own v2 k → own (.slice none 0 0) k ∨ w.heap.size ≤ k)
    clear r3 t3 o3
    go_wp2
    go_ret
    exact ⟨_, rfl, HF.out⟩
  · clear hrow hvb hl hg
    have hnc : (n : Int) ≤ (n : Int) := Int.le_refl _
    go_enter Tryz.func151, Tryz.ntmps151
    go_wp2_with (at_builtin; refine Heap.wpList_append_row _ rfl (.tmp 23) (.tmp 24) 82 rfl 101 i0 _ 3 32 Tryz.underlying82 hi hz0 hz1 hz2 rfl (by decide) _ n _ rfl HR.out ⟨vb, 0, none⟩ 1 1 (cells q) rfl rfl HN.out HO.out (by unfold maxLen; omega) (by omega) ?_)
    all_goals
      intro v2 w3 r3 t3 o3
      have HF := Lib.hid (⟨r3, t3, o3⟩ : Row w3 101 3 v2 (n + 1) (plsV l ++ cells q) ∧ Heap.Touch (own (.slice (some ⟨g, off, none⟩) n cap)) w w3 ∧ ∀ k, own v2 k → own (.slice (some ⟨g, off, none⟩) n cap) k ∨ w.heap.size ≤ k)
      clear r3 t3 o3
      go_wp2
      go_ret
      exact ⟨_, rfl, HF.out⟩
end
end Go.Proofs.YtidacfhdhdnidaaGreatDoor.Drw
