/- The reference's disk: Remove. -/
import Derived.Test.YtglgbidcmkncgaaDrawCut2
import Derived.Deep.RegionLaw
namespace Go.Proofs.Ytglgbidcmkncgaa.Drw
open Go.RowKit Heap Dsk

theorem delF_at : ∀ {A : List FileP} {k : Nat} {p : FileP} {n : Int}, A[k]? = some p → p.n = n → (∀ y ∈ A.take k, y.n ≠ n) → delF A n = A.take k ++ A.drop (k + 1)
  | [], k, p, n, h, _, _ => by simp at h
  | a :: r, 0, p, n, h, e, _ => by
    simp only [List.getElem?_cons_zero, Option.some.injEq] at h; subst h
    unfold delF; rw [if_pos e]; rfl
  | a :: r, k + 1, p, n, h, e, hn => by
    unfold delF
    rw [if_neg (hn a (by simp)), delF_at (k := k) (by simpa using h) e (fun y hy => hn y (by rw [List.take_succ_cons]; exact List.mem_cons_of_mem _ hy))]
    rfl

theorem plsV_take (A : List FileP) (k : Nat) : (plsV A).take (k * 3) = plsV (A.take k) := by
  induction A generalizing k with
  | nil => simp [plsV]
  | cons a r ih =>
    cases k with
    | zero => simp [plsV]
    | succ k =>
      have hl : (cells a).length = 3 := rfl
      rw [plsV_cons, List.take_append, hl, show (k + 1) * 3 - 3 = k * 3 by omega, ih, List.take_of_length_le (by rw [hl]; omega)]
      rfl

theorem plsV_drop (A : List FileP) (k : Nat) : (plsV A).drop (k * 3) = plsV (A.drop k) := by
  induction A generalizing k with
  | nil => simp [plsV]
  | cons a r ih =>
    cases k with
    | zero => simp
    | succ k =>
      have hl : (cells a).length = 3 := rfl
      rw [plsV_cons, List.drop_append, hl, show (k + 1) * 3 - 3 = k * 3 by omega, ih, List.drop_of_length_le (by rw [hl]; omega)]
      rfl

theorem plsV_one (A : List FileP) : ∀ u ∈ plsV A, u.oneCell' = true := by
  induction A with
  | nil => intro u hu; cases hu
  | cons a r ih =>
    intro u hu
    rw [plsV_cons, List.mem_append] at hu
    rcases hu with hu | hu
    · simp only [cells, List.mem_cons, List.not_mem_nil, or_false] at hu
      rcases hu with rfl | rfl | rfl <;> rfl
    · exact ih u hu

theorem info_paper : (Try.prog.info? 81).map (fun i => (i.zero, i.size, i.bytes)) = some (some (.agg #[.int .i64 0, .int .i64 0, .string ⟨#[]⟩]), 3, 32) := by kernel_rfl

section
variable {W w : World} {G : Nat → Prop} {E : Nat} {room : Int} {A : List FileP}

set_option maxHeartbeats 2000000 in
set_option maxRecDepth 100000 in
theorem remove_drw (h : DrawAt W G E room A w) (n : Int) : Calls Try.prog 36 #[.pointer (some ⟨E, 0, none⟩), .int .i64 n] w fun e w' => e = .returned (.int .i64 ((removeD A n).2 : Nat)) ∧ DrawAt W (Dsk.Grow G w) E room (removeD A n).1 w' ∧ Heap.Touch G w w' := by
  have HA := Lib.hid (at_any h n)
  have HH := Lib.hid h
  have hfew := h.right.few
  have HGN := Lib.hid (show ∀ k, Dsk.Grow G w k → W.heap.size ≤ k from fun k hk => by
    rcases hk with hk | hk
    · exact h.newG k hk
    · exact Nat.le_trans h.below.size hk)
  rcases idxF_cases A n with ⟨e1, e2⟩ | ⟨k, p, e1, e2, e3, e4, e5⟩
  · have hr : removeD A n = (A, 4) := by unfold removeD; rw [e2]
    rw [hr]
    rw [e1] at HA
    clear h e1 e2 hr
    go_enter Try.func36, Try.ntmps36
    go_wp2_with fail
    refine HA.out.mono ?_
    rintro e w' ⟨rfl, hb⟩
    have HB := Lib.hid hb
    clear hb
    go_wp2_with fail
    go_ret
    exact ⟨rfl, (HH.out.next HB.out).mono (fun k hk => .inl hk) HGN.out, Heap.Touch.ofBelow HB.out⟩
  · have hr : removeD A n = (delF A n, 0) := by unfold removeD; rw [e4]
    rw [hr]
    have hkA := (List.getElem?_eq_some_iff.1 e2).1
    have hdel := delF_at e2 e3 e5
    have HRT := Lib.hid (h.right.del e4); have HDEL := Lib.hid hdel
    rw [e1] at HA
    obtain ⟨L, hL⟩ : ∃ L, A.length = L := ⟨_, rfl⟩
    have HL := Lib.hid hL
    rw [hL] at hkA hfew
    clear h e1 e2 e3 e4 e5 hr hdel hL
    obtain ⟨i0, hi, hz0, hz1, hz2⟩ := info_parts info_paper
    go_enter Try.func36, Try.ntmps36
    go_wp2_with fail
    refine HA.out.mono ?_
    rintro e w' ⟨rfl, hb⟩
    have HD := Lib.hid (HH.out.next hb)
    have HB := Lib.hid hb
    obtain ⟨v, h1, h2, h3⟩ := HD.out.mem
    rw [HL.out] at h2
    obtain ⟨c0, c1, cf⟩ := twoC h1
    have hrow := h2.2
    rcases hrow with ⟨hv, h0⟩ | ⟨g, off, cap, cur, hv, _⟩
    · omega
    subst hv
    obtain ⟨hncap, hcapm⟩ := h2.cap_le
    have HROW := Lib.hid h2; have HE := Lib.hid h1; have H3 := Lib.hid h3
    have hnews1 : ∀ j u, (plsV (A.take k))[j]? = some u → w'.drew.cell? ((⟨g, off, none⟩ : Addr).add j) = some u := fun j u hj => by
      rw [← plsV_take, List.getElem?_take] at hj
      split at hj
      · rw [Addr.add_lit]
        exact (h2.cell j (by omega)).1.trans hj
      · cases hj
    have hlen1 : (plsV (A.take k)).length = k * 3 := by rw [plsV_len, List.length_take, HL.out]; omega
    have hlen2 : (plsV (A.drop (k + 1))).length = (L - (k + 1)) * 3 := by rw [plsV_len, List.length_drop, HL.out]
    have HN1 := Lib.hid hnews1
    have hkc : k ≤ cap := by omega
    have hkc2 : k + 1 ≤ cap := by omega
    have hkL : k ≤ L := by omega
    have hkL2 : k + 1 ≤ L := by omega
    have hb1 : (0 : Int) ≤ (k : Int) + 1 := by omega
    have hb3 : (k : Int) + 1 ≤ (L : Int) := by omega
    have htn : ((k : Int) + 1).toNat = k + 1 := by omega
    have wz : IntKind.i64.wrap ((k : Int) + 1) = (k : Int) + 1 := IntWalk.i64_in _ (by omega)
    have hneE : E ≠ g := fun e => ne_row h1 h2 (by rw [e]; simp [own, Value.ownBlock])
    have HE2 := Lib.hid (fun w2 (t2 : Heap.Touch (own (.slice none 0 0)) w'.drew w2) => (⟨(t2.block E (heap_lt (w := w'.drew) h1) (by simp [own, Value.ownBlock])).trans h1, fun j u hj => by
        rw [← plsV_drop, List.getElem?_drop] at hj
        rw [Addr.add_lit]
        have hjl : j < (L - (k + 1)) * 3 := by
          have := (List.getElem?_eq_some_iff.1 hj).1
          rw [plsV_len, HL.out] at this; omega
        have h9 := (h2.cell ((k + 1) * 3 + j) (by omega)).1
        rw [hj, ← Nat.add_assoc] at h9
        exact (t2.cell (p := ⟨g, off + (k + 1) * 3 + j, none⟩) (World.block_lt_of_cell? w'.drew _ h9) (by simp [own, Value.ownBlock])).trans h9⟩ :
        w2.heap[E]? = some (.cells #[.int .i64 room, .slice (some ⟨g, off, none⟩) L cap] 59 (0, 0)) ∧ ∀ j u, (plsV (A.drop (k + 1)))[j]? = some u → w2.cell? ((⟨g, off + (k + 1) * 3, none⟩ : Addr).add j) = some u))
    have HFIN := Lib.hid (fun w2 w3 a2 n2 v3 (t2 : Heap.Touch (own (.slice none 0 0)) w'.drew w2) (o2 : ∀ j, own (.slice a2 k n2) j → own (.slice none 0 0) j ∨ w'.drew.heap.size ≤ j) (r3 : Row w3 81 3 v3 (k + (L - (k + 1))) (plsV (A.take k) ++ plsV (A.drop (k + 1)))) (t3 : Heap.Touch (own (.slice a2 k n2)) w2 w3) (o3 : ∀ j, own v3 j → own (.slice a2 k n2) j ∨ w2.heap.size ≤ j) => (by
      have hnew2 : ∀ j, own (.slice a2 k n2) j → w'.heap.size ≤ j := fun j hj => by
        rcases o2 j hj with h | h
        · simp [own, Value.ownBlock] at h
        · exact h
      have hnew3 : ∀ j, own v3 j → w'.heap.size ≤ j := fun j hj => by
        rcases o3 j hj with h | h
        · exact hnew2 j h
        · exact Nat.le_trans t2.size h
      have tw : Heap.Touch (fun _ => False) w' w3 := ((Heap.Touch.refl _ w').drew.after (t2.mono fun j _ hj => by simp [own, Value.ownBlock] at hj)).trans t3 (fun j hj hj2 => by have := hnew2 j hj2; omega)
      have hE3 : w3.heap[E]? = some (.cells #[.int .i64 room, .slice (some ⟨g, off, none⟩) L cap] 59 (0, 0)) := (tw.block E (heap_lt h1) (fun h => h)).trans h1
      have hE4 := heap_setCell_same w3 E 1 _ _ v3 hE3
      have tf : Heap.Touch G w' (w3.setCell ⟨E, 1, none⟩ v3) := (tw.mono fun _ _ h => h.elim).setCell (.inl HD.out.gE) _
      have hlen : k + (L - (k + 1)) = (A.take k ++ A.drop (k + 1)).length := by rw [List.length_append, List.length_take, List.length_drop, HL.out]; omega
      refine ⟨⟨hE3, ⟨HRT.out, (HD.out.below).trans (tf.below HD.out.below.size HD.out.newG), HGN.out, .inl HD.out.gE, v3, hE4, ?_, fun j hj => .inr (Nat.le_trans hb.size (hnew3 j hj))⟩⟩, (Heap.Touch.ofBelow hb).after tf⟩
      rw [HDEL.out]
      rw [hlen, ← plsV_append] at r3
      refine r3.kept fun j hj _ => heap_setCell_other _ _ _ _ (fun e => ?_)
      have h5 := hnew3 j hj
      have h6 := heap_lt h1
      have e' : j = E := e
      omega : (w3.heap[E]? = some (.cells #[.int .i64 room, .slice (some ⟨g, off, none⟩) L cap] 59 (0, 0)) ∧ DrawAt W (Dsk.Grow G w) E room (delF A n) (w3.setCell ⟨E, 1, none⟩ v3)) ∧ Heap.Touch G w (w3.setCell ⟨E, 1, none⟩ v3)))
    clear hb h1 h2 h3 HA hnews1
    by_cases hcp : cap = k + 1
    · obtain rfl : L = k + 1 := by omega
      subst hcp
      have hz : k + 1 - (k + 1) = 0 := by omega
      rw [hz] at HFIN hlen2
      have hq1 : (k : Int) ≤ (k : Int) + 1 := by omega
      have hnil : plsV (A.drop (k + 1)) = [] := List.eq_nil_of_length_eq_zero (by rw [hlen2])
      go_upto_region 4 with fail
      go_region_law (first
        | (refine Heap.step_append_row _ rfl (.const (.slice none 0 0)) (.tmp 17) 57 rfl 81 i0 _ 3 32 Try.underlying57 hi hz0 hz1 hz2 rfl (by decide) (.slice none 0 0) 0 [] (by simp [Act.eval, Act.put]) (Row.nil _ _ _) ⟨g, off, none⟩ k (k + 1) (plsV (A.take k)) (by simp [Act.eval, Act.put]) hlen1 HN1.out (plsV_one _) (by unfold maxLen; omega) (by omega) ?_
           intro v2 w2 r2 t2 o2
           rw [Nat.zero_add, List.nil_append] at r2
           obtain ⟨a2, n2, rfl⟩ := r2.slice
           have hx := HE2.out w2 t2
           obtain ⟨b0, b1, bf⟩ := twoC hx.1
           have HX := Lib.hid hx.2
           have R2 := Lib.hid r2; have T2 := Lib.hid t2; have O2 := Lib.hid o2
           clear hx r2 t2 o2)
        | (refine Heap.step_append_row _ rfl (.tmp 18) (.tmp 25) 57 rfl 81 i0 _ 3 32 Try.underlying57 hi hz0 hz1 hz2 rfl (by decide) (.slice a2 k n2) k (plsV (A.take k)) (by simp [Act.eval, Act.put]) R2.out ⟨g, off, none⟩ 0 0 (plsV (A.drop (k + 1))) (by simp [Act.eval, Act.put]) hlen2 (fun j u hj => by rw [hnil] at hj; simp at hj) (plsV_one _) (by unfold maxLen; omega) (by omega) ?_
           intro v3 w3 r3 t3 o3
           have hx := HFIN.out w2 w3 a2 n2 v3 T2.out O2.out r3 t3 o3
           obtain ⟨x0, x1, xf⟩ := twoC hx.1.1
           obtain ⟨a3, n3, rfl⟩ := r3.slice
           have HF := Lib.hid (⟨hx.1.2, hx.2⟩ : DrawAt W (Dsk.Grow G w) E room (delF A n) (w3.setCell ⟨E, 1, none⟩ (.slice a3 (k + 0) n3)) ∧ Heap.Touch G w (w3.setCell ⟨E, 1, none⟩ (.slice a3 (k + 0) n3)))
           clear hx r3 t3 o3))
      all_goals
        go_wp2
        go_ret
        exact ⟨rfl, HF.out⟩
    · go_upto_region 4 with fail
      go_region_law (first
        | (refine Heap.step_append_row _ rfl (.const (.slice none 0 0)) (.tmp 17) 57 rfl 81 i0 _ 3 32 Try.underlying57 hi hz0 hz1 hz2 rfl (by decide) (.slice none 0 0) 0 [] (by simp [Act.eval, Act.put]) (Row.nil _ _ _) ⟨g, off, none⟩ k cap (plsV (A.take k)) (by simp [Act.eval, Act.put]) hlen1 HN1.out (plsV_one _) (by unfold maxLen; omega) (by omega) ?_
           intro v2 w2 r2 t2 o2
           rw [Nat.zero_add, List.nil_append] at r2
           obtain ⟨a2, n2, rfl⟩ := r2.slice
           have hx := HE2.out w2 t2
           obtain ⟨b0, b1, bf⟩ := twoC hx.1
           have HX := Lib.hid hx.2
           have R2 := Lib.hid r2; have T2 := Lib.hid t2; have O2 := Lib.hid o2
           clear hx r2 t2 o2)
        | (refine Heap.step_append_row _ rfl (.tmp 18) (.tmp 25) 57 rfl 81 i0 _ 3 32 Try.underlying57 hi hz0 hz1 hz2 rfl (by decide) (.slice a2 k n2) k (plsV (A.take k)) (by simp [Act.eval, Act.put]) R2.out ⟨g, off + (k + 1) * 3, none⟩ (L - (k + 1)) (cap - (k + 1)) (plsV (A.drop (k + 1))) (by simp [Act.eval, Act.put]) hlen2 HX.out (plsV_one _) (by unfold maxLen; omega) (by omega) ?_
           intro v3 w3 r3 t3 o3
           have hx := HFIN.out w2 w3 a2 n2 v3 T2.out O2.out r3 t3 o3
           obtain ⟨x0, x1, xf⟩ := twoC hx.1.1
           obtain ⟨a3, n3, rfl⟩ := r3.slice
           have HF := Lib.hid (⟨hx.1.2, hx.2⟩ : DrawAt W (Dsk.Grow G w) E room (delF A n) (w3.setCell ⟨E, 1, none⟩ (.slice a3 (k + (L - (k + 1))) n3)) ∧ Heap.Touch G w (w3.setCell ⟨E, 1, none⟩ (.slice a3 (k + (L - (k + 1))) n3)))
           clear hx r3 t3 o3))
      all_goals
        go_wp2
        go_ret
        exact ⟨rfl, HF.out⟩
end
end Go.Proofs.Ytglgbidcmkncgaa.Drw
