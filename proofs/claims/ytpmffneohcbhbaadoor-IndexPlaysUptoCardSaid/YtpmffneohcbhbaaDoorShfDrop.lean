/- The reference's index: Drop. -/
import Derived.Test.YtpmffneohcbhbaaDoorShfMem
import Derived.Deep.RegionLaw
namespace Go.Proofs.YtpmffneohcbhbaaDoor.Shf
open Go.RowKit Heap Idx
open Subj (Tok ML pieces)

theorem entV_cons (e : Tok × Int) (l : Ents) : entV (e :: l) = entC e ++ entV l := rfl

theorem entV_take (A : Ents) (k : Nat) : (entV A).take (k * 2) = entV (A.take k) := by
  induction A generalizing k with
  | nil => simp [entV]
  | cons a r ih =>
    cases k with
    | zero => simp [entV]
    | succ k =>
      have hl : (entC a).length = 2 := rfl
      rw [entV_cons, List.take_append, hl, show (k + 1) * 2 - 2 = k * 2 by omega, ih, List.take_of_length_le (by rw [hl]; omega)]
      rfl

theorem entV_drop (A : Ents) (k : Nat) : (entV A).drop (k * 2) = entV (A.drop k) := by
  induction A generalizing k with
  | nil => simp [entV]
  | cons a r ih =>
    cases k with
    | zero => simp
    | succ k =>
      have hl : (entC a).length = 2 := rfl
      rw [entV_cons, List.drop_append, hl, show (k + 1) * 2 - 2 = k * 2 by omega, ih, List.drop_of_length_le (by rw [hl]; omega)]
      rfl

/-- Another list in the shelf's place. -/
theorem ShelfAt.put {W w w3 : World} {G : Nat → Prop} {E : Nat} {L L' : Ents} {a0 v3 : Value} (h : ShelfAt W G E L w) (hf : L'.length ≤ 100) (hs : ∀ e ∈ L', e.1.length ≤ 200) (hE : w3.heap[E]? = some (.cells #[a0] 28 (0, 0)))
    (ht : Heap.Touch G w w3) (hr : Row w3 40 2 v3 L'.length (entV L')) (ho : ∀ k, own v3 k → G k ∨ w.heap.size ≤ k) (hne : ¬ own v3 E) : NextS W G E w L' (w3.setCell ⟨E, 0, none⟩ v3) := by
  have hE4 := heap_setCell_same w3 E 0 _ _ v3 hE
  have hlt := heap_lt hE4
  have tf : Heap.Touch G w (w3.setCell ⟨E, 0, none⟩ v3) := ht.setCell (.inl h.gE) _
  refine ⟨⟨fun k => (G k ∨ w.heap.size ≤ k) ∧ k < (w3.setCell ⟨E, 0, none⟩ v3).heap.size, ⟨hf, hs, h.below.trans (tf.below h.below.size h.newG), fun k hk => ?_, fun k hk => hk.2, ⟨.inl h.gE, hlt⟩, v3, hE4, ?_, fun k hk => ⟨ho k hk, ?_⟩⟩, fun k hk => hk.1⟩, tf⟩
  · rcases hk.1 with hk | hk
    · exact h.newG k hk
    · exact Nat.le_trans h.below.size hk
  · refine hr.kept fun j hj _ => heap_setCell_other _ _ _ _ (fun e => ?_)
    exact hne (by rw [← show j = E from e]; exact hj)
  · have := hr.lt k hk
    have h2 : (w3.setCell ⟨E, 0, none⟩ v3).heap.size = w3.heap.size := by simp [World.setCell]
    rw [h2]; exact this

section
variable {W w : World} {G : Nat → Prop} {E : Nat} {A : Ents}

set_option maxHeartbeats 4000000 in
set_option maxRecDepth 100000 in
theorem drop_shf (h : ShelfAt W G E A w) (s : ByteArray) (hs : s.size ≤ 1048576) : Calls Tryd.prog 14 #[.pointer (some ⟨E, 0, none⟩), .string s] w fun e w' => e = .returned (.int .i64 ((dropL (Subj.err false s.data.toList) A s.data.toList).2 : Nat)) ∧ NextS W G E w (dropL (Subj.err false s.data.toList) A s.data.toList).1 w' := by
  have HSU := Lib.hid (Subj.refSubject_any s w hs)
  have HA := Lib.hid (fun w1 (hb : Below w.heap.size w w1) => at_any (h.next hb) s)
  have HH := Lib.hid h
  have hfew := h.few
  generalize Subj.err false s.data.toList = er at *
  generalize s.data.toList = t at *
  clear hs
  by_cases he : er = 0
  · subst he
    rcases idxL_cases A t with ⟨e1, e2⟩ | ⟨k, p, e1, e2, e3, e5⟩
    · have hr : dropL 0 A t = (A, 4) := by unfold dropL; rw [if_neg (by simp), if_pos (by omega)]
      rw [hr]
      rw [e1] at HA
      clear h e1 e2 hr
      go_enter Tryd.func14, Tryd.ntmps14
      go_wp2_with fail
      refine HSU.out.mono ?_
      rintro e w1 ⟨rfl, hb1⟩
      have HB1 := Lib.hid hb1
      clear hb1 HSU
      go_wp2_with fail
      refine (HA.out w1 HB1.out).mono ?_
      rintro e w' ⟨rfl, hb⟩
      have HB := Lib.hid (HB1.out.trans (hb.mono HB1.out.size))
      clear hb
      go_wp2_with fail
      go_ret
      exact ⟨rfl, NextS.refl HH.out HB.out⟩
    · have hr : dropL 0 A t = (delL A k, 0) := by unfold dropL; rw [if_neg (by simp), if_neg (by omega), e1]; rfl
      rw [hr]
      have hkA := (List.getElem?_eq_some_iff.1 e2).1
      rw [e1] at HA
      obtain ⟨L, hL⟩ : ∃ L, A.length = L := ⟨_, rfl⟩
      have HL := Lib.hid hL
      rw [hL] at hkA hfew
      clear h e1 e2 e3 e5 hr hL
      obtain ⟨i0, hi, hz0, hz1, hz2⟩ := info_parts Ins.info_el
      go_enter Tryd.func14, Tryd.ntmps14
      go_wp2_with fail
      refine HSU.out.mono ?_
      rintro e w1 ⟨rfl, hb1⟩
      have HB1 := Lib.hid hb1
      clear hb1 HSU
      go_wp2_with fail
      refine (HA.out w1 HB1.out).mono ?_
      rintro e w' ⟨rfl, hb⟩
      have HB := Lib.hid (HB1.out.trans (hb.mono HB1.out.size))
      have HD := Lib.hid (HH.out.next HB.out)
      obtain ⟨v, h1, h2, h3⟩ := HD.out.mem
      rw [HL.out] at h2
      obtain ⟨c0, cf⟩ := oneC h1
      have hEl := heap_lt h1
      have hrow := h2.2
      rcases hrow with ⟨hv, h0⟩ | ⟨g, off, cap, cur, hv, _⟩
      · omega
      subst hv
      obtain ⟨hncap, hcapm⟩ := h2.cap_le
      have hnews1 : ∀ j u, (entV (A.take k))[j]? = some u → w'.drew.cell? ((⟨g, off, none⟩ : Addr).add j) = some u := fun j u hj => by
        rw [← entV_take, List.getElem?_take] at hj
        split at hj
        · rw [Addr.add_lit]
          exact (h2.cell j (by omega)).1.trans hj
        · cases hj
      have hlen1 : (entV (A.take k)).length = k * 2 := by rw [entV_len, List.length_take, HL.out]; omega
      have hlen2 : (entV (A.drop (k + 1))).length = (L - (k + 1)) * 2 := by rw [entV_len, List.length_drop, HL.out]
      have HN1 := Lib.hid hnews1
      have hkc : k ≤ cap := by omega
      have hkc2 : k + 1 ≤ cap := by omega
      have hkL : k ≤ L := by omega
      have hkL2 : k + 1 ≤ L := by omega
      have hb1 : (0 : Int) ≤ (k : Int) + 1 := by omega
      have hb3 : (k : Int) + 1 ≤ (L : Int) := by omega
      have htn : ((k : Int) + 1).toNat = k + 1 := by omega
      have wz : IntKind.i64.wrap ((k : Int) + 1) = (k : Int) + 1 := IntWalk.i64_in _ (by omega)
      have HE2 := Lib.hid (fun w2 (t2 : Heap.Touch (own (.slice none 0 0)) w'.drew w2) => (⟨(t2.block E (heap_lt (w := w'.drew) h1) (by simp [own, Value.ownBlock])).trans h1, fun j u hj => by
          rw [← entV_drop, List.getElem?_drop] at hj
          rw [Addr.add_lit]
          have hjl : j < (L - (k + 1)) * 2 := by
            have := (List.getElem?_eq_some_iff.1 hj).1
            rw [entV_len, HL.out] at this; omega
          have h9 := (h2.cell ((k + 1) * 2 + j) (by omega)).1
          rw [hj, ← Nat.add_assoc] at h9
          exact (t2.cell (p := ⟨g, off + (k + 1) * 2 + j, none⟩) (World.block_lt_of_cell? w'.drew _ h9) (by simp [own, Value.ownBlock])).trans h9⟩ :
          w2.heap[E]? = some (.cells #[.slice (some ⟨g, off, none⟩) L cap] 28 (0, 0)) ∧ ∀ j u, (entV (A.drop (k + 1)))[j]? = some u → w2.cell? ((⟨g, off + (k + 1) * 2, none⟩ : Addr).add j) = some u))
      have HFIN := Lib.hid (fun w2 w3 a2 n2 v3 (t2 : Heap.Touch (own (.slice none 0 0)) w'.drew w2) (o2 : ∀ j, own (.slice a2 k n2) j → own (.slice none 0 0) j ∨ w'.drew.heap.size ≤ j) (r3 : Row w3 40 2 v3 (k + (L - (k + 1))) (entV (A.take k) ++ entV (A.drop (k + 1)))) (t3 : Heap.Touch (own (.slice a2 k n2)) w2 w3) (o3 : ∀ j, own v3 j → own (.slice a2 k n2) j ∨ w2.heap.size ≤ j) => (by
        have hnew2 : ∀ j, own (.slice a2 k n2) j → w'.heap.size ≤ j := fun j hj => by
          rcases o2 j hj with h | h
          · simp [own, Value.ownBlock] at h
          · exact h
        have hnew3 : ∀ j, own v3 j → w'.heap.size ≤ j := fun j hj => by
          rcases o3 j hj with h | h
          · exact hnew2 j h
          · exact Nat.le_trans t2.size h
        have tw : Heap.Touch (fun _ => False) w' w3 := ((Heap.Touch.refl _ w').drew.after (t2.mono fun j _ hj => by simp [own, Value.ownBlock] at hj)).trans t3 (fun j hj hj2 => by have := hnew2 j hj2; omega)
        have hE3 : w3.heap[E]? = some (.cells #[.slice (some ⟨g, off, none⟩) L cap] 28 (0, 0)) := (tw.block E (heap_lt h1) (fun h => h)).trans h1
        have hlen : k + (L - (k + 1)) = (delL A k).length := by unfold delL; rw [List.length_append, List.length_take, List.length_drop, HL.out]; omega
        refine ⟨hE3, ShelfAt.put HH.out (by rw [← hlen]; omega) (fun e he => HH.out.short e ?_) hE3 ((Heap.Touch.ofBelow HB.out).after (tw.mono fun _ _ h => h.elim)) (by rw [hlen, ← entV_append] at r3; exact r3) (fun j hj => .inr (Nat.le_trans HB.out.size (hnew3 j hj))) (fun hj => ?_)⟩
        · unfold delL at he
          rcases List.mem_append.1 he with he | he
          · exact List.mem_of_mem_take he
          · exact List.mem_of_mem_drop he
        · have := hnew3 E hj
          omega : w3.heap[E]? = some (.cells #[.slice (some ⟨g, off, none⟩) L cap] 28 (0, 0)) ∧ NextS W G E w (delL A k) (w3.setCell ⟨E, 0, none⟩ v3)))
      clear hb h1 h2 h3 HA hnews1
      by_cases hcp : cap = k + 1
      · obtain rfl : L = k + 1 := by omega
        subst hcp
        have hz : k + 1 - (k + 1) = 0 := by omega
        rw [hz] at HFIN hlen2
        have hq1 : (k : Int) ≤ (k : Int) + 1 := by omega
        have hnil : entV (A.drop (k + 1)) = [] := List.eq_nil_of_length_eq_zero (by rw [hlen2])
        go_upto_region 7 with fail
        go_region_law (first
          | (refine Heap.step_append_row _ rfl (.const (.slice none 0 0)) (.tmp 23) 26 rfl 40 i0 _ 2 24 Tryd.underlying26 hi hz0 hz1 hz2 rfl (by decide) (.slice none 0 0) 0 [] (by simp [Act.eval, Act.put]) (Row.nil _ _ _) ⟨g, off, none⟩ k (k + 1) (entV (A.take k)) (by simp [Act.eval, Act.put]) hlen1 HN1.out (entV_one _) (by unfold maxLen; omega) (by omega) ?_
             intro v2 w2 r2 t2 o2
             rw [Nat.zero_add, List.nil_append] at r2
             obtain ⟨a2, n2, rfl⟩ := r2.slice
             have hx := HE2.out w2 t2
             obtain ⟨b0, bf⟩ := oneC hx.1
             have HX := Lib.hid hx.2
             have R2 := Lib.hid r2; have T2 := Lib.hid t2; have O2 := Lib.hid o2
             clear hx r2 t2 o2)
          | (refine Heap.step_append_row _ rfl (.tmp 24) (.tmp 31) 26 rfl 40 i0 _ 2 24 Tryd.underlying26 hi hz0 hz1 hz2 rfl (by decide) (.slice a2 k n2) k (entV (A.take k)) (by simp [Act.eval, Act.put]) R2.out ⟨g, off, none⟩ 0 0 (entV (A.drop (k + 1))) (by simp [Act.eval, Act.put]) hlen2 (fun j u hj => by rw [hnil] at hj; simp at hj) (entV_one _) (by unfold maxLen; omega) (by omega) ?_
             intro v3 w3 r3 t3 o3
             have hx := HFIN.out w2 w3 a2 n2 v3 T2.out O2.out r3 t3 o3
             obtain ⟨x0, xf⟩ := oneC hx.1
             obtain ⟨a3, n3, rfl⟩ := r3.slice
             have HF := Lib.hid (hx.2 : NextS W G E w (delL A k) (w3.setCell ⟨E, 0, none⟩ (.slice a3 (k + 0) n3)))
             clear hx r3 t3 o3))
        all_goals
          go_wp2
          go_ret
          exact ⟨rfl, HF.out⟩
      · go_upto_region 7 with fail
        go_region_law (first
          | (refine Heap.step_append_row _ rfl (.const (.slice none 0 0)) (.tmp 23) 26 rfl 40 i0 _ 2 24 Tryd.underlying26 hi hz0 hz1 hz2 rfl (by decide) (.slice none 0 0) 0 [] (by simp [Act.eval, Act.put]) (Row.nil _ _ _) ⟨g, off, none⟩ k cap (entV (A.take k)) (by simp [Act.eval, Act.put]) hlen1 HN1.out (entV_one _) (by unfold maxLen; omega) (by omega) ?_
             intro v2 w2 r2 t2 o2
             rw [Nat.zero_add, List.nil_append] at r2
             obtain ⟨a2, n2, rfl⟩ := r2.slice
             have hx := HE2.out w2 t2
             obtain ⟨b0, bf⟩ := oneC hx.1
             have HX := Lib.hid hx.2
             have R2 := Lib.hid r2; have T2 := Lib.hid t2; have O2 := Lib.hid o2
             clear hx r2 t2 o2)
          | (refine Heap.step_append_row _ rfl (.tmp 24) (.tmp 31) 26 rfl 40 i0 _ 2 24 Tryd.underlying26 hi hz0 hz1 hz2 rfl (by decide) (.slice a2 k n2) k (entV (A.take k)) (by simp [Act.eval, Act.put]) R2.out ⟨g, off + (k + 1) * 2, none⟩ (L - (k + 1)) (cap - (k + 1)) (entV (A.drop (k + 1))) (by simp [Act.eval, Act.put]) hlen2 HX.out (entV_one _) (by unfold maxLen; omega) (by omega) ?_
             intro v3 w3 r3 t3 o3
             have hx := HFIN.out w2 w3 a2 n2 v3 T2.out O2.out r3 t3 o3
             obtain ⟨x0, xf⟩ := oneC hx.1
             obtain ⟨a3, n3, rfl⟩ := r3.slice
             have HF := Lib.hid (hx.2 : NextS W G E w (delL A k) (w3.setCell ⟨E, 0, none⟩ (.slice a3 (k + (L - (k + 1))) n3)))
             clear hx r3 t3 o3))
        all_goals
          go_wp2
          go_ret
          exact ⟨rfl, HF.out⟩
  · have hr : dropL er A t = (A, er) := by unfold dropL; rw [if_pos he]
    rw [hr]
    have he0 : ((er : Int) != 0) = true := by simpa using he
    clear hr he h
    go_enter Tryd.func14, Tryd.ntmps14
    go_wp2_with fail
    refine HSU.out.mono ?_
    rintro e w1 ⟨rfl, hb1⟩
    have HB1 := Lib.hid hb1
    clear hb1 HSU
    go_wp2_with fail
    go_ret
    exact ⟨rfl, NextS.refl HH.out HB1.out⟩
end
end Go.Proofs.YtpmffneohcbhbaaDoor.Shf
