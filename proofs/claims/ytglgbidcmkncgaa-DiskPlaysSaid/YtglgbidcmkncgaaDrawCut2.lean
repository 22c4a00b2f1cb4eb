/- The reference's disk: Cut. -/
import Derived.Test.YtglgbidcmkncgaaDrawCut
namespace Go.Proofs.Ytglgbidcmkncgaa.Drw
open Go.RowKit Heap Dsk

theorem in_yes (n lo hi : Int) (w : World) (h : lo ≤ n ∧ n ≤ hi) : Calls Try.prog 24 #[.int .i64 n, .int .i64 lo, .int .i64 hi] w fun e w' => e = .returned (.bool true) ∧ w = w' := by
  obtain ⟨h1, h2⟩ := h
  go_enter Try.func24, Try.ntmps24
  go_wp2
  go_ret
  exact ⟨rfl, rfl⟩

theorem in_no (n lo hi : Int) (w : World) (h : ¬ (lo ≤ n ∧ n ≤ hi)) : Calls Try.prog 24 #[.int .i64 n, .int .i64 lo, .int .i64 hi] w fun e w' => e = .returned (.bool false) ∧ w = w' := by
  by_cases h1 : lo ≤ n
  · have h2 : hi < n := by omega
    clear h
    go_enter Try.func24, Try.ntmps24
    go_wp2
    go_ret
    exact ⟨ret_bool (decide_eq_false (by omega)), rfl⟩
  · have h1' : n < lo := by omega
    clear h h1
    go_enter Try.func24, Try.ntmps24
    go_wp2
    go_ret
    exact ⟨rfl, rfl⟩

section
variable {W w : World} {G : Nat → Prop} {E : Nat} {room : Int} {A : List FileP}

set_option maxHeartbeats 1000000 in
set_option maxRecDepth 100000 in
theorem cut_drw (h : DrawAt W G E room A w) (n size : Int) : Calls Try.prog 34 #[.pointer (some ⟨E, 0, none⟩), .int .i64 n, .int .i64 size] w fun e w' => e = .returned (.int .i64 ((cutD A n size).2 : Nat)) ∧ DrawAt W G E room (cutD A n size).1 w' ∧ Heap.Touch G w w' := by
  have HA := Lib.hid (at_any h n)
  have HH := Lib.hid h
  have hfew := h.right.few
  rcases idxF_cases A n with ⟨e1, e2⟩ | ⟨k, p, e1, e2, e3, e4, e5⟩
  · have hr : cutD A n size = (A, 4) := by unfold cutD; rw [e2]
    rw [hr]
    rw [e1] at HA
    clear h e1 e2 hr
    go_enter Try.func34, Try.ntmps34
    go_wp2_with fail
    refine HA.out.mono ?_
    rintro e w' ⟨rfl, hb⟩
    have HB := Lib.hid hb
    clear hb
    go_wp2_with fail
    go_ret
    exact ⟨rfl, HH.out.next HB.out, Heap.Touch.ofBelow HB.out⟩
  · have hkA := (List.getElem?_eq_some_iff.1 e2).1
    have hple := h.right.len (getF_n e4).2
    obtain ⟨T, hT, hTs, hTl⟩ := text_of p.text
    by_cases hbad : size < 0 ∨ (p.text.length : Int) < size
    · have hr : cutD A n size = (A, 1) := by unfold cutD; rw [e4]; simp only; rw [if_pos hbad]
      rw [hr]
      have HP := Lib.hid e2
      have HT := Lib.hid hT
      rw [e1] at HA
      have HIN := Lib.hid (fun w => in_no size 0 T.size w (by omega))
      clear h e1 e2 e3 e4 e5 hr hT hTs hTl hbad
      go_enter Try.func34, Try.ntmps34
      go_wp2_with fail
      refine HA.out.mono ?_
      rintro e w' ⟨rfl, hb⟩
      have HD := Lib.hid (HH.out.next hb)
      have HB := Lib.hid hb
      obtain ⟨v, h1, h2, h3⟩ := HD.out.mem
      obtain ⟨c0, c1, cf⟩ := twoC h1
      have hrow := h2.2
      rcases hrow with ⟨hv, h0⟩ | ⟨g, off, cap, cur, hv, _⟩
      · omega
      subst hv
      obtain ⟨d0, d1, d2⟩ := cells_pull h2 k p HP.out hkA
      rw [← HT.out] at d2
      clear hb h1 h2 h3 HA
      go_wp2_with fail
      refine (HIN.out _).mono ?_
      rintro e w2 ⟨rfl, rfl⟩
      clear HIN
      go_wp2_with fail
      go_ret
      exact ⟨rfl, HD.out, Heap.Touch.ofBelow HB.out⟩
    · obtain ⟨s, rfl⟩ : ∃ s : Nat, size = (s : Int) := ⟨size.toNat, by omega⟩
      have hr : cutD A n s = (setF A ⟨n, p.text.take s, s⟩, 0) := by unfold cutD; rw [e4]; simp only; rw [if_neg hbad]; rfl
      rw [hr]
      have hsl : s ≤ T.size := by omega
      have htk : (p.text.take s).length = s := by rw [List.length_take]; omega
      have htot := total_setF (q := ⟨n, p.text.take s, s⟩) h.right.sorted e4
      have hrt : RightD room (setF A ⟨n, p.text.take s, s⟩) := h.right.set e4 _ rfl (by simp only [htk]; omega) (by have := h.right.fits; have := h.right.sure p (getF_n e4).2; simp only [htk]; omega)
      have HP := Lib.hid e2; have HRT := Lib.hid hrt; have HE1 := Lib.hid e1; have HPN := Lib.hid e3
      have HT := Lib.hid hT; have HTL := Lib.hid hTl
      have HIN := Lib.hid (fun w => in_yes s 0 T.size w (by omega))
      rw [e1] at HA
      clear h e1 e2 e3 e4 e5 hr htot hrt hT hTs hTl hbad htk hple
      go_enter Try.func34, Try.ntmps34
      go_wp2_with fail
      refine HA.out.mono ?_
      rintro e w' ⟨rfl, hb⟩
      have HD := Lib.hid (HH.out.next hb)
      obtain ⟨v, h1, h2, h3⟩ := HD.out.mem
      obtain ⟨c0, c1, cf⟩ := twoC h1
      have hrow := h2.2
      rcases hrow with ⟨hv, h0⟩ | ⟨g, off, cap, cur, hv, _⟩
      · omega
      subst hv
      obtain ⟨d0, d1, d2⟩ := cells_pull h2 k p HP.out hkA
      obtain ⟨f0, f1, f2⟩ := frozen_pull h2 k hkA
      rw [← HT.out] at d2
      have hgG : G g := h3 g (by simp [own, Value.ownBlock])
      have hneE : E ≠ g := fun e => ne_row h1 h2 (by rw [e]; simp [own, Value.ownBlock])
      have hend : DrawAt W G E room (setF A ⟨n, p.text.take s, s⟩) ((w'.drew.setCell ⟨g, off + k * 3 + 2, none⟩ (.string (T.extract 0 s))).setCell ⟨g, off + k * 3 + 1, none⟩ (.int .i64 (s : Nat))) ∧ Heap.Touch G w ((w'.drew.setCell ⟨g, off + k * 3 + 2, none⟩ (.string (T.extract 0 s))).setCell ⟨g, off + k * 3 + 1, none⟩ (.int .i64 (s : Nat))) := by
        have ht : Heap.Touch G w' ((w'.drew.setCell ⟨g, off + k * 3 + 2, none⟩ (.string (T.extract 0 s))).setCell ⟨g, off + k * 3 + 1, none⟩ (.int .i64 (s : Nat))) := ((Heap.Touch.refl _ w').drew.setCell (.inl hgG) _).setCell (.inl hgG) _
        have hset := Row.set (w := w'.drew) (h2.kept (w' := w'.drew) fun _ _ _ => rfl) (k * 3 + 2) (by omega) (.string (T.extract 0 s))
        rw [plsV_set (q := ⟨p.n, p.text.take s, p.sure⟩) HP.out (by omega) (by simp [cells, take_text HTL.out]), ← Nat.add_assoc] at hset
        have hset2 := Row.set hset (k * 3 + 1) (by omega) (.int .i64 (s : Nat))
        rw [plsV_set (k := k) (p := ⟨p.n, p.text.take s, p.sure⟩) (q := ⟨n, p.text.take s, s⟩) (by rw [List.getElem?_set_self hkA]) (by omega) (by simp [cells, HPN.out]), List.set_set, ← Nat.add_assoc] at hset2
        refine ⟨HD.out.put HE1.out HP.out rfl HRT.out ?_ hset2 h3 ht, (Heap.Touch.ofBelow hb).after ht⟩
        rw [heap_setCell_other _ _ _ _ hneE, heap_setCell_other _ _ _ _ hneE]; exact h1
      have HEND := Lib.hid hend
      clear hb h1 h2 h3 HA hend hgG
      go_wp2_with fail
      refine (HIN.out _).mono ?_
      rintro e w2 ⟨rfl, rfl⟩
      clear HIN
      go_wp2_with fail
      go_region
      go_wp2
      go_ret
      exact ⟨rfl, HEND.out⟩
end
end Go.Proofs.Ytglgbidcmkncgaa.Drw
