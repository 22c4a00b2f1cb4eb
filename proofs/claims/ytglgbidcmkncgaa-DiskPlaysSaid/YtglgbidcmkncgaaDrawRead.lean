/- The reference's disk: Used, List, Read. -/
import Derived.Test.YtglgbidcmkncgaaDrawMem
import Derived.Test.YtglgbidcmkncgaaDiskList
namespace Go.Proofs.Ytglgbidcmkncgaa.Drw
open Go.RowKit Heap Dsk

theorem total_takeF {A : List FileP} {k : Nat} (hk : k < A.length) : total (A.take (k + 1)) = total (A.take k) + A[k].text.length := by
  rw [List.take_add_one, List.getElem?_eq_getElem hk]
  show total (A.take k ++ [A[k]]) = _
  have : ∀ (l : List FileP) (p : FileP), total (l ++ [p]) = total l + p.text.length := by
    intro l p
    induction l with
    | nil => simp [total]
    | cons a r ih => simp only [List.cons_append, total, ih]; omega
  exact this _ _

theorem total_take_le (A : List FileP) (k : Nat) : total (A.take k) ≤ total A := by
  induction A generalizing k with
  | nil => simp
  | cons a r ih =>
    cases k with
    | zero => simp [total]
    | succ k => simp only [List.take_succ_cons, total]; have := ih k; omega

section
variable {W w : World} {G : Nat → Prop} {E : Nat} {room : Int} {A : List FileP}

set_option maxHeartbeats 1000000 in
set_option maxRecDepth 100000 in
theorem used_drw (h : DrawAt W G E room A w) : Calls Try.prog 43 #[.pointer (some ⟨E, 0, none⟩)] w fun e w' => e = .returned (.int .i64 (total A : Nat)) ∧ w = w' := by
  obtain ⟨v, h1, h2, h3⟩ := h.mem
  obtain ⟨c0, c1, cf⟩ := twoC h1
  have hfit := h.right.fits; have hsm := h.right.small; have hfew := h.right.few
  obtain ⟨L, hL⟩ : ∃ L, A.length = L := ⟨_, rfl⟩
  rw [hL] at h2 hfew
  obtain ⟨a, c, hv⟩ := h2.slice
  subst hv
  have HL := Lib.hid hL; have HR := Lib.hid h2; have HH := Lib.hid h
  have HT := Lib.hid (total_take_le A)
  clear h h1 h2 h3 hL
  go_enter Try.func43, Try.ntmps43
  go_wp2_with fail
  go_loopw [3, 4] (fun s i wr => ∃ k : Nat, k ≤ L ∧ i = .int .i64 k ∧ s = .int .i64 (total (A.take k) : Nat) ∧ w = wr) (fun _ i _ => L - (intOf i).toNat)
  case atStart => exact ⟨0, Nat.zero_le _, rfl, rfl, rfl⟩
  case round =>
    obtain ⟨k, hk, rfl, rfl, rfl⟩ := hrel
    by_cases hlt : k < L
    · have hltz : (k : Int) < L := by omega
      have hkA : k < A.length := by rw [HL.out]; exact hlt
      have hst := total_takeF hkA
      have hp := List.getElem?_eq_getElem hkA
      generalize A[k] = p at hst hp
      have hrow := HR.out.2
      rcases hrow with ⟨hv, h0⟩ | ⟨g, off, cap, cur, hv, _⟩
      · omega
      simp only [Value.slice.injEq, true_and] at hv
      obtain ⟨rfl, rfl⟩ := hv
      obtain ⟨d0, d1, d2⟩ := cells_pull HR.out k p hp hlt
      obtain ⟨T, hT, hTs, hTl⟩ := text_of p.text
      rw [← hT] at d2
      have htt := HT.out (k + 1)
      rw [hst, ← hTs] at htt
      have HST := Lib.hid (show (total (A.take (k + 1)) : Nat) = total (A.take k) + T.size from by rw [hTs]; exact hst)
      obtain ⟨t0, ht0⟩ : ∃ t0, total (A.take k) = t0 := ⟨_, rfl⟩
      rw [ht0] at htt HST ⊢
      have wz : IntKind.i64.wrap ((t0 : Int) + (T.size : Int)) = (t0 : Int) + (T.size : Int) := IntWalk.i64_in _ (by omega)
      clear hst hp hT hTs hTl ht0
      go_wp2_with fail
      exact ⟨⟨k + 1, by omega, by go_num, by rw [HST.out]; go_num, trivial⟩, by simp [intOf]; omega⟩
    · have hltz : ¬ (k : Int) < L := by omega
      obtain rfl : k = L := by omega
      have HF := Lib.hid (show total (A.take k) = total A from by rw [List.take_of_length_le (by rw [HL.out]; exact Nat.le_refl _)])
      go_wp2_with fail
      go_ret
      exact ⟨ret_int (by rw [HF.out]), rfl⟩

theorem index_pos {A : List FileP} {n : Int} {k : Nat} (h : idxF A n = (k : Int)) : ∃ p, A[k]? = some p ∧ p.n = n ∧ getF A n = some p ∧ (∀ y ∈ A.take k, y.n ≠ n) ∧ k < A.length := by
  rcases idxF_cases A n with ⟨h1, h2⟩ | ⟨k', p, h1, h2, h3, h4, h5⟩
  · omega
  · obtain rfl : k' = k := by omega
    exact ⟨p, h2, h3, h4, h5, (List.getElem?_eq_some_iff.1 h2).1⟩

set_option maxHeartbeats 1000000 in
set_option maxRecDepth 100000 in
theorem read_drw (h : DrawAt W G E room A w) (n : Int) : Calls Try.prog 26 #[.pointer (some ⟨E, 0, none⟩), .int .i64 n] w fun e w' => e = .returned (.tuple #[.string ⟨(readD A n).1.toArray⟩, .int .i64 ((readD A n).2 : Nat)]) ∧ Below w.heap.size w w' := by
  have HA := Lib.hid (at_any h n)
  have HH := Lib.hid h
  have hfew := h.right.few
  rcases idxF_cases A n with ⟨e1, e2⟩ | ⟨k, p, e1, e2, e3, e4, e5⟩
  · have hr : readD A n = ([], 4) := by unfold readD; rw [e2]
    rw [hr]
    rw [e1] at HA
    clear h e1 e2 hr
    go_enter Try.func26, Try.ntmps26
    go_wp2_with fail
    refine HA.out.mono ?_
    rintro e w' ⟨rfl, hb⟩
    have HB := Lib.hid hb
    clear hb
    go_wp2_with fail
    go_ret2
    exact ⟨rfl, HB.out⟩
  · have hr : readD A n = (p.text, 0) := by unfold readD; rw [e4]
    rw [hr]
    rw [e1] at HA
    have hkA := (List.getElem?_eq_some_iff.1 e2).1
    have HP := Lib.hid e2
    clear h e1 e2 e3 e4 e5 hr
    go_enter Try.func26, Try.ntmps26
    go_wp2_with fail
    refine HA.out.mono ?_
    rintro e w' ⟨rfl, hb⟩
    obtain ⟨v, h1, h2, h3⟩ := (HH.out.next hb).mem
    obtain ⟨c0, c1, cf⟩ := twoC h1
    have HB := Lib.hid hb
    have hrow := h2.2
    rcases hrow with ⟨hv, h0⟩ | ⟨g, off, cap, cur, hv, _⟩
    · omega
    subst hv
    obtain ⟨d0, d1, d2⟩ := cells_pull h2 k p HP.out hkA
    clear hb h1 h2 h3 HA
    go_wp2_with fail
    go_ret2
    exact ⟨rfl, HB.out⟩
end
end Go.Proofs.Ytglgbidcmkncgaa.Drw
