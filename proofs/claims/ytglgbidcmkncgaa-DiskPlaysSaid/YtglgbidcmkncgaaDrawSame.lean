/- Both disks side by side: rilllaw.same. -/
import Derived.Test.YtglgbidcmkncgaaDrawApp2
namespace Go.Proofs.Ytglgbidcmkncgaa.Drw
open Go.RowKit Heap Dsk

section
variable {W w : World} {F G : Nat → Prop} {D E : Nat} {room : Int} {A : List FileP}

theorem append_drw (h : DrawAt W G E room A w) (n : Int) (s : ByteArray) (hs : s.size ≤ 4611686018427387904) : Calls Try.prog 33 #[.pointer (some ⟨E, 0, none⟩), .int .i64 n, .string s] w fun e w' => e = .returned (.int .i64 ((appD room A n s.data.toList).2 : Nat)) ∧ DrawAt W (Dsk.Grow G w) E room (appD room A n s.data.toList).1 w' ∧ Heap.Touch G w w' := by
  by_cases hnum : 0 ≤ n ∧ n ≤ 1099511627776
  · rcases idxF_cases A n with ⟨e1, e2⟩ | ⟨k, p, e1, e2, e3, e4, _⟩
    · by_cases hf : room - (total A : Int) < s.size
      · exact append_drw_full h n s hs hnum e1 e2 (.inl hf)
      · by_cases h20 : A.length = 20
        · exact append_drw_full h n s hs hnum e1 e2 (.inr h20)
        · exact append_drw_new h n s hnum e1 e2 hf h20
    · exact (append_drw_hit h n s hs k p e1 e2 e3 e4).mono fun e w' ⟨a, b, c⟩ => ⟨a, b.mono (fun _ hk => .inl hk) h.grow.newG, c⟩
  · exact append_drw_bad h n s hnum

theorem row_nums {w : World} {v : Value} {l : List Int} (h : Row w 3 1 v l.length (numsV l)) (hne : l ≠ []) : ∃ g off cap, v = .slice (some ⟨g, off, none⟩) l.length cap ∧ ∀ j, j < l.length → w.cell? ⟨g, off + j, none⟩ = some (.int .i64 (l.getD j 0)) := by
  rcases h.2 with ⟨rfl, h0⟩ | ⟨g, off, cap, cur, rfl, _⟩
  · exact absurd (List.eq_nil_of_length_eq_zero h0) hne
  · refine ⟨g, off, cap, rfl, fun j hj => ?_⟩
    rw [(h.cell j (by omega)).1]
    simp [numsV, List.getD, hj]

theorem equal_rows {v1 v2 : Value} {l : List Int} (h1 : Row w 3 1 v1 l.length (numsV l)) (h2 : Row w 3 1 v2 l.length (numsV l)) (hl : l.length ≤ 1000) :
    Calls Try.prog 45 #[v1, v2] w fun e w' => e = .returned (.bool true) ∧ Below w.heap.size w w' := by
  by_cases hn : l = []
  · subst hn
    obtain ⟨a1, c1, rfl⟩ := h1.slice
    obtain ⟨a2, c2, rfl⟩ := h2.slice
    exact (Try.slices_Equal_int_empty a1 a2 c1 0 c2 w (by omega)).mono fun e w' ⟨a, b⟩ => ⟨by rw [a]; rfl, by rw [b]; exact Below.refl _ _⟩
  · obtain ⟨g1, o1, c1, rfl, x1⟩ := row_nums h1 hn
    obtain ⟨g2, o2, c2, rfl, x2⟩ := row_nums h2 hn
    refine (Try.slices_Equal_int g1 o1 l.length c1 g2 o2 l.length c2 l l w (Nat.le_refl _) (Nat.le_refl _) (by omega) (by omega) x1 x2).mono fun e w' ⟨a, q, b⟩ => ⟨by rw [a]; simp, ?_⟩
    rw [b]; exact below_drewN w q

set_option maxHeartbeats 2000000 in
set_option maxRecDepth 100000 in
theorem same_true (hd : DiskAt W F D room A w) (hx : DrawAt W G E room A w) : Calls Try.prog 38 #[.pointer (some ⟨D, 0, none⟩), .pointer (some ⟨E, 0, none⟩)] w fun e w' => e = .returned (.bool true) ∧ Below w.heap.size w w' := by
  have HU1 := Lib.hid (used_any hd); have HU2 := Lib.hid (used_drw hx)
  have HL1 := Lib.hid (list_any hd)
  have HD := Lib.hid hd; have HX := Lib.hid hx
  have hfew := hx.right.few
  clear hd hx
  go_enter Try.func38, Try.ntmps38
  go_wp2_with fail
  refine HU1.out.mono ?_
  rintro e w' ⟨rfl, rfl⟩
  go_wp2_with fail
  refine HU2.out.mono ?_
  rintro e w' ⟨rfl, rfl⟩
  clear HU1 HU2
  go_wp2_with fail
  refine HL1.out.mono ?_
  rintro e w1 ⟨v1, rfl, hb1, hr1, ho1⟩
  have HL2 := Lib.hid (list_drw (HX.out.next hb1))
  have HB1 := Lib.hid hb1; have HR1 := Lib.hid hr1
  clear hb1 hr1 ho1 HL1
  go_wp2_with fail
  refine HL2.out.mono ?_
  rintro e w2 ⟨v2, rfl, hb2, hr2, ho2⟩
  have HEQ := Lib.hid (equal_rows (HR1.out.kept fun k _ hk => hb2.block k hk) hr2 (by rw [List.length_map]; omega))
  have HB2 := Lib.hid (HB1.out.trans (hb2.mono HB1.out.size))
  clear hb2 hr2 ho2 HR1 HB1 HL2
  go_wp2_with fail
  refine HEQ.out.mono ?_
  rintro e w3 ⟨rfl, hb3⟩
  have HB3 := Lib.hid (HB2.out.trans (hb3.mono HB2.out.size))
  clear hb3 HB2 HEQ
  have hx3 := HX.out.next HB3.out
  obtain ⟨v, h1, h2, h3⟩ := hx3.mem
  obtain ⟨L, hL⟩ : ∃ L, A.length = L := ⟨_, rfl⟩
  rw [hL] at h2 hfew
  obtain ⟨a, c, hv⟩ := h2.slice
  subst hv
  obtain ⟨c0, c1, cf⟩ := twoC h1
  have HL := Lib.hid hL; have H1 := Lib.hid h1; have H2 := Lib.hid h2
  clear hx3 h1 h2 h3 hL
  go_wp2_with fail
  go_loopw [27] (fun i wr => ∃ k : Nat, k ≤ L ∧ i = .int .i64 k ∧ Hid (Below w3.heap.size w3 wr)) (fun i _ => L - (intOf i).toNat)
  case atStart => exact ⟨0, Nat.zero_le _, rfl, Lib.hid (Below.refl _ _)⟩
  case round =>
    obtain ⟨k, hk, rfl, HW⟩ := hrel
    clear c0 c1 cf
    by_cases hlt : k < L
    · have hltz : (k : Int) < L := by omega
      have hrr : Row wr 81 3 (.slice a L c) L (plsV A) := H2.out.kept fun k _ hk => HW.out.block k hk
      have hkA : k < A.length := by rw [HL.out]; exact hlt
      have hp := List.getElem?_eq_getElem hkA
      have hpm : A[k] ∈ A := List.getElem_mem hkA
      generalize A[k] = p at hp hpm
      have hg := getF_mem HX.out.right.sorted hpm
      have hnum := HX.out.right.num p hpm
      have hrow := hrr.2
      rcases hrow with ⟨hv, h0⟩ | ⟨g, off, cap, cur, hv, _⟩
      · omega
      simp only [Value.slice.injEq, true_and] at hv
      obtain ⟨rfl, rfl⟩ := hv
      obtain ⟨d0, d1, d2⟩ := cells_pull hrr k p hp hlt
      obtain ⟨wa, hwa⟩ : ∃ wa, wa = wr.alloc (.cells #[.int .i64 p.n, .int .i64 (p.sure : Nat), .string ⟨p.text.toArray⟩] 81) := ⟨_, rfl⟩
      have hba : Below wr.heap.size wr wa := by rw [hwa]; exact (Below.refl _ _).alloc (Nat.le_refl _) _
      have hba3 := HB3.out.trans ((HW.out.trans (hba.mono HW.out.size)).mono HB3.out.size)
      have hea : wa.heap[wr.heap.size]? = some (.cells #[.int .i64 p.n, .int .i64 (p.sure : Nat), .string ⟨p.text.toArray⟩] 81 (0, 0)) := by rw [hwa]; exact heap_alloc_new wr _
      obtain ⟨x0, x1, x2, xf⟩ := threeC hea
      have hrd := read_any (HD.out.kept (hba3.mono HD.out.below.size) (fun k _ hk => hba3.block k hk)) p.n (by omega)
      rw [show readD A p.n = (p.text, 0) from by unfold readD; rw [hg]] at hrd
      have HRD := Lib.hid hrd
      have HF := Lib.hid (show Below w3.heap.size w3 wa from HW.out.trans (hba.mono HW.out.size))
      clear hrr hp hpm hg hnum hba hba3 hea hrd HW
      go_upto_region 6 with fail
      rw [← hwa]
      clear hwa d0 d1 d2
      go_wp2_with fail
      refine HRD.out.mono ?_
      rintro e w5 ⟨rfl, rfl⟩
      clear HRD
      go_wp2_with fail
      exact ⟨⟨k + 1, by omega, by go_num, HF⟩, by simp [intOf]; omega⟩
    · have hltz : ¬ (k : Int) < L := by omega
      have HF := Lib.hid (HB3.out.trans (HW.out.mono HB3.out.size))
      clear HW
      go_wp2
      go_ret
      exact ⟨rfl, HF.out⟩
end
end Go.Proofs.Ytglgbidcmkncgaa.Drw
