/- The laws RecordReads, RecordOne, walked. -/
import Derived.Test.YtmeaenmialaghaaDoorRecDec4
import Derived.Test.YtmeaenmialaghaaDoorRecSays
namespace Go.Proofs.YtmeaenmialaghaaDoor.Subj
open Go.RowKit Pack Crc Rec

/-- What Decode hands back, in parts. -/
theorem decV_form (x : Rc × Nat × Nat) : ∃ (k q t : Int) (S H D : ByteArray) (n e : Nat), decV x = .tuple #[.agg #[.int .i64 k, .int .i64 q, .int .i64 t, .string S, .string H, .string D], .int .i64 n, .int .i64 e] := ⟨_, _, _, _, _, _, _, _, rfl⟩

set_option maxHeartbeats 1000000 in
set_option maxRecDepth 100000 in
theorem recordReads_walk (s : ByteArray) (w : World) (hs : s.size ≤ 1048576) (hm : ML w) :
    Calls Tryd.prog 9 #[.string s] w (IsRet w true) := by
  have h1 := decode_any s w (by unfold maxLen; omega) hm
  have h2 := fun w => decoded_any s w hs
  obtain ⟨k, q, t, S, H, D, n, e, hx⟩ := decV_form (decL s.data.toList)
  rw [hx] at h1 h2
  clear hx
  have HM := Lib.hid hm; have H1 := Lib.hid h1; have H2 := Lib.hid h2
  clear hm h1 h2
  go_enter Tryd.func9, Tryd.ntmps9
  go_wp2_with fail
  refine H1.out.mono ?_
  rintro _ w1 ⟨rfl, hb1⟩
  have HB1 := Lib.hid hb1; clear hb1 H1
  go_wp2_with fail
  refine (H2.out _).mono ?_
  rintro _ w2 ⟨rfl, hb2⟩
  have hcc := fun j => hb2.cell (p := ⟨w1.heap.size, j, none⟩) (by go_size)
  have HB2 := Lib.hid (HB1.out.trans ((((Below.refl w1.heap.size w1).alloc (Nat.le_refl _) _).trans (hb2.mono (by go_size))).mono HB1.out.size))
  have hsz := hb2.size
  clear H2 hb2
  simp [go_sem] at hcc hsz
  obtain ⟨c0, c1, c2, c3, c4, c5⟩ := cells6 hcc
  clear hcc
  have hlt : w1.heap.size < w2.heap.size := by omega
  clear hsz
  go_wp2
  go_ret
  exact ⟨rfl, (Inv.refl HM.out).step (HB2.out.alloc HB2.out.size _)⟩

theorem decL_five : decL [0, 0, 0, 0, 0] = (Rc.zero, 0, 7) := rfl

theorem rcOf_lists (r : Rc) : rcOf r.kind r.seq r.time ⟨r.subj.toArray⟩ ⟨r.head.toArray⟩ ⟨r.data.toArray⟩ = r := by
  cases r; simp [rcOf]

set_option maxHeartbeats 1000000 in
set_option maxRecDepth 100000 in
theorem recordOne_walk (s : ByteArray) (w : World) (hs : s.size ≤ 1048576) (hm : ML w) :
    Calls Tryd.prog 12 #[.string s] w (IsRet w true) := by
  have h0 := decode_any ⟨#[0, 0, 0, 0, 0]⟩ w (by unfold maxLen; show 5 ≤ _; omega) hm
  have e0 : decV (decL (⟨#[0, 0, 0, 0, 0]⟩ : ByteArray).data.toList) = ErrV 7 := by rw [← decV_zero]; exact congrArg decV decL_five
  rw [e0] at h0
  clear e0
  unfold ErrV at h0
  have H0 := Lib.hid h0; clear h0
  have h1 := fun w hm => decode_any s w (by unfold maxLen; omega) hm
  have HM := Lib.hid hm; clear hm
  by_cases he : (decL s.data.toList).2.2 = 0
  · obtain ⟨r, n, hx⟩ : ∃ r n, decL s.data.toList = (r, n, 0) := ⟨_, _, by rw [← he]⟩
    obtain ⟨hr, hn, hc⟩ := decL_one hx
    have hsz := recErr_sizes hr
    have hl : s.data.toList.length = s.size := by simp
    rw [hl] at hn
    have hC : (⟨(codedL r).toArray⟩ : ByteArray) = s.extract 0 n := by
      apply ByteArray.ext
      rw [hc]
      apply Array.ext'
      rw [ByteArray.data_extract, Array.toList_extract]
      simp
    have h2 := fun w hm => encode_ok r.kind r.seq r.time ⟨r.subj.toArray⟩ ⟨r.head.toArray⟩ ⟨r.data.toArray⟩ w (by rw [size_list]; omega) (by rw [size_list]; omega) (by rw [size_list]; omega) hm (by rw [rcOf_lists]; exact hr)
    rw [rcOf_lists, hC] at h2
    rw [hx] at h1
    unfold decV at h1
    simp only at h1
    unfold recA at h2
    clear hx hr hc hC hsz hl he
    generalize r.kind = k at *
    generalize r.seq = q at *
    generalize r.time = t at *
    generalize (⟨r.subj.toArray⟩ : ByteArray) = S at *
    generalize (⟨r.head.toArray⟩ : ByteArray) = H at *
    generalize (⟨r.data.toArray⟩ : ByteArray) = D at *
    have H1 := Lib.hid h1; have H2 := Lib.hid h2
    clear h1 h2
    go_enter Tryd.func12, Tryd.ntmps12
    go_wp2_with fail
    refine H0.out.mono ?_
    rintro _ w1 ⟨rfl, hb1⟩
    have HB1 := Lib.hid hb1; clear hb1 H0
    go_wp2_with fail
    refine (H1.out _ (HM.out.below (HB1.out.alloc HB1.out.size _))).mono ?_
    rintro _ w2 ⟨rfl, hb2⟩
    have HB2 := Lib.hid ((HB1.out.alloc HB1.out.size _).trans (hb2.mono (HB1.out.alloc HB1.out.size _).size))
    clear HB1 hb2
    go_wp2_with fail
    refine (H2.out _ (HM.out.below (HB2.out.alloc HB2.out.size _))).mono ?_
    rintro _ w3 ⟨rfl, hb3⟩
    have HB3 := Lib.hid ((HB2.out.alloc HB2.out.size _).trans (hb3.mono (HB2.out.alloc HB2.out.size _).size))
    clear HB2 hb3
    go_wp2
    go_ret
    exact ⟨by simp, (Inv.refl HM.out).step HB3.out⟩
  · have hx := decL_err he
    have h0' := dec0 he
    generalize (decL s.data.toList).2.2 = er at *
    rw [hx, decV_zero] at h1
    unfold ErrV at h1
    have h2 : ((er : Int) != 0) = true := by rw [bne, h0']; rfl
    clear hx he
    have H1 := Lib.hid h1; clear h1
    go_enter Tryd.func12, Tryd.ntmps12
    go_wp2_with fail
    refine H0.out.mono ?_
    rintro _ w1 ⟨rfl, hb1⟩
    have HB1 := Lib.hid hb1; clear hb1 H0
    go_wp2_with fail
    refine (H1.out _ (HM.out.below (HB1.out.alloc HB1.out.size _))).mono ?_
    rintro _ w2 ⟨rfl, hb2⟩
    have HB2 := Lib.hid ((HB1.out.alloc HB1.out.size _).trans (hb2.mono (HB1.out.alloc HB1.out.size _).size))
    clear HB1 hb2
    go_wp2
    go_ret
    exact ⟨by simp, (Inv.refl HM.out).step (HB2.out.alloc HB2.out.size _)⟩
end Go.Proofs.YtmeaenmialaghaaDoor.Subj
