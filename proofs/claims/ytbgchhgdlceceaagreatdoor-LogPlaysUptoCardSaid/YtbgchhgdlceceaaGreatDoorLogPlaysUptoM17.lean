/- Parts of the proof, joined: rillref.takes, walked by its own recursion; Takes.; rillref.overlap, walked by its own recursion; Overlap.; rillref.covers, walked by its own recursion; Covers.; The law SubjectMatches, walked: it returns true.; Encode, walked. -/
import Derived.Test.YtbgchhgdlceceaaGreatDoorLogPlaysUptoM16
namespace Go.Proofs.YtbgchhgdlceceaaGreatDoor.Subj
open Go.RowKit

theorem Strs.cons {w : World} {v : Value} {x : Tok} {l : List Tok} (h : Strs w v (x :: l)) :
    ∃ g off cap, v = .slice (some ⟨g, off, none⟩) (l.length + 1) cap ∧ l.length + 1 ≤ cap ∧ w.cell? ⟨g, off, none⟩ = some (.string ⟨x.toArray⟩) ∧
      Strs w (.slice (if cap = 1 then some ⟨g, off, none⟩ else some ⟨g, off + 1, none⟩) l.length (cap - 1)) l := by
  obtain ⟨ao, cap, rfl, hc, ha⟩ := h
  obtain ⟨g, off, rfl, hs⟩ := ha (by simp)
  refine ⟨g, off, cap, rfl, by simpa using hc, ?_, ⟨_, cap - 1, rfl, by simp at hc; omega, fun hne => ⟨g, off + 1, ?_, hs.tail⟩⟩⟩
  · have := hs 0 (by simp)
    simpa [strAt] using this
  · have := List.length_pos_iff.2 hne
    simp at hc
    rw [if_neg (by omega)]

theorem Strs.nil {w : World} {v : Value} (h : Strs w v []) : ∃ ao cap, v = .slice ao 0 cap := by
  obtain ⟨ao, cap, rfl, _, _⟩ := h
  exact ⟨ao, cap, rfl⟩

theorem Strs.drewN {w : World} {v : Value} {l : List Tok} (h : Strs w v l) (n : Nat) : Strs (w.drewN n) v l := h
theorem Strs.below {w w' : World} {v : Value} {l : List Tok} (h : Strs w v l) (hb : Below w.heap.size w w') : Strs w' v l := by
  obtain ⟨ao, cap, rfl, hc, ha⟩ := h
  exact ⟨ao, cap, rfl, hc, fun hne => let ⟨g, off, e, hs⟩ := ha hne; ⟨g, off, e, hs.below hb⟩⟩
theorem Strs.own {w : World} {base n : Nat} {v : Value} {l : List Tok} (h : w.ownsRow base 9 1 v n (strsV l)) : Strs w v l := by
  have hn : l.length = n := by have := h.1; simpa [strsV_len] using this
  subst hn
  have h0 := h
  rcases h.2 with ⟨rfl, e⟩ | ⟨g, cap, cur, rfl, _, _, hle, _⟩
  · exact ⟨none, 0, by rw [e], by omega, fun hne => absurd (List.eq_nil_of_length_eq_zero e) hne⟩
  · exact ⟨_, cap, rfl, hle, fun _ => ⟨g, 0, rfl, fun i hi => by rw [Nat.zero_add, h0.cellAt i (by omega), strsV_get _ _ hi]⟩⟩

end Go.Proofs.YtbgchhgdlceceaaGreatDoor.Subj

namespace Go.Proofs.YtbgchhgdlceceaaGreatDoor.Subj
open Go.RowKit

end Go.Proofs.YtbgchhgdlceceaaGreatDoor.Subj

namespace Go.Proofs.YtbgchhgdlceceaaGreatDoor.Subj
open Go.RowKit
end Go.Proofs.YtbgchhgdlceceaaGreatDoor.Subj

namespace Go.Proofs.YtbgchhgdlceceaaGreatDoor.Subj
open Go.RowKit

theorem dec0 {n : Nat} (h : n ≠ 0) : ((n : Int) == 0) = false := by simp; omega

end Go.Proofs.YtbgchhgdlceceaaGreatDoor.Subj

namespace Go.Proofs.YtbgchhgdlceceaaGreatDoor.Rec
open Go.RowKit Subj Pack Crc Grow

attribute [local go_sem] Grow.growAt Grow.upon

theorem ret_se {a b : ByteArray} {n : Int} (h : a = b) : Ending.returned (.tuple #[.string a, .int .i64 n]) = .returned (.tuple #[.string b, .int .i64 n]) := by rw [h]

set_option maxHeartbeats 1000000 in
set_option maxRecDepth 100000 in
theorem encode_ok (k q t : Int) (s h d : ByteArray) (w : World) (hs : s.size ≤ 1048576) (hh : h.size ≤ 1048576) (hd : d.size ≤ 1048576) (hm : ML w) (her : recErr (rcOf k q t s h d) = 0) :
    Calls Tryz.prog 116 #[.agg (recA k q t s h d)] w fun e w' => e = .returned (.tuple #[.string ⟨(codedL (rcOf k q t s h d)).toArray⟩, .int .i64 0]) ∧ Below w.heap.size w w' := by
  have hsz := recErr_sizes her
  unfold rcOf far at hsz
  obtain ⟨hk, hk2, _, hq, _, ht, _, _⟩ := hsz
  simp only at hk hk2 hq ht
  have hk : 0 ≤ k := by omega
  have hk2 : k < 256 := by omega
  have hq : q ≤ 9223372036854775807 := by omega
  have ht : t ≤ 9223372036854775807 := by omega
  have hch := fun w hm => check_any k q t s h d w hs hh hd hm
  rw [her] at hch
  have HCH := Lib.hid hch
  have HM := Lib.hid (ml_alloc hm (.cells (recA k q t s h d) 33))
  clear her hch hm
  obtain ⟨K0, eK0⟩ : ∃ S : ByteArray, (⟨#[UInt8.ofNat k.toNat]⟩ : ByteArray) = S := ⟨_, rfl⟩
  obtain ⟨N1, eN1⟩ : ∃ S : ByteArray, (⟨(numL q.toNat).toArray⟩ : ByteArray) = S := ⟨_, rfl⟩
  obtain ⟨N2, eN2⟩ : ∃ S : ByteArray, (⟨(numL t.toNat).toArray⟩ : ByteArray) = S := ⟨_, rfl⟩
  obtain ⟨T1, eT1⟩ : ∃ S : ByteArray, (⟨(textL s.data.toList).toArray⟩ : ByteArray) = S := ⟨_, rfl⟩
  obtain ⟨T2, eT2⟩ : ∃ S : ByteArray, (⟨(textL h.data.toList).toArray⟩ : ByteArray) = S := ⟨_, rfl⟩
  obtain ⟨T3, eT3⟩ : ∃ S : ByteArray, (⟨(textL d.data.toList).toArray⟩ : ByteArray) = S := ⟨_, rfl⟩
  have HN1 := Lib.hid fun w => number_any q w hq
  have HN2 := Lib.hid fun w => number_any t w ht
  have HT1 := Lib.hid fun w => text_any s w (by omega)
  have HT2 := Lib.hid fun w => text_any h w (by omega)
  have HT3 := Lib.hid fun w => text_any d w (by omega)
  have z0 : K0.size = 1 := by rw [← eK0]; rfl
  have z1 : N1.size ≤ 9 := by rw [← eN1]; exact numL_len _
  have z2 : N2.size ≤ 9 := by rw [← eN2]; exact numL_len _
  have z3 : T1.size ≤ 1048585 := by rw [← eT1]; have := (textL_len s.data.toList).2; have e : s.data.toList.length = s.size := by simp
                                    show (textL s.data.toList).length ≤ _; omega
  have z4 : T2.size ≤ 1048585 := by rw [← eT2]; have := (textL_len h.data.toList).2; have e : h.data.toList.length = h.size := by simp
                                    show (textL h.data.toList).length ≤ _; omega
  have z5 : T3.size ≤ 1048585 := by rw [← eT3]; have := (textL_len d.data.toList).2; have e : d.data.toList.length = d.size := by simp
                                    show (textL d.data.toList).length ≤ _; omega
  have y1 : ¬ 9223372036854775807 < K0.size + N1.size := by omega
  have y2 : ¬ 9223372036854775807 < K0.size + N1.size + N2.size := by omega
  have y3 : ¬ 9223372036854775807 < K0.size + N1.size + N2.size + T1.size := by omega
  have y4 : ¬ 9223372036854775807 < K0.size + N1.size + N2.size + T1.size + T2.size := by omega
  have y5 : ¬ 9223372036854775807 < K0.size + N1.size + N2.size + T1.size + T2.size + T3.size := by omega
  have z6 : K0.size ≤ 1 := by omega
  have hbody : K0 ++ N1 ++ N2 ++ T1 ++ T2 ++ T3 = ⟨(bodyL (rcOf k q t s h d)).toArray⟩ := by
    rw [← eK0, ← eN1, ← eN2, ← eT1, ← eT2, ← eT3]
    apply ByteArray.ext
    simp [bodyL, rcOf]
  have EBODY := Lib.hid hbody
  have hK0 : K0.data.toList = [UInt8.ofNat k.toNat] := by rw [← eK0]
  have HK0 := Lib.hid hK0
  rw [eN1] at HN1
  rw [eN2] at HN2
  rw [eT1] at HT1
  rw [eT2] at HT2
  rw [eT3] at HT3
  clear eK0 eN1 eN2 eT1 eT2 eT3 z0 hbody hK0
  have hb := (Below.refl w.heap.size w).alloc (Nat.le_refl _) (.cells (recA k q t s h d) 33)
  have HB := Lib.hid hb; clear hb
  have hwk : IntKind.u8.wrap k = (((UInt8.ofNat k.toNat).toNat : Nat) : Int) := by
    rw [ofNat_toNat_lt _ (by omega), IntKind.wrap_u8]; omega
  unfold recA at *
  go_enter Tryz.func116, Tryz.ntmps116
  go_wp2_with fail
  refine (HCH.out _ HM.out).mono ?_
  rintro e w0 ⟨rfl, hb0⟩
  have hbw0 := HB.out.trans (hb0.mono HB.out.size)
  have HB0 := Lib.hid hbw0
  have hc : ∀ X : Over w0, ∀ j, X.val.cell? ⟨w.heap.size, j, none⟩ = (#[.int .i64 k, .int .i64 q, .int .i64 t, .string s, .string h, .string d] : Array Value)[j]? := fun X j => by
    have h1 := hb0.size
    rw [X.below.cell (by simp at h1 ⊢; omega), hb0.cell (by simp), World.cell?_alloc_at _ _ _ _ rfl]
  clear hb0 hbw0 HCH HM HB
  have HB := HB0; clear HB0
  go_wp2_with fail
  refine wp_region_over [(0, false), (1, false), (2, false), (5, false), (6, false), (7, false), (9, false), (10, false), (11, false), (13, false), (14, false), (15, false), (17, false), (18, false), (19, false), (21, false), (22, false), (23, false), (3, true), (4, false), (8, false), (12, false), (16, false), (20, false), (24, false), (25, false)] (by kernel_rfl) (by kernel_rfl) ?_
  iterate 5
    refine sched_q rfl (fun K hK => ?_)
    go_simp
    refine hK _ ?_
    clear hK K
  refine sched_q rfl (fun K hK => ?_)
  go_simp
  refine ⟨_, fun X => HN1.out X.val, hK _ ?_⟩
  clear hK K
  iterate 2
    refine sched_q rfl (fun K hK => ?_)
    go_simp
    refine hK _ ?_
    clear hK K
  refine sched_q rfl (fun K hK => ?_)
  go_simp
  refine ⟨_, fun X => HN2.out X.val, hK _ ?_⟩
  clear hK K
  iterate 2
    refine sched_q rfl (fun K hK => ?_)
    go_simp
    refine hK _ ?_
    clear hK K
  refine sched_q rfl (fun K hK => ?_)
  go_simp
  refine ⟨_, fun X => HT1.out X.val, hK _ ?_⟩
  clear hK K
  iterate 2
    refine sched_q rfl (fun K hK => ?_)
    go_simp
    refine hK _ ?_
    clear hK K
  refine sched_q rfl (fun K hK => ?_)
  go_simp
  refine ⟨_, fun X => HT2.out X.val, hK _ ?_⟩
  clear hK K
  iterate 2
    refine sched_q rfl (fun K hK => ?_)
    go_simp
    refine hK _ ?_
    clear hK K
  refine sched_q rfl (fun K hK => ?_)
  go_simp
  refine ⟨_, fun X => HT3.out X.val, hK _ ?_⟩
  clear hK K
  refine sched_bytes (after_mono _) (di := 15) (dj := 16) [UInt8.ofNat k.toNat] HK0.out rfl rfl rfl rfl rfl rfl rfl rfl Tryz.underlying260 Tryz.underlying5 Tryz.underlying9 (by simp) (fun w => ⟨_, by go_simp, rfl⟩) (over_stable _) (fun v => ?_)
  iterate 6
    refine sched_q rfl (fun K hK => ?_)
    go_simp
    refine hK _ ?_
    clear hK K
  refine sched_nil (after_over (fun w1 hb1 => ?_))
  have hbw := HB.out.trans (hb1.mono HB.out.size)
  have HBW := Lib.hid hbw
  clear hbw hb1 hc HB HN1 HN2 HT1 HT2 HT3 hwk
  obtain ⟨B, eB⟩ : ∃ B : ByteArray, K0 ++ N1 ++ N2 ++ T1 ++ T2 ++ T3 = B := ⟨_, rfl⟩
  have zB : B.size ≤ 3145774 := by rw [← eB]; simp only [ByteArray.size_append]; omega
  rw [eB] at EBODY ⊢
  have EB := EBODY
  clear eB y1 y2 y3 y4 y5 z1 z2 z3 z4 z5 z6 HK0 EBODY
  have HS := Lib.hid fun w => sum_any B w (by unfold maxLen; omega)
  have HX := Lib.hid fun w => text_any B w (by omega)
  have hc32 : (crcL B.data.toList).toNat < 4294967296 := (crcL B.data.toList).isLt
  have hfin : (⟨(textL B.data.toList).toArray⟩ : ByteArray) ++ ⟨(le4 (crcL B.data.toList).toNat).toArray⟩ = ⟨(codedL (rcOf k q t s h d)).toArray⟩ := by
    rw [EB.out]; apply ByteArray.ext; simp [codedL, sum4]
  have HFIN := Lib.hid hfin; clear hfin
  generalize (crcL B.data.toList).toNat = c at *
  obtain ⟨X, eX⟩ : ∃ S : ByteArray, (⟨(textL B.data.toList).toArray⟩ : ByteArray) = S := ⟨_, rfl⟩
  rw [eX] at HX HFIN
  have zX : X.size ≤ 3145783 := by
    rw [← eX]; have := (textL_len B.data.toList).2; have e : B.data.toList.length = B.size := by simp
    show (textL B.data.toList).length ≤ _; omega
  obtain ⟨F, eF⟩ : ∃ S : ByteArray, (⟨(le4 c).toArray⟩ : ByteArray) = S := ⟨_, rfl⟩
  rw [eF] at HFIN
  have hF : F.data.toList = le4 c := by rw [← eF]
  have zF : F.size = 4 := by rw [← eF]; rfl
  have y1 : ¬ 9223372036854775807 < X.size + F.size := by omega
  have HF := Lib.hid hF
  clear eX eF hF zF EB
  have hl4 : (le4 c).length = 4 := rfl
  have f0 : IntKind.u8.wrap (c : Int) = (c : Int) % 256 := by rw [IntKind.wrap_u8]
  have f1 : IntKind.u8.wrap ((c : Int) / 256) = (c : Int) / 256 % 256 := by rw [IntKind.wrap_u8]
  have f2 : IntKind.u8.wrap ((c : Int) / 65536) = (c : Int) / 65536 % 256 := by rw [IntKind.wrap_u8]
  have f3 : IntKind.u8.wrap ((c : Int) / 16777216) = (c : Int) / 16777216 % 256 := by rw [IntKind.wrap_u8]
  go_wp2_with (go_at_call 181; refine (HS.out _).mono ?_; rintro e w' ⟨rfl, rfl⟩)
  refine wp_region_over [(0, false), (1, false), (2, false), (3, false), (4, false), (5, false), (6, false), (7, false), (8, false), (9, false), (10, false), (11, false), (12, false), (13, true), (14, false), (15, false), (16, false), (17, false)] (by kernel_rfl) (by kernel_rfl) ?_
  refine sched_q rfl (fun K hK => ?_)
  go_simp
  refine hK _ ?_
  clear hK K
  refine sched_q rfl (fun K hK => ?_)
  go_simp
  refine ⟨_, fun X => HX.out X.val, hK _ ?_⟩
  clear hK K
  iterate 11
    refine sched_q rfl (fun K hK => ?_)
    go_simp
    refine hK _ ?_
    clear hK K
  refine sched_bytes (after_mono _) (di := 52) (dj := 53) (le4 c) HF.out rfl rfl rfl rfl rfl rfl rfl rfl Tryz.underlying260 Tryz.underlying5 Tryz.underlying9 (by simp) (fun w => ⟨#[.int .u8 ((c : Int) % 256), .int .u8 ((c : Int) / 256 % 256), .int .u8 ((c : Int) / 65536 % 256), .int .u8 ((c : Int) / 16777216 % 256)], by go_simp, by simp [le4]⟩) (over_stable _) (fun v => ?_)
  iterate 3
    refine sched_q rfl (fun K hK => ?_)
    go_simp
    refine hK _ ?_
    clear hK K
  refine sched_nil (after_over (fun w2 hb2 => ?_))
  have hb2' := hb2
  go_wp2
  go_ret2
  exact ⟨ret_se HFIN.out, HBW.out.trans (hb2'.mono HBW.out.size)⟩

set_option maxRecDepth 100000 in
theorem encode_bad (k q t : Int) (s h d : ByteArray) (w : World) (hs : s.size ≤ 1048576) (hh : h.size ≤ 1048576) (hd : d.size ≤ 1048576) (hm : ML w) (her : recErr (rcOf k q t s h d) ≠ 0) :
    Calls Tryz.prog 116 #[.agg (recA k q t s h d)] w fun e w' => e = .returned (.tuple #[.string ByteArray.empty, .int .i64 (recErr (rcOf k q t s h d))]) ∧ Below w.heap.size w w' := by
  have HCH := Lib.hid fun w hm => check_any k q t s h d w hs hh hd hm
  have HM := Lib.hid (ml_alloc hm (.cells (recA k q t s h d) 33))
  have hb := (Below.refl w.heap.size w).alloc (Nat.le_refl _) (.cells (recA k q t s h d) 33)
  have HB := Lib.hid hb; clear hb hm
  generalize recErr (rcOf k q t s h d) = er at *
  have h0 := dec0 her
  have h1 : ((er : Int) != 0) = true := by rw [bne, h0]; rfl
  clear her
  unfold recA at *
  go_enter Tryz.func116, Tryz.ntmps116
  go_wp2_with fail
  refine (HCH.out _ HM.out).mono ?_
  rintro e w0 ⟨rfl, hb0⟩
  have hbw0 := Lib.hid (HB.out.trans (hb0.mono HB.out.size))
  clear hb0
  go_wp2
  go_ret2
  exact ⟨rfl, hbw0.out⟩
end Go.Proofs.YtbgchhgdlceceaaGreatDoor.Rec
