/- Parts of the proof, joined: Encode, walked.; Decode, walked: the reader's methods first. -/
import Derived.Test.YtbgchhgdlceceaaGreatDoorStrmBaseM5
import Derived.Handy
namespace Go.Proofs.YtbgchhgdlceceaaGreatDoor.Rec
open Go.RowKit Subj Pack Crc Grow

attribute [local go_sem] Grow.growAt Grow.upon

theorem ret_se {a b : ByteArray} {n : Int} (h : a = b) : Ending.returned (.tuple #[.string a, .int .i64 n]) = .returned (.tuple #[.string b, .int .i64 n]) := by rw [h]

set_option maxHeartbeats 1000000 in
set_option maxRecDepth 100000 in
theorem encode_ok (k q t : Int) (s h d : ByteArray) (w : World) (hs : s.size ≤ 1048576) (hh : h.size ≤ 1048576) (hd : d.size ≤ 1048576) (hm : ML w) (her : recErr (rcOf k q t s h d) = 0) :
    Calls Tryz.prog 116 #[.agg (recA k q t s h d)] w fun e w' => e = .returned (.tuple #[.string ⟨(codedL (rcOf k q t s h d)).toArray⟩, .int .i64 0]) ∧ Below w.heap.size w w' := by
  have hsz := recErr_sizes her
  unfold rcOf far at hsz
  obtain ⟨hk, hk2, _, hq, _, ht, _, _⟩ := hsz
  simp only at hk hk2 hq ht
  have hk : 0 ≤ k := by omega
  have hk2 : k < 256 := by omega
  have hq : q ≤ 9223372036854775807 := by omega
  have ht : t ≤ 9223372036854775807 := by omega
  have hch := fun w hm => check_any k q t s h d w hs hh hd hm
  rw [her] at hch
  have HCH := Lib.hid hch
  have HM := Lib.hid (ml_alloc hm (.cells (recA k q t s h d) 33))
  clear her hch hm
  obtain ⟨K0, eK0⟩ : ∃ S : ByteArray, (⟨#[UInt8.ofNat k.toNat]⟩ : ByteArray) = S := ⟨_, rfl⟩
  obtain ⟨N1, eN1⟩ : ∃ S : ByteArray, (⟨(numL q.toNat).toArray⟩ : ByteArray) = S := ⟨_, rfl⟩
  obtain ⟨N2, eN2⟩ : ∃ S : ByteArray, (⟨(numL t.toNat).toArray⟩ : ByteArray) = S := ⟨_, rfl⟩
  obtain ⟨T1, eT1⟩ : ∃ S : ByteArray, (⟨(textL s.data.toList).toArray⟩ : ByteArray) = S := ⟨_, rfl⟩
  obtain ⟨T2, eT2⟩ : ∃ S : ByteArray, (⟨(textL h.data.toList).toArray⟩ : ByteArray) = S := ⟨_, rfl⟩
  obtain ⟨T3, eT3⟩ : ∃ S : ByteArray, (⟨(textL d.data.toList).toArray⟩ : ByteArray) = S := ⟨_, rfl⟩
  have HN1 := Lib.hid fun w => number_any q w hq
  have HN2 := Lib.hid fun w => number_any t w ht
  have HT1 := Lib.hid fun w => text_any s w (by omega)
  have HT2 := Lib.hid fun w => text_any h w (by omega)
  have HT3 := Lib.hid fun w => text_any d w (by omega)
  have z0 : K0.size = 1 := by rw [← eK0]; rfl
  have z1 : N1.size ≤ 9 := by rw [← eN1]; exact numL_len _
  have z2 : N2.size ≤ 9 := by rw [← eN2]; exact numL_len _
  have z3 : T1.size ≤ 1048585 := by rw [← eT1]; have := (textL_len s.data.toList).2; have e : s.data.toList.length = s.size := by simp
                                    show (textL s.data.toList).length ≤ _; omega
  have z4 : T2.size ≤ 1048585 := by rw [← eT2]; have := (textL_len h.data.toList).2; have e : h.data.toList.length = h.size := by simp
                                    show (textL h.data.toList).length ≤ _; omega
  have z5 : T3.size ≤ 1048585 := by rw [← eT3]; have := (textL_len d.data.toList).2; have e : d.data.toList.length = d.size := by simp
                                    show (textL d.data.toList).length ≤ _; omega
  have y1 : ¬ 9223372036854775807 < K0.size + N1.size := by omega
  have y2 : ¬ 9223372036854775807 < K0.size + N1.size + N2.size := by omega
  have y3 : ¬ 9223372036854775807 < K0.size + N1.size + N2.size + T1.size := by omega
  have y4 : ¬ 9223372036854775807 < K0.size + N1.size + N2.size + T1.size + T2.size := by omega
  have y5 : ¬ 9223372036854775807 < K0.size + N1.size + N2.size + T1.size + T2.size + T3.size := by omega
  have z6 : K0.size ≤ 1 := by omega
  have hbody : K0 ++ N1 ++ N2 ++ T1 ++ T2 ++ T3 = ⟨(bodyL (rcOf k q t s h d)).toArray⟩ := by
    rw [← eK0, ← eN1, ← eN2, ← eT1, ← eT2, ← eT3]
    apply ByteArray.ext
    simp [bodyL, rcOf]
  have EBODY := Lib.hid hbody
  have hK0 : K0.data.toList = [UInt8.ofNat k.toNat] := by rw [← eK0]
  have HK0 := Lib.hid hK0
  rw [eN1] at HN1
  rw [eN2] at HN2
  rw [eT1] at HT1
  rw [eT2] at HT2
  rw [eT3] at HT3
  clear eK0 eN1 eN2 eT1 eT2 eT3 z0 hbody hK0
  have hb := (Below.refl w.heap.size w).alloc (Nat.le_refl _) (.cells (recA k q t s h d) 33)
  have HB := Lib.hid hb; clear hb
  have hwk : IntKind.u8.wrap k = (((UInt8.ofNat k.toNat).toNat : Nat) : Int) := by
    rw [ofNat_toNat_lt _ (by omega), IntKind.wrap_u8]; omega
  unfold recA at *
  go_enter Tryz.func116, Tryz.ntmps116
  go_wp2_with fail
  refine (HCH.out _ HM.out).mono ?_
  rintro e w0 ⟨rfl, hb0⟩
  have hbw0 := HB.out.trans (hb0.mono HB.out.size)
  have HB0 := Lib.hid hbw0
  have hc : ∀ X : Over w0, ∀ j, X.val.cell? ⟨w.heap.size, j, none⟩ = (#[.int .i64 k, .int .i64 q, .int .i64 t, .string s, .string h, .string d] : Array Value)[j]? := fun X j => by
    have h1 := hb0.size
    rw [X.below.cell (by simp at h1 ⊢; omega), hb0.cell (by simp), World.cell?_alloc_at _ _ _ _ rfl]
  clear hb0 hbw0 HCH HM HB
  have HB := HB0; clear HB0
  go_wp2_with fail
  refine wp_region_over [(0, false), (1, false), (2, false), (5, false), (6, false), (7, false), (9, false), (10, false), (11, false), (13, false), (14, false), (15, false), (17, false), (18, false), (19, false), (21, false), (22, false), (23, false), (3, true), (4, false), (8, false), (12, false), (16, false), (20, false), (24, false), (25, false)] (by kernel_rfl) (by kernel_rfl) ?_
  iterate 5
    refine sched_q rfl (fun K hK => ?_)
    go_simp
    refine hK _ ?_
    clear hK K
  refine sched_q rfl (fun K hK => ?_)
  go_simp
  refine ⟨_, fun X => HN1.out X.val, hK _ ?_⟩
  clear hK K
  iterate 2
    refine sched_q rfl (fun K hK => ?_)
    go_simp
    refine hK _ ?_
    clear hK K
  refine sched_q rfl (fun K hK => ?_)
  go_simp
  refine ⟨_, fun X => HN2.out X.val, hK _ ?_⟩
  clear hK K
  iterate 2
    refine sched_q rfl (fun K hK => ?_)
    go_simp
    refine hK _ ?_
    clear hK K
  refine sched_q rfl (fun K hK => ?_)
  go_simp
  refine ⟨_, fun X => HT1.out X.val, hK _ ?_⟩
  clear hK K
  iterate 2
    refine sched_q rfl (fun K hK => ?_)
    go_simp
    refine hK _ ?_
    clear hK K
  refine sched_q rfl (fun K hK => ?_)
  go_simp
  refine ⟨_, fun X => HT2.out X.val, hK _ ?_⟩
  clear hK K
  iterate 2
    refine sched_q rfl (fun K hK => ?_)
    go_simp
    refine hK _ ?_
    clear hK K
  refine sched_q rfl (fun K hK => ?_)
  go_simp
  refine ⟨_, fun X => HT3.out X.val, hK _ ?_⟩
  clear hK K
  refine sched_bytes (after_mono _) (di := 15) (dj := 16) [UInt8.ofNat k.toNat] HK0.out rfl rfl rfl rfl rfl rfl rfl rfl Tryz.underlying260 Tryz.underlying5 Tryz.underlying9 (by simp) (fun w => ⟨_, by go_simp, rfl⟩) (over_stable _) (fun v => ?_)
  iterate 6
    refine sched_q rfl (fun K hK => ?_)
    go_simp
    refine hK _ ?_
    clear hK K
  refine sched_nil (after_over (fun w1 hb1 => ?_))
  have hbw := HB.out.trans (hb1.mono HB.out.size)
  have HBW := Lib.hid hbw
  clear hbw hb1 hc HB HN1 HN2 HT1 HT2 HT3 hwk
  obtain ⟨B, eB⟩ : ∃ B : ByteArray, K0 ++ N1 ++ N2 ++ T1 ++ T2 ++ T3 = B := ⟨_, rfl⟩
  have zB : B.size ≤ 3145774 := by rw [← eB]; simp only [ByteArray.size_append]; omega
  rw [eB] at EBODY ⊢
  have EB := EBODY
  clear eB y1 y2 y3 y4 y5 z1 z2 z3 z4 z5 z6 HK0 EBODY
  have HS := Lib.hid fun w => sum_any B w (by unfold maxLen; omega)
  have HX := Lib.hid fun w => text_any B w (by omega)
  have hc32 : (crcL B.data.toList).toNat < 4294967296 := (crcL B.data.toList).isLt
  have hfin : (⟨(textL B.data.toList).toArray⟩ : ByteArray) ++ ⟨(le4 (crcL B.data.toList).toNat).toArray⟩ = ⟨(codedL (rcOf k q t s h d)).toArray⟩ := by
    rw [EB.out]; apply ByteArray.ext; simp [codedL, sum4]
  have HFIN := Lib.hid hfin; clear hfin
  generalize (crcL B.data.toList).toNat = c at *
  obtain ⟨X, eX⟩ : ∃ S : ByteArray, (⟨(textL B.data.toList).toArray⟩ : ByteArray) = S := ⟨_, rfl⟩
  rw [eX] at HX HFIN
  have zX : X.size ≤ 3145783 := by
    rw [← eX]; have := (textL_len B.data.toList).2; have e : B.data.toList.length = B.size := by simp
    show (textL B.data.toList).length ≤ _; omega
  obtain ⟨F, eF⟩ : ∃ S : ByteArray, (⟨(le4 c).toArray⟩ : ByteArray) = S := ⟨_, rfl⟩
  rw [eF] at HFIN
  have hF : F.data.toList = le4 c := by rw [← eF]
  have zF : F.size = 4 := by rw [← eF]; rfl
  have y1 : ¬ 9223372036854775807 < X.size + F.size := by omega
  have HF := Lib.hid hF
  clear eX eF hF zF EB
  have hl4 : (le4 c).length = 4 := rfl
  have f0 : IntKind.u8.wrap (c : Int) = (c : Int) % 256 := by rw [IntKind.wrap_u8]
  have f1 : IntKind.u8.wrap ((c : Int) / 256) = (c : Int) / 256 % 256 := by rw [IntKind.wrap_u8]
  have f2 : IntKind.u8.wrap ((c : Int) / 65536) = (c : Int) / 65536 % 256 := by rw [IntKind.wrap_u8]
  have f3 : IntKind.u8.wrap ((c : Int) / 16777216) = (c : Int) / 16777216 % 256 := by rw [IntKind.wrap_u8]
  go_wp2_with (go_at_call 181; refine (HS.out _).mono ?_; rintro e w' ⟨rfl, rfl⟩)
  refine wp_region_over [(0, false), (1, false), (2, false), (3, false), (4, false), (5, false), (6, false), (7, false), (8, false), (9, false), (10, false), (11, false), (12, false), (13, true), (14, false), (15, false), (16, false), (17, false)] (by kernel_rfl) (by kernel_rfl) ?_
  refine sched_q rfl (fun K hK => ?_)
  go_simp
  refine hK _ ?_
  clear hK K
  refine sched_q rfl (fun K hK => ?_)
  go_simp
  refine ⟨_, fun X => HX.out X.val, hK _ ?_⟩
  clear hK K
  iterate 11
    refine sched_q rfl (fun K hK => ?_)
    go_simp
    refine hK _ ?_
    clear hK K
  refine sched_bytes (after_mono _) (di := 52) (dj := 53) (le4 c) HF.out rfl rfl rfl rfl rfl rfl rfl rfl Tryz.underlying260 Tryz.underlying5 Tryz.underlying9 (by simp) (fun w => ⟨#[.int .u8 ((c : Int) % 256), .int .u8 ((c : Int) / 256 % 256), .int .u8 ((c : Int) / 65536 % 256), .int .u8 ((c : Int) / 16777216 % 256)], by go_simp, by simp [le4]⟩) (over_stable _) (fun v => ?_)
  iterate 3
    refine sched_q rfl (fun K hK => ?_)
    go_simp
    refine hK _ ?_
    clear hK K
  refine sched_nil (after_over (fun w2 hb2 => ?_))
  have hb2' := hb2
  go_wp2
  go_ret2
  exact ⟨ret_se HFIN.out, HBW.out.trans (hb2'.mono HBW.out.size)⟩

set_option maxRecDepth 100000 in
theorem encode_bad (k q t : Int) (s h d : ByteArray) (w : World) (hs : s.size ≤ 1048576) (hh : h.size ≤ 1048576) (hd : d.size ≤ 1048576) (hm : ML w) (her : recErr (rcOf k q t s h d) ≠ 0) :
    Calls Tryz.prog 116 #[.agg (recA k q t s h d)] w fun e w' => e = .returned (.tuple #[.string ByteArray.empty, .int .i64 (recErr (rcOf k q t s h d))]) ∧ Below w.heap.size w w' := by
  have HCH := Lib.hid fun w hm => check_any k q t s h d w hs hh hd hm
  have HM := Lib.hid (ml_alloc hm (.cells (recA k q t s h d) 33))
  have hb := (Below.refl w.heap.size w).alloc (Nat.le_refl _) (.cells (recA k q t s h d) 33)
  have HB := Lib.hid hb; clear hb hm
  generalize recErr (rcOf k q t s h d) = er at *
  have h0 := dec0 her
  have h1 : ((er : Int) != 0) = true := by rw [bne, h0]; rfl
  clear her
  unfold recA at *
  go_enter Tryz.func116, Tryz.ntmps116
  go_wp2_with fail
  refine (HCH.out _ HM.out).mono ?_
  rintro e w0 ⟨rfl, hb0⟩
  have hbw0 := Lib.hid (HB.out.trans (hb0.mono HB.out.size))
  clear hb0
  go_wp2
  go_ret2
  exact ⟨rfl, hbw0.out⟩
end Go.Proofs.YtbgchhgdlceceaaGreatDoor.Rec

namespace Go.Proofs.YtbgchhgdlceceaaGreatDoor.Rec
open Go.RowKit Subj Pack Crc

theorem rdN_le (l : List UInt8) : (rdN l).2.1 ≤ l.length := by
  rcases rdN_cases l with ⟨n, k, e, _, _, h, _⟩ | e | e
  · rw [e]; exact h
  · rw [e]; exact Nat.zero_le _
  · rw [e]; exact Nat.zero_le _

theorem rdT_le (l : List UInt8) (m : Int) : (rdT l m).2.1 ≤ l.length := by
  rcases rdT_cases l m with ⟨t, k, e, _, _, h, _⟩ | e | e
  · rw [e]; exact h
  · rw [e]; exact Nat.zero_le _
  · rw [e]; exact Nat.zero_le _

/-- The reader behind a number, a text. -/
def afterN (S : ByteArray) : ByteArray := S.extract (rdN S.data.toList).2.1 S.size
def afterT (S : ByteArray) : ByteArray := S.extract (rdT S.data.toList 1024).2.1 S.size

theorem afterN_list (S : ByteArray) : (afterN S).data.toList = fB S.data.toList := by
  unfold afterN fB
  rw [ByteArray.data_extract, Array.toList_extract]
  simp
  exact List.take_of_length_le (by simp)
theorem afterT_list (S : ByteArray) : (afterT S).data.toList = fT S.data.toList := by
  unfold afterT fT
  rw [ByteArray.data_extract, Array.toList_extract]
  simp
  exact List.take_of_length_le (by simp)

theorem beq0 (n : Nat) : ((n : Int) == 0) = (n == 0) := by
  rw [Bool.eq_iff_iff]; simp

set_option maxRecDepth 100000 in
theorem number_m (g : Nat) (S : ByteArray) (b : Bool) (w : World) (hS : S.size ≤ maxLen) (h0 : w.cell? ⟨g, 0, none⟩ = some (.string S)) (h1 : w.cell? ⟨g, 1, none⟩ = some (.bool b))
    (f0 : w.frozen? ⟨g, 0, none⟩ = false) (f1 : w.frozen? ⟨g, 1, none⟩ = false) :
    Calls Tryz.prog 216 #[.pointer (some ⟨g, 0, none⟩)] w fun e w' => e = .returned (.int .i64 (rdN S.data.toList).1) ∧
      (w.setCell ⟨g, 1, none⟩ (.bool (b && (rdN S.data.toList).2.2 == 0))).setCell ⟨g, 0, none⟩ (.string (afterN S)) = w' := by
  have HR := Lib.hid fun w => readNumber_any S w hS
  have hle := rdN_le S.data.toList
  unfold maxLen at hS
  have hl : S.data.toList.length = S.size := by simp
  rw [hl] at hle
  unfold afterN
  unfold rdV at HR
  rw [← beq0]
  generalize (rdN S.data.toList) = x at *
  obtain ⟨n, k, e⟩ := x
  simp only at hle HR ⊢
  clear hl
  cases b <;> cases he : ((e : Int) == 0)
  all_goals
    go_enter Tryz.func216, Tryz.ntmps216
    go_wp2_with (go_at_call 248; refine (HR.out _).mono ?_; rintro e w' ⟨rfl, rfl⟩)
    go_ret
    exact ⟨rfl, rfl⟩

set_option maxRecDepth 100000 in
theorem text_m (g : Nat) (S : ByteArray) (b : Bool) (w : World) (hS : S.size ≤ maxLen) (h0 : w.cell? ⟨g, 0, none⟩ = some (.string S)) (h1 : w.cell? ⟨g, 1, none⟩ = some (.bool b))
    (f0 : w.frozen? ⟨g, 0, none⟩ = false) (f1 : w.frozen? ⟨g, 1, none⟩ = false) :
    Calls Tryz.prog 217 #[.pointer (some ⟨g, 0, none⟩)] w fun e w' => e = .returned (.string ⟨(rdT S.data.toList 1024).1.toArray⟩) ∧
      (w.setCell ⟨g, 1, none⟩ (.bool (b && (rdT S.data.toList 1024).2.2 == 0))).setCell ⟨g, 0, none⟩ (.string (afterT S)) = w' := by
  have HR := Lib.hid fun w => readText_any S 1024 w hS
  have hle := rdT_le S.data.toList 1024
  unfold maxLen at hS
  have hl : S.data.toList.length = S.size := by simp
  rw [hl] at hle
  unfold afterT
  unfold rtV at HR
  rw [← beq0]
  generalize (rdT S.data.toList 1024) = x at *
  obtain ⟨n, k, e⟩ := x
  simp only at hle HR ⊢
  clear hl
  generalize (⟨n.toArray⟩ : ByteArray) = T at *
  cases b <;> cases he : ((e : Int) == 0)
  all_goals
    go_enter Tryz.func217, Tryz.ntmps217
    go_wp2_with (go_at_call 215; refine (HR.out _).mono ?_; rintro e w' ⟨rfl, rfl⟩)
    go_ret
    exact ⟨rfl, rfl⟩

def decV (x : Rc × Nat × Nat) : Value :=
  .tuple #[.agg #[.int .i64 x.1.kind, .int .i64 x.1.seq, .int .i64 x.1.time, .string ⟨x.1.subj.toArray⟩, .string ⟨x.1.head.toArray⟩, .string ⟨x.1.data.toArray⟩], .int .i64 x.2.1, .int .i64 x.2.2]

/-- What the five readings of a body leave. -/
structure Read (S0 S1 S2 S3 S4 S5 : ByteArray) (b1 b2 b3 b4 b5 : Bool) (q t : Int) (T1 T2 T3 : ByteArray) : Prop where
  s1 : afterN S0 = S1
  s2 : afterN S1 = S2
  s3 : afterT S2 = S3
  s4 : afterT S3 = S4
  s5 : afterT S4 = S5
  c1 : (true && (rdN S0.data.toList).2.2 == 0) = b1
  c2 : (b1 && (rdN S1.data.toList).2.2 == 0) = b2
  c3 : (b2 && (rdT S2.data.toList 1024).2.2 == 0) = b3
  c4 : (b3 && (rdT S3.data.toList 1024).2.2 == 0) = b4
  c5 : (b4 && (rdT S4.data.toList 1024).2.2 == 0) = b5
  q : ((rdN S0.data.toList).1 : Int) = q
  t : ((rdN S1.data.toList).1 : Int) = t
  t1 : (⟨(rdT S2.data.toList 1024).1.toArray⟩ : ByteArray) = T1
  t2 : (⟨(rdT S3.data.toList 1024).1.toArray⟩ : ByteArray) = T2
  t3 : (⟨(rdT S4.data.toList 1024).1.toArray⟩ : ByteArray) = T3

theorem read_all (S0 : ByteArray) : ∃ S1 S2 S3 S4 S5 b1 b2 b3 b4 b5 q t T1 T2 T3, Read S0 S1 S2 S3 S4 S5 b1 b2 b3 b4 b5 q t T1 T2 T3 :=
  ⟨_, _, _, _, _, _, _, _, _, _, _, _, _, _, _, ⟨rfl, rfl, rfl, rfl, rfl, rfl, rfl, rfl, rfl, rfl, rfl, rfl, rfl, rfl, rfl⟩⟩

theorem Read.fields {S0 S1 S2 S3 S4 S5 : ByteArray} {b1 b2 b3 b4 b5 : Bool} {q t : Int} {T1 T2 T3 : ByteArray} (h : Read S0 S1 S2 S3 S4 S5 b1 b2 b3 b4 b5 q t T1 T2 T3) (k : Int) :
    fields k S0.data.toList = (rcOf k q t T1 T2 T3, S5.data.toList, b5) := by
  obtain ⟨rfl, rfl, rfl, rfl, rfl, rfl, rfl, rfl, rfl, rfl, rfl, rfl, rfl, rfl, rfl⟩ := h
  unfold Rec.fields rcOf
  simp only [afterN_list, afterT_list, Bool.true_and]

theorem after_sizeN (S : ByteArray) : (afterN S).size ≤ S.size := by
  unfold afterN; simp
theorem after_sizeT (S : ByteArray) : (afterT S).size ≤ S.size := by
  unfold afterT; simp

theorem Read.sizes {S0 S1 S2 S3 S4 S5 : ByteArray} {b1 b2 b3 b4 b5 : Bool} {q t : Int} {T1 T2 T3 : ByteArray} (h : Read S0 S1 S2 S3 S4 S5 b1 b2 b3 b4 b5 q t T1 T2 T3) :
    S1.size ≤ S0.size ∧ S2.size ≤ S0.size ∧ S3.size ≤ S0.size ∧ S4.size ≤ S0.size ∧ T1.size ≤ 1024 ∧ T2.size ≤ 1024 ∧ T3.size ≤ 1024 := by
  obtain ⟨rfl, rfl, rfl, rfl, rfl, rfl, rfl, rfl, rfl, rfl, rfl, rfl, rfl, rfl, rfl⟩ := h
  have a1 := after_sizeN S0
  have a2 := after_sizeN (afterN S0)
  have a3 := after_sizeT (afterN (afterN S0))
  have a4 := after_sizeT (afterT (afterN (afterN S0)))
  have hT : ∀ l : List UInt8, (⟨(rdT l 1024).1.toArray⟩ : ByteArray).size ≤ 1024 := fun l => by
    show (rdT l 1024).1.toArray.size ≤ 1024
    rcases rdT_cases l 1024 with ⟨x, k, e, h, _⟩ | e | e
    · rw [e]; simp; omega
    · rw [e]; simp
    · rw [e]; simp
  exact ⟨a1, by omega, by omega, by omega, hT _, hT _, hT _⟩

theorem bits_u32_or (a b : Nat) (ha : a < 2 ^ 32) (hb : b < 2 ^ 32) : bits .or .u32 (a : Int) (b : Int) = ((a ||| b : Nat) : Int) := by
  have hlt : a ||| b < 2 ^ 32 := Nat.or_lt_two_pow ha hb
  show IntKind.u32.wrap (((BitVec.ofInt 32 (a : Int) ||| BitVec.ofInt 32 (b : Int)).toNat : Nat) : Int) = _
  rw [BitVec.ofInt_natCast, BitVec.ofInt_natCast, BitVec.toNat_or, BitVec.toNat_ofNat, BitVec.toNat_ofNat, Nat.mod_eq_of_lt ha, Nat.mod_eq_of_lt hb, IntKind.wrap_u32]
  omega

/-- Four bytes as a number. -/
def num4 (a b c d : UInt8) : Nat := a.toNat + b.toNat * 256 + c.toNat * 65536 + d.toNat * 16777216

theorem num4_bits (a b c d : UInt8) : bits .or .u32 (bits .or .u32 (bits .or .u32 ((a.toNat : Int) % 4294967296) ((b.toNat : Int) % 4294967296 * 256 % 4294967296)) ((c.toNat : Int) % 4294967296 * 65536 % 4294967296)) ((d.toNat : Int) % 4294967296 * 16777216 % 4294967296) = (num4 a b c d : Nat) := by
  have ha := a.toNat_lt; have hb := b.toNat_lt; have hc := c.toNat_lt; have hd := d.toNat_lt
  have e1 : (a.toNat : Int) % 4294967296 = (a.toNat : Nat) := by omega
  have e2 : (b.toNat : Int) % 4294967296 * 256 % 4294967296 = (b.toNat * 2 ^ 8 : Nat) := by omega
  have e3 : (c.toNat : Int) % 4294967296 * 65536 % 4294967296 = (c.toNat * 2 ^ 16 : Nat) := by omega
  have e4 : (d.toNat : Int) % 4294967296 * 16777216 % 4294967296 = (d.toNat * 2 ^ 24 : Nat) := by omega
  rw [e1, e2, e3, e4, bits_u32_or _ _ (by omega) (by omega), or_low _ _ 8 (by omega), bits_u32_or _ _ (by omega) (by omega), or_low _ _ 16 (by omega), bits_u32_or _ _ (by omega) (by omega), or_low _ _ 24 (by omega)]
  unfold num4
  omega

theorem num4_le4 (a b c d : UInt8) (x : Nat) (hx : x < 4294967296) : [a, b, c, d] = le4 x ↔ num4 a b c d = x := by
  have ha := a.toNat_lt; have hb := b.toNat_lt; have hc := c.toNat_lt; have hd := d.toNat_lt
  unfold le4 num4
  simp only [List.cons.injEq, and_true, ← UInt8.toNat_inj, UInt8.toNat_ofNat']
  omega

theorem take4 (s : ByteArray) (k : Nat) (h : k + 4 ≤ s.size) : (s.data.toList.drop k).take 4 = [s[k], s[k + 1], s[k + 2], s[k + 3]] := by
  have hl : s.data.toList.length = s.size := by simp
  rw [List.drop_eq_getElem_cons (by omega), List.drop_eq_getElem_cons (by omega), List.drop_eq_getElem_cons (by omega), List.drop_eq_getElem_cons (by omega)]
  rfl

/-- Decode's zero, as it lies behind an error. -/
def ErrV (n : Nat) : Value := .tuple #[.agg #[.int .i64 0, .int .i64 0, .int .i64 0, .string ByteArray.empty, .string ByteArray.empty, .string ByteArray.empty], .int .i64 0, .int .i64 n]

/-- Decode's answer where its text has been read. -/
def bodyV (B : ByteArray) (k : Nat) (l : List UInt8) : Rc × Nat × Nat :=
  if (l.drop k).take 4 ≠ sum4 B.data.toList then (Rc.zero, 0, 7) else match B.data.toList with
    | [] => (Rc.zero, 0, 7)
    | x :: rest => bodyR x rest (k + 4)

theorem cells6 {w' : World} {g : Nat} {u0 u1 u2 u3 u4 u5 : Value} (hc : ∀ j, w'.cell? ⟨g, j, none⟩ = [u0, u1, u2, u3, u4, u5][j]?) :
    w'.cell? ⟨g, 0, none⟩ = some u0 ∧ w'.cell? ⟨g, 1, none⟩ = some u1 ∧ w'.cell? ⟨g, 2, none⟩ = some u2 ∧ w'.cell? ⟨g, 3, none⟩ = some u3 ∧ w'.cell? ⟨g, 4, none⟩ = some u4 ∧ w'.cell? ⟨g, 5, none⟩ = some u5 :=
  ⟨hc 0, hc 1, hc 2, hc 3, hc 4, hc 5⟩

theorem errV_eq {e : ByteArray} (h : e = ByteArray.empty) (n : Nat) : Ending.returned (.tuple #[.agg #[.int .i64 0, .int .i64 0, .int .i64 0, .string e, .string e, .string e], .int .i64 0, .int .i64 n]) = .returned (ErrV n) := by rw [h]; rfl

set_option maxHeartbeats 6000000 in
set_option maxRecDepth 100000 in
theorem decode_good (s B : ByteArray) (k : Nat) (w : World) (hs : s.size ≤ maxLen) (hm : ML w) (hR : ∀ w, Calls Tryz.prog 215 #[.string s, .int .i64 1024] w fun e w' => e = .returned (.tuple #[.string B, .int .i64 k, .int .i64 0]) ∧ w = w')
    (hq0 : (s.data.toList.drop k).take 4 = sum4 B.data.toList) (hbs2 : B.size ≤ 1024) (hbs3 : 0 < B.size) (hlen : k + 4 ≤ s.size) :
    Calls Tryz.prog 172 #[.string s] w fun e w' => e = .returned (decV (bodyV B k s.data.toList)) ∧ Below w.heap.size w w' := by
  have HR := Lib.hid hR; clear hR
  have hbe : B.toList.isEmpty = false := by
    rw [ByteArray.toList_eq]
    have : B.data.toList.length = B.size := by simp
    cases h : B.data.toList with
    | nil => rw [h] at this; simp at this; omega
    | cons => rfl
  have hw0 : wrap64 (B[0].toNat : Int) = (B[0].toNat : Int) := wrap64_small _ (by have := B[0].toNat_lt; omega)
  have hBl : B.data.toList = B[0] :: (B.extract 1 B.size).data.toList := by
    have h1 := List.drop_eq_getElem_cons (l := B.data.toList) (i := 0) (by simpa using hbs3)
    have h2 : (B.extract 1 B.size).data.toList = B.data.toList.drop 1 := by
      rw [ByteArray.data_extract, Array.toList_extract]
      simp
      exact List.take_of_length_le (by simp)
    rw [h2]
    exact h1
  have hz0 : (B.extract 1 B.size).size ≤ 1024 := by simp; omega
  have HBL := Lib.hid hBl
  clear hBl
  have hbad : ∀ c, (s.data.toList.drop k).take 4 ≠ le4 c → (crcL B.data.toList).toNat = c → decV (bodyV B k s.data.toList) = ErrV 7 := fun c h hc => by
    unfold bodyV sum4
    rw [hc, if_pos h]; rfl
  have hgood : ∀ c, (s.data.toList.drop k).take 4 = le4 c → (crcL B.data.toList).toNat = c → bodyV B k s.data.toList = bodyR B[0] (B.extract 1 B.size).data.toList (k + 4) := fun c h hc => by
    unfold bodyV sum4
    rw [hc, if_neg (by simpa using h)]
    show (match B.data.toList with | [] => _ | x :: rest => _) = _
    rw [HBL.out]
  obtain ⟨S1, S2, S3, S4, S5, b1, b2, b3, b4, b5, q, t, T1, T2, T3, hRd⟩ := read_all (B.extract 1 B.size)
  obtain ⟨hs1, hs2, hs3, hs4, ht1, ht2, ht3⟩ := hRd.sizes
  have K1 := Lib.hid fun g w h0 h1 f0 f1 => number_m g (B.extract 1 B.size) true w (by unfold maxLen; omega) h0 h1 f0 f1
  have K2 := Lib.hid fun g w h0 h1 f0 f1 => number_m g S1 b1 w (by unfold maxLen; omega) h0 h1 f0 f1
  have K3 := Lib.hid fun g w h0 h1 f0 f1 => text_m g S2 b2 w (by unfold maxLen; omega) h0 h1 f0 f1
  have K4 := Lib.hid fun g w h0 h1 f0 f1 => text_m g S3 b3 w (by unfold maxLen; omega) h0 h1 f0 f1
  have K5 := Lib.hid fun g w h0 h1 f0 f1 => text_m g S4 b4 w (by unfold maxLen; omega) h0 h1 f0 f1
  rw [hRd.c1, hRd.s1, hRd.q] at K1
  rw [hRd.c2, hRd.s2, hRd.t] at K2
  rw [hRd.c3, hRd.s3, hRd.t1] at K3
  rw [hRd.c4, hRd.s4, hRd.t2] at K4
  rw [hRd.c5, hRd.s5, hRd.t3] at K5
  have HC := Lib.hid fun W hm => check_any (B[0].toNat : Int) q t T1 T2 T3 W (by omega) (by omega) (by omega) hm
  unfold recA at HC
  have hnot : ∀ c, ((s.data.toList.drop k).take 4 = le4 c) → (crcL B.data.toList).toNat = c → (b5 = false ∨ S5.toList ≠ [] ∨ recErr (rcOf (B[0].toNat : Int) q t T1 T2 T3) ≠ 0) → decV (bodyV B k s.data.toList) = ErrV 7 := fun c h hc hn => by
    rw [hgood c h hc]
    unfold bodyR
    rw [hRd.fields, if_neg]
    · rfl
    · rintro ⟨h1, h2, h3⟩
      rcases hn with hn | hn | hn
      · rw [hn] at h1; cases h1
      · exact hn ((empty_iff S5).1 h2)
      · exact hn h3
  have hyes : ∀ c, ((s.data.toList.drop k).take 4 = le4 c) → (crcL B.data.toList).toNat = c → b5 = true → S5.toList = [] → recErr (rcOf (B[0].toNat : Int) q t T1 T2 T3) = 0 →
      decV (bodyV B k s.data.toList) = .tuple #[.agg #[.int .i64 (B[0].toNat : Int), .int .i64 q, .int .i64 t, .string T1, .string T2, .string T3], .int .i64 ((k : Int) + 4), .int .i64 0] := fun c h hc h1 h2 h3 => by
    rw [hgood c h hc]
    unfold bodyR
    rw [hRd.fields, if_pos ⟨h1, (empty_iff S5).2 h2, h3⟩]
    rfl
  clear hgood hRd hs1 hs2 hs3 hs4
  have HS := Lib.hid fun w => sum_any B w (by unfold maxLen; omega)
  have hq : (s.data.toList.drop k).take 4 = le4 (crcL B.data.toList).toNat := hq0
  clear hq0
  have hc32 := (crcL B.data.toList).isLt
  generalize (crcL B.data.toList).toNat = c at *
  have HBAD := Lib.hid fun h => hbad c h rfl
  have HNOT := Lib.hid fun h => hnot c h rfl
  have HYES := Lib.hid fun h => hyes c h rfl
  clear hbad hnot hyes
  generalize recErr (rcOf (B[0].toNat : Int) q t T1 T2 T3) = er at *
  have HM := Lib.hid hm; clear hm
  unfold maxLen at hs
  have i0 : (0 : Int) ≤ (k : Int) := by omega
  have i1 : (k : Int) < (s.size : Int) := by omega
  have i2 : (k : Int) + 1 < (s.size : Int) := by omega
  have i3 : (k : Int) + 2 < (s.size : Int) := by omega
  have i4 : (k : Int) + 3 < (s.size : Int) := by omega
  have w1 : IntKind.i64.wrap ((k : Int) + 1) = (k : Int) + 1 := IntWalk.i64_in _ (by omega)
  have v1 : (0 : Int) ≤ (k : Int) + 1 := by omega
  have u1 : ((k : Int) + 1).toNat = k + 1 := by omega
  have w2 : IntKind.i64.wrap ((k : Int) + 2) = (k : Int) + 2 := IntWalk.i64_in _ (by omega)
  have v2 : (0 : Int) ≤ (k : Int) + 2 := by omega
  have u2 : ((k : Int) + 2).toNat = k + 2 := by omega
  have w3 : IntKind.i64.wrap ((k : Int) + 3) = (k : Int) + 3 := IntWalk.i64_in _ (by omega)
  have v3 : (0 : Int) ≤ (k : Int) + 3 := by omega
  have u3 : ((k : Int) + 3).toNat = k + 3 := by omega
  have hN := num4_bits s[k] s[k + 1] s[k + 2] s[k + 3]
  obtain ⟨N, hNe⟩ : ∃ N, num4 s[k] s[k + 1] s[k + 2] s[k + 3] = N := ⟨_, rfl⟩
  rw [hNe] at hN
  have HN := Lib.hid hN; clear hN
  have hcase : N = c ↔ (s.data.toList.drop k).take 4 = le4 c := by rw [take4 s k hlen, num4_le4 _ _ _ _ _ hc32, hNe]
  clear hNe
  have hNc := hcase.2 hq
  subst hNc
  have HQ := Lib.hid hq
  clear hcase hq
  go_enter Tryz.func172, Tryz.ntmps172
  go_wp2_with (go_at_call 215; refine (HR.out _).mono ?_; rintro e w' ⟨rfl, rfl⟩)
  go_quiet (fail)
  rw [HN.out]
  clear HN
  go_wp2_with (go_at_call 181; refine (HS.out _).mono ?_; rintro e w' ⟨rfl, rfl⟩)
  generalize B.extract 1 B.size = S0 at *
  refine (K1.out _ _ (by go_simp) (by go_simp) (by go_simp) (by go_simp)).mono ?_
  rintro e w' ⟨rfl, rfl⟩
  go_wp2_with fail
  refine (K2.out _ _ (by go_simp) (by go_simp) (by go_simp) (by go_simp)).mono ?_
  rintro e w' ⟨rfl, rfl⟩
  go_wp2_with fail
  refine (K3.out _ _ (by go_simp) (by go_simp) (by go_simp) (by go_simp)).mono ?_
  rintro e w' ⟨rfl, rfl⟩
  go_wp2_with fail
  refine (K4.out _ _ (by go_simp) (by go_simp) (by go_simp) (by go_simp)).mono ?_
  rintro e w' ⟨rfl, rfl⟩
  go_wp2_with fail
  refine (K5.out _ _ (by go_simp) (by go_simp) (by go_simp) (by go_simp)).mono ?_
  rintro e w' ⟨rfl, rfl⟩
  go_wp2_with fail
  · refine (HC.out _ (HM.out.below ?_)).mono ?_
    · go_grown
      exact below_drewN (by go_grown) _
    rintro e w' ⟨rfl, hb'⟩
    have hcc := fun j => hb'.cell (p := ⟨w.heap.size, j, none⟩) (by go_size)
    have hcd := fun j => hb'.cell (p := ⟨w.heap.size + 1 + 1, j, none⟩) (by go_size)
    have hff := fun j => hb'.frozen (p := ⟨w.heap.size, j, none⟩) (by go_size)
    have hbb : Below w.heap.size w w' := by
      refine Below.trans ?_ (hb'.mono ?_)
      · go_grown
        exact below_drewN (by go_grown) _
      · go_size
    have HBB := Lib.hid hbb
    have hsz := hb'.size
    clear hb' hbb
    simp [go_sem] at hcc hcd
    obtain ⟨c0, c1, c2, c3, c4, c5⟩ := cells6 hcc
    obtain ⟨d0, d1, d2, d3, d4, d5⟩ := cells6 hcd
    clear hcc hcd
    go_wp2
    · have he := HNOT.out HQ.out (.inr (.inr (by simpa using (by assumption : ((er : Int) != 0) = true))))
      rw [he]
      refine bodyPost_ret (v := ErrV 7) (by simp [results, Tryz.results172, go_sem, c0, c1, c2, c3, c4, c5]; rfl) rfl ⟨rfl, ?_⟩
      have hbb := HBB.out
      go_grown
    · have he := HYES.out HQ.out (by assumption) (by assumption) (by simpa using (by assumption : ((er : Int) != 0) = false))
      rw [he]
      refine bodyPost_ret (by simp [results, Tryz.results172, go_sem, c0, c1, c2, c3, c4, c5]) rfl ⟨rfl, ?_⟩
      have hbb := HBB.out
      go_grown
    all_goals
      first
        | (have he := HNOT.out HQ.out (.inr (.inl (by assumption)))
           rw [he]
           go_returns
           exact ⟨errV_eq rfl 7, by go_grown; exact below_drewN (by go_grown) _⟩)
        | (have he := HNOT.out HQ.out (.inl (by simpa using (by assumption : ¬ b5 = true)))
           rw [he]
           go_returns
           exact ⟨errV_eq rfl 7, by go_grown; exact below_drewN (by go_grown) _⟩)
  all_goals
    first
      | (have he := HNOT.out HQ.out (.inr (.inl (by assumption)))
         rw [he]
         go_returns
         exact ⟨errV_eq rfl 7, by go_grown; exact below_drewN (by go_grown) _⟩)
      | (have he := HNOT.out HQ.out (.inl (by simpa using (by assumption : ¬ b5 = true)))
         rw [he]
         go_returns
         exact ⟨errV_eq rfl 7, by go_grown; exact below_drewN (by go_grown) _⟩)

set_option maxHeartbeats 6000000 in
set_option maxRecDepth 100000 in
theorem decode_wrong (s B : ByteArray) (k : Nat) (w : World) (hs : s.size ≤ maxLen) (hm : ML w) (hR : ∀ w, Calls Tryz.prog 215 #[.string s, .int .i64 1024] w fun e w' => e = .returned (.tuple #[.string B, .int .i64 k, .int .i64 0]) ∧ w = w')
    (hq0 : (s.data.toList.drop k).take 4 ≠ sum4 B.data.toList) (hbs2 : B.size ≤ 1024) (hbs3 : 0 < B.size) (hlen : k + 4 ≤ s.size) :
    Calls Tryz.prog 172 #[.string s] w fun e w' => e = .returned (decV (bodyV B k s.data.toList)) ∧ Below w.heap.size w w' := by
  have HR := Lib.hid hR; clear hR
  have hbe : B.toList.isEmpty = false := by
    rw [ByteArray.toList_eq]
    have : B.data.toList.length = B.size := by simp
    cases h : B.data.toList with
    | nil => rw [h] at this; simp at this; omega
    | cons => rfl
  have hw0 : wrap64 (B[0].toNat : Int) = (B[0].toNat : Int) := wrap64_small _ (by have := B[0].toNat_lt; omega)
  have hBl : B.data.toList = B[0] :: (B.extract 1 B.size).data.toList := by
    have h1 := List.drop_eq_getElem_cons (l := B.data.toList) (i := 0) (by simpa using hbs3)
    have h2 : (B.extract 1 B.size).data.toList = B.data.toList.drop 1 := by
      rw [ByteArray.data_extract, Array.toList_extract]
      simp
      exact List.take_of_length_le (by simp)
    rw [h2]
    exact h1
  have hz0 : (B.extract 1 B.size).size ≤ 1024 := by simp; omega
  have HBL := Lib.hid hBl
  clear hBl
  have hbad : ∀ c, (s.data.toList.drop k).take 4 ≠ le4 c → (crcL B.data.toList).toNat = c → decV (bodyV B k s.data.toList) = ErrV 7 := fun c h hc => by
    unfold bodyV sum4
    rw [hc, if_pos h]; rfl
  have hgood : ∀ c, (s.data.toList.drop k).take 4 = le4 c → (crcL B.data.toList).toNat = c → bodyV B k s.data.toList = bodyR B[0] (B.extract 1 B.size).data.toList (k + 4) := fun c h hc => by
    unfold bodyV sum4
    rw [hc, if_neg (by simpa using h)]
    show (match B.data.toList with | [] => _ | x :: rest => _) = _
    rw [HBL.out]
  obtain ⟨S1, S2, S3, S4, S5, b1, b2, b3, b4, b5, q, t, T1, T2, T3, hRd⟩ := read_all (B.extract 1 B.size)
  obtain ⟨hs1, hs2, hs3, hs4, ht1, ht2, ht3⟩ := hRd.sizes
  have K1 := Lib.hid fun g w h0 h1 f0 f1 => number_m g (B.extract 1 B.size) true w (by unfold maxLen; omega) h0 h1 f0 f1
  have K2 := Lib.hid fun g w h0 h1 f0 f1 => number_m g S1 b1 w (by unfold maxLen; omega) h0 h1 f0 f1
  have K3 := Lib.hid fun g w h0 h1 f0 f1 => text_m g S2 b2 w (by unfold maxLen; omega) h0 h1 f0 f1
  have K4 := Lib.hid fun g w h0 h1 f0 f1 => text_m g S3 b3 w (by unfold maxLen; omega) h0 h1 f0 f1
  have K5 := Lib.hid fun g w h0 h1 f0 f1 => text_m g S4 b4 w (by unfold maxLen; omega) h0 h1 f0 f1
  rw [hRd.c1, hRd.s1, hRd.q] at K1
  rw [hRd.c2, hRd.s2, hRd.t] at K2
  rw [hRd.c3, hRd.s3, hRd.t1] at K3
  rw [hRd.c4, hRd.s4, hRd.t2] at K4
  rw [hRd.c5, hRd.s5, hRd.t3] at K5
  have HC := Lib.hid fun W hm => check_any (B[0].toNat : Int) q t T1 T2 T3 W (by omega) (by omega) (by omega) hm
  unfold recA at HC
  have hnot : ∀ c, ((s.data.toList.drop k).take 4 = le4 c) → (crcL B.data.toList).toNat = c → (b5 = false ∨ S5.toList ≠ [] ∨ recErr (rcOf (B[0].toNat : Int) q t T1 T2 T3) ≠ 0) → decV (bodyV B k s.data.toList) = ErrV 7 := fun c h hc hn => by
    rw [hgood c h hc]
    unfold bodyR
    rw [hRd.fields, if_neg]
    · rfl
    · rintro ⟨h1, h2, h3⟩
      rcases hn with hn | hn | hn
      · rw [hn] at h1; cases h1
      · exact hn ((empty_iff S5).1 h2)
      · exact hn h3
  have hyes : ∀ c, ((s.data.toList.drop k).take 4 = le4 c) → (crcL B.data.toList).toNat = c → b5 = true → S5.toList = [] → recErr (rcOf (B[0].toNat : Int) q t T1 T2 T3) = 0 →
      decV (bodyV B k s.data.toList) = .tuple #[.agg #[.int .i64 (B[0].toNat : Int), .int .i64 q, .int .i64 t, .string T1, .string T2, .string T3], .int .i64 ((k : Int) + 4), .int .i64 0] := fun c h hc h1 h2 h3 => by
    rw [hgood c h hc]
    unfold bodyR
    rw [hRd.fields, if_pos ⟨h1, (empty_iff S5).2 h2, h3⟩]
    rfl
  clear hgood hRd hs1 hs2 hs3 hs4
  have HS := Lib.hid fun w => sum_any B w (by unfold maxLen; omega)
  have hq : (s.data.toList.drop k).take 4 ≠ le4 (crcL B.data.toList).toNat := hq0
  clear hq0
  have hc32 := (crcL B.data.toList).isLt
  generalize (crcL B.data.toList).toNat = c at *
  have HBAD := Lib.hid fun h => hbad c h rfl
  have HNOT := Lib.hid fun h => hnot c h rfl
  have HYES := Lib.hid fun h => hyes c h rfl
  clear hbad hnot hyes
  generalize recErr (rcOf (B[0].toNat : Int) q t T1 T2 T3) = er at *
  have HM := Lib.hid hm; clear hm
  unfold maxLen at hs
  have i0 : (0 : Int) ≤ (k : Int) := by omega
  have i1 : (k : Int) < (s.size : Int) := by omega
  have i2 : (k : Int) + 1 < (s.size : Int) := by omega
  have i3 : (k : Int) + 2 < (s.size : Int) := by omega
  have i4 : (k : Int) + 3 < (s.size : Int) := by omega
  have w1 : IntKind.i64.wrap ((k : Int) + 1) = (k : Int) + 1 := IntWalk.i64_in _ (by omega)
  have v1 : (0 : Int) ≤ (k : Int) + 1 := by omega
  have u1 : ((k : Int) + 1).toNat = k + 1 := by omega
  have w2 : IntKind.i64.wrap ((k : Int) + 2) = (k : Int) + 2 := IntWalk.i64_in _ (by omega)
  have v2 : (0 : Int) ≤ (k : Int) + 2 := by omega
  have u2 : ((k : Int) + 2).toNat = k + 2 := by omega
  have w3 : IntKind.i64.wrap ((k : Int) + 3) = (k : Int) + 3 := IntWalk.i64_in _ (by omega)
  have v3 : (0 : Int) ≤ (k : Int) + 3 := by omega
  have u3 : ((k : Int) + 3).toNat = k + 3 := by omega
  have hN := num4_bits s[k] s[k + 1] s[k + 2] s[k + 3]
  obtain ⟨N, hNe⟩ : ∃ N, num4 s[k] s[k + 1] s[k + 2] s[k + 3] = N := ⟨_, rfl⟩
  rw [hNe] at hN
  have HN := Lib.hid hN; clear hN
  have hcase : N = c ↔ (s.data.toList.drop k).take 4 = le4 c := by rw [take4 s k hlen, num4_le4 _ _ _ _ _ hc32, hNe]
  clear hNe
  have hd : ((N : Int) != (c : Int)) = true := by
    have : ¬ N = c := fun h => hq (hcase.1 h)
    simp; omega
  have HQ := Lib.hid hq
  clear hcase hq
  go_enter Tryz.func172, Tryz.ntmps172
  go_wp2_with (go_at_call 215; refine (HR.out _).mono ?_; rintro e w' ⟨rfl, rfl⟩)
  go_quiet (fail)
  rw [HN.out]
  clear HN
  go_wp2_with (go_at_call 181; refine (HS.out _).mono ?_; rintro e w' ⟨rfl, rfl⟩)
  have he : decV (bodyV B k s.data.toList) = ErrV 7 := HBAD.out HQ.out
  rw [he]
  go_returns
  exact ⟨errV_eq rfl 7, by go_grown; exact below_drewN (by go_grown) _⟩
end Go.Proofs.YtbgchhgdlceceaaGreatDoor.Rec
