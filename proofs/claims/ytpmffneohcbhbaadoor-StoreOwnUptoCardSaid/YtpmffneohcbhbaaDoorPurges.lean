/- The law StorePurges, walked: it returns true. -/
import Derived.Test.YtpmffneohcbhbaaDoorStoFill
import Derived.Test.YtpmffneohcbhbaaDoorSubjIs1
namespace Go.Proofs.YtpmffneohcbhbaaDoor.Sto
open Go.RowKit Heap
open Subj (Tok ML pieces takes StrsAt isB matchR)
open Rec (Rc recErr far)
open Idx (Ents ptrV)

theorem isB_eq {f s : List UInt8} (h1 : Subj.err true f = 0) (h2 : Subj.err false s = 0) : isB (matchR f s) = takes (pieces f) (pieces s) := by
  unfold isB matchR
  rw [if_neg (by simp [h1]), if_neg (by simp [h2])]
  simp

def purgeR (q : Int) (f : List UInt8) : Rc := ⟨3, q, 0, f, [], []⟩

theorem pk1 (q : Int) (f : List UInt8) : ¬ (purgeR q f).kind = 1 := by show ¬ (3 : Int) = 1; decide
theorem pk2 (q : Int) (f : List UInt8) : ¬ (purgeR q f).kind = 2 := by show ¬ (3 : Int) = 2; decide
theorem pk3 (q : Int) (f : List UInt8) : (purgeR q f).kind = 3 := rfl

/-- What stays, as the law says it. -/
def wantP (e : Nat) (q : Int) (f : List UInt8) (x : Rc) : Bool := decide (e ≠ 0) || decide (q ≤ x.seq) || !isB (matchR f x.subj)

theorem try_purge (L : List Rc) (last q : Int) (f : List UInt8) : tryD L last (purgeR q f) = recErr (purgeR q f) := by
  unfold tryD
  by_cases h : recErr (purgeR q f) = 0
  · rw [if_neg (by simp [h]), if_neg (pk1 q f), if_neg (pk2 q f), h]
  · rw [if_pos h]

theorem purge_err {q : Int} {f : List UInt8} (h : recErr (purgeR q f) = 0) : Subj.err true f = 0 := by
  unfold recErr at h
  split at h
  · omega
  · rw [if_neg (pk1 q f), if_pos (pk3 q f)] at h
    split at h
    · exact h
    · rename_i h1
      exact Classical.not_not.1 h1

theorem want_after {L : List Rc} {last q : Int} {f : List UInt8} (hg : ∀ r ∈ L, recErr r = 0 ∧ r.kind = 1) :
    (after L last (purgeR q f)).1 = L.filter (wantP (tryD L last (purgeR q f)) q f) ∧ (after L last (purgeR q f)).2 = last := by
  unfold after
  by_cases h : tryD L last (purgeR q f) = 0
  · rw [if_pos h, h]
    rw [try_purge] at h
    have he := purge_err h
    refine ⟨?_, rfl⟩
    show leftS L (purgeR q f) = _
    unfold leftS
    rw [if_neg (pk1 q f), if_neg (pk2 q f), if_pos (pk3 q f)]
    refine List.filter_congr fun x hx => ?_
    have hs := (good_parts (hg x hx).1 (hg x hx).2).1
    unfold wantP
    rw [isB_eq he hs]
    show (!(decide (x.seq < q) && takes (pieces f) (pieces x.subj))) = _
    by_cases h2 : q ≤ x.seq
    · rw [decide_eq_true h2, decide_eq_false (show ¬ x.seq < q by omega)]; simp
    · rw [decide_eq_false h2, decide_eq_true (show x.seq < q by omega)]; simp
  · rw [if_neg h]
    refine ⟨?_, rfl⟩
    symm
    rw [List.filter_eq_self]
    intro x _
    unfold wantP
    rw [decide_eq_true h]; rfl

theorem want_step {P : Rc → Bool} {r : Rc} {L : List Rc} {j : Nat} (hj : L[j]? = some r) (B : Bool) (hB : P r = B) : (L.take (j + 1)).filter P = (L.take j).filter P ++ if B then [r] else [] := by
  subst hB
  rw [List.take_add_one, hj, List.filter_append]
  congr 1
  simp only [Option.toList, List.filter_cons, List.filter_nil]

theorem first_purge : (runS [noteR 4, noteR 7, purgeR 7 [62]]).1.length = 1 := by decide

/-- Records laid side by side by a literal. -/
theorem recs_new (w : World) (l : List Rc) : RecsAt (w.alloc (.cells (recsV l).toArray 56)) (.slice (some ⟨w.heap.size, 0, none⟩) l.length l.length) l := by
  refine ⟨_, l.length, rfl, fun _ => ⟨w.heap.size, 0, rfl, fun i p hp => ?_⟩⟩
  have e : ∀ j, j < 6 → (w.alloc (.cells (recsV l).toArray 56)).cell? ⟨w.heap.size, 0 + i * 6 + j, none⟩ = (recC p)[j]? := fun j hj => by
    rw [cell_of_row _ w.heap.size (0 + i * 6 + j) _ _ _ (heap_alloc_new w _), List.getElem?_toArray, Nat.zero_add, recsV_at l i p hp j hj]
  exact ⟨e 0 (by omega), e 1 (by omega), e 2 (by omega), e 3 (by omega), e 4 (by omega), e 5 (by omega)⟩

theorem fits_note (q : Int) : Fits (noteR q) := ⟨by show 3 ≤ 1048576; decide, by show 0 ≤ 1048576; decide, by show 1 ≤ 1048576; decide⟩
theorem fits_purge (q : Int) {f : List UInt8} (h : f.length ≤ 1048576) : Fits (purgeR q f) := ⟨h, by show 0 ≤ 1048576; decide, by show 0 ≤ 1048576; decide⟩

theorem fld0 : ∀ (w : World) (a b c d : Int), (Instr.field 59 (.agg #[.int .i64 a, .int .i64 b, .int .i64 c, .int .i64 d]) 0).run Tryd.prog w = .ok (.int .i64 a) w := fun _ _ _ _ _ => by kernel_rfl
theorem fld3 : ∀ (w : World) (a b c d : Int), (Instr.field 59 (.agg #[.int .i64 a, .int .i64 b, .int .i64 c, .int .i64 d]) 3).run Tryd.prog w = .ok (.int .i64 d) w := fun _ _ _ _ _ => by kernel_rfl

/-- What has been gathered so far. -/
def OutR (w wr : World) (o : Value) (K : List Rc) : Prop := Row wr 56 6 o K.length (recsV K) ∧ ∀ k, own o k → w.heap.size ≤ k

theorem OutR.next {w wr w' : World} {o : Value} {K : List Rc} (h : OutR w wr o K) (hb : Below wr.heap.size wr w') : OutR w w' o K := ⟨h.1.kept fun k _ hk => hb.block k hk, h.2⟩

section
variable {w : World}

set_option maxHeartbeats 8000000 in
set_option maxRecDepth 100000 in
theorem storePurges_walk (hm : ML w) {v : Value} {l : List Rc} (hl : RecsAt w v l) (hf : ∀ r ∈ l, Fits r) (f : ByteArray) (hfz : f.size ≤ 1048576) (q : Int) (hq : -9223372036854775808 ≤ q ∧ q ≤ 9223372036854775807) :
    Calls Tryd.prog 5 #[v, .string f, .int .i64 q] w fun e w' => e = .returned (.bool true) ∧ Below w.heap.size w w' := by
  obtain ⟨n, hnL⟩ : ∃ n, l.length = n := ⟨_, rfl⟩
  have HN := Lib.hid hnL
  obtain ⟨ao, cap, rfl, ha⟩ := hl
  have HL := Lib.hid (show RecsAt w (.slice ao l.length cap) l from ⟨ao, cap, rfl, ha⟩); have HF := Lib.hid hf; have HML := Lib.hid hm
  rw [hnL] at HL ⊢
  clear ha hf hm hnL
  have hf0 := fld0
  have hf3 := fld3
  go_enter Tryd.func5, Tryd.ntmps5
  go_wp2_with fail
  refine (note_any 4).mono ?_
  rintro e w1 ⟨rfl, hb1⟩
  have HB1 := Lib.hid hb1
  clear hb1
  unfold recV
  go_wp2_with fail
  refine (note_any 7).mono ?_
  rintro e w2 ⟨rfl, hb2⟩
  have HB2 := Lib.hid (HB1.out.trans (hb2.mono HB1.out.size))
  clear hb2 HB1
  unfold recV
  go_wp2_with fail
  refine (filled_any (W := w) (w := w2.alloc (.cells (recsV [noteR 4, noteR 7, purgeR 7 [62]]).toArray 56)) (HB2.out.alloc HB2.out.size _) HML.out (recs_new w2 [noteR 4, noteR 7, purgeR 7 [62]]) (by decide) (fun r hr => by
    simp only [List.mem_cons, List.not_mem_nil, or_false] at hr
    rcases hr with rfl | rfl | rfl
    · exact fits_note 4
    · exact fits_note 7
    · exact fits_purge 7 (by decide))).mono ?_
  rintro e w3 ⟨D0, F0, rfl, hS0, hF0, hb3⟩
  have hsu := sums_any hS0
  unfold sumsV at hsu
  rw [first_purge] at hsu
  have HSU := Lib.hid hsu
  have HB3 := Lib.hid ((HB2.out.alloc HB2.out.size _).trans (hb3.mono (by have := HB2.out.size; simp; omega)))
  clear hsu hS0 hF0 hb3
  generalize (bytesR (runS [noteR 4, noteR 7, purgeR 7 [62]]).1 : Nat) = z1 at HSU
  generalize ((runS [noteR 4, noteR 7, purgeR 7 [62]]).1.head?.map (·.seq)).getD 0 = z2 at HSU
  generalize (runS [noteR 4, noteR 7, purgeR 7 [62]]).2 = z3 at HSU
  go_wp2_with fail
  refine HSU.out.mono ?_
  rintro e w4 ⟨rfl, hb4⟩
  have HB4 := Lib.hid (HB3.out.trans (hb4.mono HB3.out.size))
  clear hb4 HSU HB3
  by_cases h250 : 250 < n
  · have h250z : (250 : Int) < n := by omega
    go_wp2_with fail
    go_ret
    exact ⟨rfl, HB4.out⟩
  have h250z : ¬ (250 : Int) < n := by omega
  go_wp2_with fail
  have hfil := filled_any (W := w) HB4.out HML.out (by rw [← HN.out] at HL; exact HL.out.below HB4.out (Nat.le_refl _)) (by rw [HN.out]; omega) HF.out
  rw [HN.out] at hfil
  refine hfil.mono ?_
  clear hfil
  rintro e w5 ⟨D, F, rfl, hS5, hF5, hb5⟩
  rw [HN.out] at hS5
  obtain ⟨L, hL⟩ : ∃ L, (runS l).1 = L := ⟨_, rfl⟩
  obtain ⟨last, hlast⟩ : ∃ last, (runS l).2 = last := ⟨_, rfl⟩
  rw [hL, hlast] at hS5
  have HS5 := Lib.hid hS5
  have HB5 := Lib.hid (HB4.out.trans (hb5.mono HB4.out.size))
  have HAL := Lib.hid (all_any hS5)
  clear hS5 hF5 hb5 hL hlast
  go_wp2_with fail
  refine HAL.out.mono ?_
  rintro e w6 ⟨v6, rfl, hr6, hb6, ho6⟩
  have HR6 := Lib.hid (row_recs hr6); have HO6 := Lib.hid ho6
  have HB6 := Lib.hid (HB5.out.trans (hb6.mono HB5.out.size))
  have HS6 := Lib.hid (HS5.out.next hb6)
  have hlo6 : ∀ k, own v6 k → ¬ F k := fun k hk hf => by have := HS5.out.bF k hf; have := ho6 k hk; omega
  have HLO := Lib.hid hlo6
  have HSU := Lib.hid (sums_any HS6.out)
  clear hr6 hb6 ho6 HAL hlo6
  obtain ⟨I, hRI⟩ := HS6.out.right
  obtain ⟨hwa1, hwa2⟩ := want_after (last := last) (q := q) (f := f.data.toList) hRI.good
  have hm200 := hRI.few
  have HWA1 := Lib.hid hwa1; have HWA2 := Lib.hid hwa2; have HGOOD := Lib.hid hRI.good
  clear hwa1 hwa2 hRI
  unfold sumsV at HSU
  obtain ⟨m, hmL⟩ : ∃ m, L.length = m := ⟨_, rfl⟩
  rw [hmL] at HSU hm200
  have HM := Lib.hid hmL
  generalize (bytesR L : Nat) = z4 at HSU
  generalize (L.head?.map (·.seq)).getD 0 = z5 at HSU
  clear hmL
  go_wp2_with fail
  refine HSU.out.mono ?_
  rintro e w7 ⟨rfl, hb7⟩
  have HB7 := Lib.hid (HB6.out.trans (hb7.mono HB6.out.size))
  have HS7 := Lib.hid (HS6.out.next hb7)
  have HR7 := Lib.hid (HR6.out.below hb7 (Nat.le_refl _))
  have hrv : recV (purgeR q f.data.toList) = .agg #[.int .i64 3, .int .i64 q, .int .i64 0, .string f, .string ⟨#[]⟩, .string ⟨#[]⟩] := by
    show Value.agg #[.int .i64 3, .int .i64 q, .int .i64 0, .string ⟨f.data.toList.toArray⟩, .string ⟨#[]⟩, .string ⟨#[]⟩] = _
    rw [show (⟨f.data.toList.toArray⟩ : ByteArray) = f from by cases f; simp]
  have hap := apply_any HS7.out (by omega) HML.out (purgeR q f.data.toList) (fits_purge q (by rw [show f.data.toList.length = f.size by simp]; exact hfz))
  rw [hrv] at hap
  unfold ApplyPost at hap
  rw [HWA1.out, HWA2.out] at hap
  obtain ⟨E, hE⟩ : ∃ E, tryD L last (purgeR q f.data.toList) = E := ⟨_, rfl⟩
  rw [hE] at hap
  have HAP := Lib.hid hap; have HE := Lib.hid hE
  clear hb7 HSU hrv hap hE HWA1 HWA2
  go_wp2_with fail
  refine HAP.out.mono ?_
  rintro e w8 ⟨rfl, ⟨F8, hS8, hF8⟩, ht8⟩
  have HS8 := Lib.hid hS8
  have HR8 := Lib.hid (HR7.out.touch ht8 HLO.out)
  have HB8 := Lib.hid (HB7.out.trans (ht8.below HB7.out.size HS7.out.newF))
  clear hS8 hF8 ht8 HAP HR7
  obtain ⟨P, hP⟩ : ∃ P, wantP E q f.data.toList = P := ⟨_, rfl⟩
  rw [hP] at HS8
  have HP := Lib.hid hP
  clear hP
  obtain ⟨a6, c6, hv6, ha6⟩ := HR8.out
  rw [HM.out] at hv6
  subst hv6
  have HA6 := Lib.hid ha6
  clear ha6
  go_wp2_with fail
  obtain ⟨i0, hi, hz0, hz1, hz2⟩ := info_parts info_rec
  go_loopw [12, 41] (fun wv i wr => ∃ k : Nat, k ≤ m ∧ i = .int .i64 k ∧ Hid (OutR w8 wr wv ((L.take k).filter P)) ∧ Hid (Below w8.heap.size w8 wr)) (fun _ i _ => m - (intOf i).toNat)
  case atStart => exact ⟨0, Nat.zero_le _, rfl, Lib.hid ⟨Row.nil _ _ _, fun k hk => by simp [own, Value.ownBlock] at hk⟩, Lib.hid (Below.refl _ _)⟩
  case round =>
    obtain ⟨k, hk, rfl, HO, HW⟩ := hrel
    by_cases hlt : k < m
    · have hltz : (k : Int) < m := by omega
      obtain ⟨p, hp⟩ : ∃ p, L[k]? = some p := ⟨_, List.getElem?_eq_getElem (by rw [HM.out]; exact hlt)⟩
      obtain ⟨a', c', hv, ha⟩ := HR8.out.below HW.out (Nat.le_refl _)
      simp only [Value.slice.injEq] at hv
      obtain ⟨rfl, hv0, rfl⟩ := hv
      clear hv0
      obtain ⟨g, off, rfl, hcs⟩ := ha (fun e => by rw [e] at hp; simp at hp)
      obtain ⟨m0, m1, m2, m3, m4, m5⟩ := hcs k p hp
      obtain ⟨s, h, d, hpp⟩ := parts p
      rw [hpp.s1] at m3
      rw [hpp.h1] at m4
      rw [hpp.d1] at m5
      have hpg := good_parts (HGOOD.out p (List.mem_of_getElem? hp)).1 (HGOOD.out p (List.mem_of_getElem? hp)).2
      obtain ⟨wb, hwb⟩ : ∃ wb, wb = wr.alloc (.cells #[.int .i64 p.kind, .int .i64 p.seq, .int .i64 p.time, .string s, .string h, .string d] 56) := ⟨_, rfl⟩
      have hba : Below wr.heap.size wr wb := by rw [hwb]; exact (Below.refl _ _).alloc (Nat.le_refl _) _
      have hea : wb.heap[wr.heap.size]? = some (.cells #[.int .i64 p.kind, .int .i64 p.seq, .int .i64 p.time, .string s, .string h, .string d] 56 (0, 0)) := by rw [hwb]; exact heap_alloc_new wr _
      obtain ⟨bx, hbx⟩ : ∃ bx, wr.heap.size = bx := ⟨_, rfl⟩
      rw [hbx] at hea
      have hWb := HW.out.trans (hba.mono HW.out.size)
      have HIS := Lib.hid (Subj.is_match f s wb hfz (by rw [hpp.s3]; omega) (HML.out.below (HB8.out.trans (hWb.mono HB8.out.size))))
      obtain ⟨B, hB⟩ : ∃ B, P p = B := ⟨_, rfl⟩
      have hst := want_step hp B hB
      rw [← HP.out] at hB
      unfold wantP at hB
      rw [← hpp.s2] at hB
      obtain ⟨Z, hZ⟩ : ∃ Z, isB (matchR f.data.toList s.data.toList) = Z := ⟨_, rfl⟩
      rw [hZ] at HIS hB
      have hel : recsV [p] = [.int .i64 p.kind, .int .i64 p.seq, .int .i64 p.time, .string s, .string h, .string d] := by
        rw [← hpp.s1, ← hpp.h1, ← hpp.d1]; rfl
      obtain ⟨q0, q1, q2, q3, q4, q5⟩ := sixC hea
      have hbxl := heap_lt hea
      have HBB := Lib.hid hB; have HSTEP := Lib.hid hst; have HEL := Lib.hid hel; have HEA := Lib.hid hea; have HBX := Lib.hid hbx; have HWB := Lib.hid hWb; have HOB := Lib.hid (HO.out.next hba)
      obtain ⟨kd, hkd⟩ : ∃ kd, p.kind = kd := ⟨_, rfl⟩
      obtain ⟨sq, hsq⟩ : ∃ sq, p.seq = sq := ⟨_, rfl⟩
      obtain ⟨tm, htm⟩ : ∃ tm, p.time = tm := ⟨_, rfl⟩
      rw [hkd] at m0 q0
      rw [hsq] at m1 q1
      rw [htm] at m2 q2
      rw [hsq] at HBB
      rw [hkd, hsq, htm] at hwb HEA HEL
      clear ha hcs hp hpp hpg hba hea hbx hWb hB hst hel hZ HO HW hkd hsq htm
      go_upto_region 13 with fail
      rw [← hwb, HBX.out]
      clear hwb m0 m1 m2 m3 m4 m5
      go_cut [59] from 45 to 59 (fun s59 wx => s59 = .bool B ∧ Hid (Below wb.heap.size wb wx))
      case first =>
        by_cases hE0 : E = 0
        · subst hE0
          by_cases hqs : q ≤ sq
          · obtain rfl : B = true := by have := HBB.out; rw [decide_eq_true hqs] at this; simpa using this.symm
            clear HIS
            go_wp2_with fail
            go_meet
            exact ⟨by simp [hqs], Lib.hid (Below.refl _ _)⟩
          · obtain rfl : B = !Z := by have := HBB.out; rw [decide_eq_false hqs] at this; simpa using this.symm
            go_wp2_with fail
            refine HIS.out.mono ?_
            rintro e w9 ⟨rfl, hb9⟩
            have HB9 := Lib.hid hb9
            clear hb9 HIS
            go_wp2_with fail
            go_meet
            exact ⟨by simp, HB9⟩
        · obtain rfl : B = true := by have := HBB.out; rw [decide_eq_true hE0] at this; simpa using this.symm
          have he0 : ((E : Int) != 0) = true := by simpa using hE0
          clear HIS
          go_wp2_with fail
          go_meet
          exact ⟨by simp, Lib.hid (Below.refl _ _)⟩
      case rest =>
      obtain ⟨rfl, HBW⟩ := hcut
      have hea9 := (HBW.out.block bx hbxl).trans HEA.out
      obtain ⟨q0, q1, q2, q3, q4, q5⟩ := sixC hea9
      have hbxl9 := heap_lt hea9
      have HW9 := Lib.hid (HWB.out.trans (HBW.out.mono HWB.out.size))
      have HO9 := Lib.hid (HOB.out.next HBW.out)
      clear HIS hea9 HBW HOB
      cases B with
      | false =>
        go_wp2_with fail
        exact ⟨⟨k + 1, by omega, by go_num, Lib.hid (by rw [HSTEP.out]; simpa using HO9.out), HW9⟩, by simp [intOf]; omega⟩
      | true =>
        obtain ⟨K, hK⟩ : ∃ K, (L.take k).filter P = K := ⟨_, rfl⟩
        rw [hK] at HO9 HSTEP
        have hkl : K.length ≤ 200 := by rw [← hK]; exact Nat.le_trans (List.length_filter_le _ _) (by rw [List.length_take]; omega)
        have hr1 : Row (wc.alloc (.cells #[.int .i64 kd, .int .i64 sq, .int .i64 tm, .string s, .string h, .string d] 56)) 56 6 u12 K.length (recsV K) := HO9.out.1.kept fun k _ hk => Below.heap_alloc _ _ _ hk
        have HRW := Lib.hid hr1
        clear hr1 hK
        go_wp2_with (at_builtin; refine Heap.wpList_append_row _ rfl (.tmp 60) (.tmp 62) 52 rfl 56 i0 _ 6 72 Tryd.underlying52 hi hz0 hz1 hz2 rfl (by decide) _ K.length _ rfl HRW.out ⟨wc.heap.size, 0, none⟩ 1 1 [.int .i64 kd, .int .i64 sq, .int .i64 tm, .string s, .string h, .string d] rfl rfl (news_rec wc _ _ _ _ _ _ _) (by simp [Value.oneCell']) (by unfold maxLen; omega) (by omega) ?_)
        intro v2 w10 r10 t10 o10
        have HF2 := Lib.hid (show Below w8.heap.size w8 w10 ∧ OutR w8 w10 v2 (K ++ [p]) from by
          have hb3 : Below w8.heap.size w8 (wc.alloc (.cells #[.int .i64 kd, .int .i64 sq, .int .i64 tm, .string s, .string h, .string d] 56)) := HW9.out.alloc HW9.out.size _
          refine ⟨hb3.trans (t10.below hb3.size fun k hk => HO9.out.2 k hk), ?_, fun k hk => ?_⟩
          · rw [List.length_append, recsV_append, HEL.out]; exact r10
          · rcases o10 k hk with h | h
            · exact HO9.out.2 k h
            · have h9 := HW9.out.size; omega)
        clear r10 t10 o10 HRW HO9 HW9 q0 q1 q2 q3 q4 q5
        go_wp2_with fail
        exact ⟨⟨k + 1, by omega, by go_num, Lib.hid (by rw [HSTEP.out]; exact HF2.out.2), Lib.hid HF2.out.1⟩, by simp [intOf]; omega⟩
    · have hltz : ¬ (k : Int) < m := by omega
      obtain rfl : k = m := by omega
      have HSr := Lib.hid (HS8.out.next HW.out)
      have HALL := Lib.hid (all_any HSr.out)
      have hK : (L.take k).filter P = L.filter P := by rw [List.take_of_length_le (by rw [HM.out]; exact Nat.le_refl _)]
      have HKK := Lib.hid hK
      have hkl : (L.filter P).length ≤ 200 := Nat.le_trans (List.length_filter_le _ _) (by rw [HM.out]; exact hm200)
      have HBr := Lib.hid (HB8.out.trans (HW.out.mono HB8.out.size))
      clear hK
      go_wp2_with fail
      refine HALL.out.mono ?_
      rintro e w9 ⟨v9, rfl, hr9, hb9, ho9⟩
      have HS9 := Lib.hid (HSr.out.next hb9)
      have heq := equal_recs (row_recs hr9) (by
        have h5 := (HO.out.next hb9).1
        rw [HKK.out] at h5
        exact row_recs h5) (by omega)
      have HEQ := Lib.hid heq
      have HB9 := Lib.hid (HBr.out.trans (hb9.mono HBr.out.size))
      clear hr9 hb9 ho9 heq HALL
      go_wp2_with fail
      refine HEQ.out.mono ?_
      rintro e w10 ⟨rfl, qq, rfl⟩
      have hbq : Below w9.heap.size w9 (w9.drewN qq) := below_drewN (Below.refl _ _) qq
      have hsu := sums_any (HS9.out.next hbq)
      unfold sumsV at hsu
      have HSU := Lib.hid hsu
      have HBq := Lib.hid (HB9.out.trans (hbq.mono HB9.out.size))
      clear hbq hsu HEQ
      obtain ⟨LL, hLL⟩ : ∃ LL, L.filter P = LL := ⟨_, rfl⟩
      rw [hLL] at HSU
      generalize (bytesR LL : Nat) = y1 at HSU
      generalize (LL.head?.map (·.seq)).getD 0 = y2 at HSU
      generalize LL.length = y3 at HSU
      go_wp2_with fail
      refine HSU.out.mono ?_
      rintro e w11 ⟨rfl, hb11⟩
      have HFI := Lib.hid (HBq.out.trans (hb11.mono HBq.out.size))
      clear hb11 HSU
      go_wp2_with fail
      go_ret
      exact ⟨by simp, HFI.out⟩
end
end Go.Proofs.YtpmffneohcbhbaaDoor.Sto
