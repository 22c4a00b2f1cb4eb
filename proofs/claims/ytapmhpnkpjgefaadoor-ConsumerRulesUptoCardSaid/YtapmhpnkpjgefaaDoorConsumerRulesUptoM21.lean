/- Parts of the proof, joined: (*Store).Apply, walked. -/
import Derived.Test.YtapmhpnkpjgefaaDoorConsumerRulesUptoM20
namespace Go.Proofs.YtapmhpnkpjgefaaDoor.Sto
open Go.RowKit Heap
open Subj (Tok ML pieces takes StrsAt)
open Rec (Rc recErr far)
open Idx (Ents ptrV)
open Shf (XAt NextX SortedE putL)

theorem right_append {L : List Rc} {last : Int} {I I' : Ents} {r : Rc} (h : Right L last I) (he : recErr r = 0) (hk : r.kind = 1) (hq : last < r.seq) (hl : L.length ≠ 200) (hs : SortedE I') (hc : Counts I' (L ++ [r])) : Right (L ++ [r]) r.seq I' := by
  have hz := Rec.recErr_sizes he
  refine ⟨?_, fun x hx => ?_, fun x hx => ?_, ?_, ⟨by omega, hz.2.2.2.1⟩, hs, hc⟩
  · rw [List.pairwise_append]
    refine ⟨h.rise, List.pairwise_singleton _ _, fun x hx y hy => ?_⟩
    simp at hy
    subst hy
    have := h.top x hx; omega
  · rcases List.mem_append.1 hx with hx | hx
    · have := h.top x hx; omega
    · simp at hx; subst hx; exact Int.le_refl _
  · rcases List.mem_append.1 hx with hx | hx
    · exact h.good x hx
    · simp at hx; subst hx; exact ⟨he, hk⟩
  · have := h.few
    rw [List.length_append, List.length_singleton]; omega

theorem right_sub {L L' : List Rc} {last : Int} {I I' : Ents} (h : Right L last I) (hsub : L'.Sublist L) (hs : SortedE I') (hc : Counts I' L') : Right L' last I' :=
  ⟨h.rise.sublist hsub, fun x hx => h.top x (hsub.subset hx), fun x hx => h.good x (hsub.subset hx), Nat.le_trans hsub.length_le h.few, h.range, hs, hc⟩

theorem right_last {L : List Rc} {last q : Int} {I : Ents} (h : Right L last I) (hq : 0 ≤ q ∧ q ≤ far) : Right L (max last q) I :=
  ⟨h.rise, fun x hx => by have := h.top x hx; omega, h.good, h.few, by have := h.range; omega, h.sorted, h.count⟩

theorem erase_seq {L : List Rc} {i : Nat} {p : Rc} {q : Int} (h : L.Pairwise fun a b => a.seq < b.seq) (hp : L[i]? = some p) (hq : p.seq = q) : L.filter (fun x => x.seq != q) = L.eraseIdx i := by
  obtain ⟨hil, e⟩ := List.getElem?_eq_some_iff.1 hp
  have hL : L = L.take i ++ p :: L.drop (i + 1) := by rw [← e, ← List.drop_eq_getElem_cons hil, List.take_append_drop]
  rw [List.eraseIdx_eq_take_drop_succ]
  conv => lhs; rw [hL]
  rw [hL, List.pairwise_append, List.pairwise_cons] at h
  rw [List.filter_append, List.filter_cons_of_neg (by simp [hq])]
  congr 1
  · rw [List.filter_eq_self]
    intro x hx
    have := h.2.2 x hx p (by simp)
    simp; omega
  · rw [List.filter_eq_self]
    intro x hx
    have := h.2.1.1 x hx
    simp; omega

theorem try_zero {L : List Rc} {last : Int} {r : Rc} (h : tryD L last r = 0) : recErr r = 0 ∧ (r.kind = 1 → last < r.seq ∧ L.length ≠ 200 ∧ (cntR L r.subj ≠ 0 ∨ dist L ≠ 100)) ∧ (r.kind = 2 → hasSeq L r.seq = true) := by
  have he : recErr r = 0 := by
    unfold tryD at h
    split at h
    · exact h
    · rename_i h1; simpa using h1
  unfold tryD at h
  rw [if_neg (by rw [he]; simp)] at h
  refine ⟨he, fun hk => ?_, fun hk => ?_⟩
  · rw [if_pos hk] at h
    split at h
    · omega
    · split at h
      · omega
      · rename_i h1 h2
        refine ⟨by omega, fun e => h2 (.inl e), ?_⟩
        by_cases hc : cntR L r.subj = 0
        · exact .inr fun e => h2 (.inr ⟨hc, e⟩)
        · exact .inl hc
  · rw [if_neg (by omega), if_pos hk] at h
    split at h
    · assumption
    · omega

section
variable {W w : World} {F : Nat → Prop} {D B : Nat} {L : List Rc} {last : Int}

/-- What Apply leaves. -/
def ApplyPost (W w : World) (F : Nat → Prop) (D B : Nat) (L : List Rc) (last : Int) (r : Rc) (e : Ending) (w' : World) : Prop :=
  e = .returned (.int .i64 (tryD L last r : Nat)) ∧ NextSt W F D (B + 16) w (after L last r).1 (after L last r).2 w'

set_option maxHeartbeats 8000000 in
set_option maxRecDepth 100000 in
theorem apply_any (hA : StoreAt W F D B L last w) (hB : B ≤ 70000) (hm : ML W) (r : Rc) (hf : Fits r) :
    Calls Tryd.prog 12 #[.pointer (some ⟨D, 0, none⟩), recV r] w (ApplyPost W w F D B L last r) := by
  obtain ⟨M, x, N, I, v, h, hR, hN, hMF⟩ := hA.ex
  obtain ⟨s, hd, d, hp⟩ := parts r
  have hrv : recV r = .agg #[.int .i64 r.kind, .int .i64 r.seq, .int .i64 r.time, .string s, .string hd, .string d] := by unfold recV; rw [hp.s1, hp.h1, hp.d1]
  obtain ⟨T, hT⟩ : ∃ T, tryD L last r = T := ⟨_, rfl⟩
  unfold ApplyPost
  rw [hT]
  obtain ⟨w1, hw1⟩ : ∃ w1, w1 = w.alloc (.cells #[.int .i64 r.kind, .int .i64 r.seq, .int .i64 r.time, .string s, .string hd, .string d] 42) := ⟨_, rfl⟩
  have hb1 : Below w.heap.size w w1 := by rw [hw1]; exact (Below.refl _ _).alloc (Nat.le_refl _) _
  have hea : w1.heap[w.heap.size]? = some (.cells #[.int .i64 r.kind, .int .i64 r.seq, .int .i64 r.time, .string s, .string hd, .string d] 42 (0, 0)) := by rw [hw1]; exact heap_alloc_new w _
  obtain ⟨bx, hbx⟩ : ∃ bx, w.heap.size = bx := ⟨_, rfl⟩
  rw [hbx] at hea
  have hS1 := h.next hb1
  have htr := try_rec hS1 hR (by omega) hm r hf
  rw [tryS_D hR.sorted hR.count, hT, hrv] at htr
  obtain ⟨q0, q1, q2, q3, q4, q5⟩ := sixC hea
  have hbxl := heap_lt hea
  have hDw := h.lt
  have HTR := Lib.hid htr; have HS1 := Lib.hid hS1; have HB1 := Lib.hid hb1; have HEA := Lib.hid hea; have HBX := Lib.hid hbx; have HP := Lib.hid hp; have HR := Lib.hid hR; have HML := Lib.hid hm; have HA := Lib.hid hA; have HMF := Lib.hid hMF; have HF := Lib.hid hf; have HRV := Lib.hid hrv
  have HOW := Lib.hid (show ∀ k, M k ∨ own v k → k < bx from fun k hk => by rw [← hbx]; exact hk.elim (fun h1 => h.idx.bM h1) fun h1 => h.row.lt k h1)
  rw [hrv]
  by_cases hT0 : T = 0
  · subst hT0
    have haf : after L last r = (leftS L r, lastS last r) := by unfold after; rw [if_pos hT]
    rw [haf]
    obtain ⟨L2, hL2⟩ : ∃ L2, leftS L r = L2 := ⟨_, rfl⟩
    obtain ⟨l2, hl2⟩ : ∃ l2, lastS last r = l2 := ⟨_, rfl⟩
    rw [hL2, hl2]
    have HL2 := Lib.hid hL2; have Hl2 := Lib.hid hl2
    have HT := Lib.hid hT
    clear hL2 hl2
    clear hA h htr hS1 hb1 hea hbx hp hf hR hm hMF hrv hT haf
    obtain ⟨her, hk1, hk2⟩ := try_zero HT.out
    have hsz := Rec.recErr_sizes her
    have HER := Lib.hid her; have HK1 := Lib.hid hk1; have HK2 := Lib.hid hk2; have HSZ := Lib.hid hsz
    have hfar : far = 1099511627776 := rfl
    have hqr : 1 ≤ r.seq ∧ r.seq ≤ 1099511627776 := ⟨hsz.2.2.1, hsz.2.2.2.1⟩
    have hkr : 1 ≤ r.kind ∧ r.kind ≤ 4 := ⟨hsz.1, hsz.2.1⟩
    clear her hk1 hk2 hsz
    go_enter Tryd.func12, Tryd.ntmps12
    go_upto_region 1 with fail
    rw [← hw1, HBX.out]
    clear hw1
    go_wp2_with fail
    refine HTR.out.mono ?_
    rintro e w2 ⟨rfl, hb2⟩
    have hS2 := HS1.out.next hb2
    have hea2 := (hb2.block bx hbxl).trans HEA.out
    have HB2 := Lib.hid (HB1.out.trans (hb2.mono HB1.out.size))
    have HS2 := Lib.hid hS2
    have HEA2 := Lib.hid hea2
    have hbxl2 := heap_lt hea2
    have HBOX := Lib.hid (show ∀ (wx : World) (Mx : Nat → Prop) (vx : Value), Step w2 wx M Mx v vx D → wx.heap[bx]? = some (.cells #[.int .i64 r.kind, .int .i64 r.seq, .int .i64 r.time, .string s, .string hd, .string d] 42 (0, 0)) from fun wx Mx vx hst => (hst.touch.block bx hbxl2 (by
      rintro (hh | hh | hh)
      · have := HOW.out bx (.inl hh); omega
      · have := HOW.out bx (.inr hh); omega
      · have := HBX.out; omega)).trans HEA2.out)
    obtain ⟨q0, q1, q2, q3, q4, q5⟩ := sixC hea2
    obtain ⟨c0, c1, c2, c3, cf⟩ := fourS hS2.cell
    have hlt := hS2.lt
    clear hb2 hS2 hea2 HTR
    by_cases e1 : r.kind = 1
    · obtain rfl : L2 = L ++ [r] := by rw [← HL2.out]; unfold leftS; rw [if_pos e1]
      obtain rfl : l2 = r.seq := by rw [← Hl2.out]; unfold lastS; rw [if_pos e1]
      obtain ⟨hq1, hq2, hq3⟩ := HK1.out e1
      obtain ⟨he, hls1, hls2⟩ := good_parts HER.out e1
      have hcm := count_more HS2.out (by omega) HML.out s (by rw [HP.out.s3]; omega) (by rw [HP.out.s2]; exact he) HR.out.count (by have := HR.out.few; omega)
      rw [HP.out.s2] at hcm
      have hca := counts_add HS2.out.idx.sorted HR.out.count r (hq3.imp id fun h => by rw [counts_dist HR.out.sorted HR.out.count]; exact h)
      obtain ⟨I', hI'⟩ : ∃ I', (putL 0 I r.subj ((cntR L r.subj : Int) + 1)).1 = I' := ⟨_, rfl⟩
      rw [hI'] at hcm hca
      have hsr : sizeR r = s.size + hd.size + d.size := by unfold sizeR; rw [HP.out.s3, HP.out.h3, HP.out.d3]
      have hsz : sizeR r ≤ 400 := by unfold sizeR; omega
      have hrs := fun w1 => size_rec r.kind r.seq r.time s hd d w1 (by rw [← hsr]; omega)
      rw [← hsr, e1] at hrs
      have hby := bytes_le HR.out.good
      have hfew := HR.out.few
      have HCM := Lib.hid hcm; have HCA := Lib.hid hca; have HQ1 := Lib.hid hq1; have HQ2 := Lib.hid hq2; have HRS := Lib.hid hrs; have HE1 := Lib.hid e1
      obtain ⟨sz, hszv⟩ : ∃ sz, sizeR r = sz := ⟨_, rfl⟩
      obtain ⟨bt, hbt⟩ : ∃ bt : Nat, bytesR L = bt := ⟨_, rfl⟩
      have HSZV := Lib.hid hszv; have HBT := Lib.hid hbt
      rw [hszv] at HRS hsz
      rw [hbt] at HCM hby c2
      have hbtl : bt ≤ 100000 := by omega
      have hel : recsV [r] = [.int .i64 r.kind, .int .i64 r.seq, .int .i64 r.time, .string s, .string hd, .string d] := by
        rw [← HP.out.s1, ← HP.out.h1, ← HP.out.d1]; rfl
      rw [e1] at hel
      have HEL := Lib.hid hel
      rw [e1] at q0
      obtain ⟨i0, hi, hz0, hz1, hz2⟩ := info_parts info_rec
      clear hcm hca hq1 hq2 hq3 hrs e1 he hsr hI' hszv hbt hel hby
      go_wp2_with fail
      refine HCM.out.mono ?_
      rintro e w3 ⟨rfl, ht3⟩
      obtain ⟨M3, hS3, hst3⟩ := ht3.step
      have HS3 := Lib.hid hS3; have HST3 := Lib.hid hst3
      have hea3 := HBOX.out _ _ _ hst3
      rw [HE1.out] at hea3
      obtain ⟨q0, q1, q2, q3, q4, q5⟩ := sixC hea3
      obtain ⟨c0, c1, c2, c3, cf⟩ := fourS hS3.cell
      have hlt := hS3.lt
      have hbxl3 := heap_lt hea3
      have hrow3 := hS3.row
      obtain ⟨n, hnL⟩ : ∃ n, L.length = n := ⟨_, rfl⟩
      rw [hnL] at hrow3 hfew
      have HNL := Lib.hid hnL
      have HRW := Lib.hid hrow3
      have HEA3 := Lib.hid hea3
      clear hea3 hrow3 hnL hS3 hst3 ht3 HCM
      go_upto_region 7 with fail
      go_cut [] from 22 to 31 (fun wx => Hid (∃ v2, SAt W M3 x (N + 8) I' D v2 (L ++ [r]) (bt : Int) last wx ∧ Step w3 wx M3 M3 v v2 D))
      case first =>
        go_region_law ((refine step_append_row _ (by rfl) (.tmp 26) (.tmp 28) 25 (by rfl) 42 i0 _ 6 72 Tryd.underlying25 hi hz0 hz1 hz2 (by rfl) (by decide) _ n _ (by rfl) (HRW.out.kept (fun k _ hk => Below.heap_alloc w3.drew _ _ hk)) ⟨w3.heap.size, 0, none⟩ 1 1 [.int .i64 1, .int .i64 r.seq, .int .i64 r.time, .string s, .string hd, .string d] (by rfl) (by rfl) (news_rec w3.drew _ _ _ _ _ _ _) (by simp [Value.oneCell']) (by unfold maxLen; omega) (by omega) ?_; intro v2 w5 r5 t5 o5; obtain ⟨a2, n2, rfl⟩ := r5.slice; have hD5 := ((t5.block D (by show D < (w3.drew.alloc _).heap.size; exact Nat.lt_of_lt_of_le HS3.out.lt (by simp)) HS3.out.ne).trans (Below.heap_alloc w3.drew _ _ HS3.out.lt)).trans HS3.out.cell; obtain ⟨y0, y1, y2, y3, yf⟩ := fourS hD5; have hlt5 := heap_lt hD5; have R5 := Lib.hid r5; have T5 := Lib.hid t5; have O5 := Lib.hid o5; clear r5 t5 o5 hD5))
        all_goals
          go_wp2_with fail
          go_meet
          have hbn : Below w3.heap.size w3 (w3.drew.alloc (.cells #[.int .i64 1, .int .i64 r.seq, .int .i64 r.time, .string s, .string hd, .string d] 42)) := (Below.refl _ _).drew.alloc (Nat.le_refl _) _
          have htt : Heap.Touch (fun k => M3 k ∨ own v k ∨ k = D) w3 _ := (Heap.Touch.ofBelow hbn).trans (T5.out.mono fun _ _ e => .inr (.inl e)) fun _ _ hf => hf
          exact Lib.hid ⟨_, (HS3.out.next hbn).setList T5.out (L' := L ++ [r]) (by rw [List.length_append, List.length_singleton, HNL.out, recsV_append, HEL.out]; exact R5.out) (fun k hk => (O5.out k hk).imp id fun h => by simpa using h), ⟨fun k hk => (by
            rcases hk with hk | hk
            · exact .inl (.inl hk)
            · exact (O5.out k hk).imp .inr fun h => Nat.le_trans hbn.size (by simpa using h)), htt.setCell (p := ⟨D, 0, none⟩) (.inl (.inr (.inr rfl))) _⟩⟩
      case rest =>
      obtain ⟨v2, hS6, hst6⟩ := hcut.out
      have hst36 := HST3.out.trans hst6 (Nat.lt_of_lt_of_le hDw HB2.out.size)
      have hea6 := HBOX.out _ _ _ hst36
      rw [HE1.out] at hea6
      obtain ⟨q0, q1, q2, q3, q4, q5⟩ := sixC hea6
      obtain ⟨c0, c1, c2, c3, cf⟩ := fourS hS6.cell
      have hlt := hS6.lt
      have hbxl6 := heap_lt hea6
      have HS6 := Lib.hid hS6; have HST6 := Lib.hid hst36
      have hwr : IntKind.i64.wrap ((bt : Int) + (sz : Int)) = (bt : Int) + (sz : Int) := IntWalk.i64_in _ (by omega)
      clear hcut hS6 hst6 hst36 hea6
      go_upto_region 8 with fail
      go_cut [] from 32 to 40 (fun wx => Hid (SAt W M3 x (N + 8) I' D v2 (L ++ [r]) ((bt : Int) + (sz : Int)) last wx ∧ Step w2 wx M M3 v v2 D))
      case first =>
        go_region_law (first
          | (go_simp; go_at_call 31; ((with_reducible refine (HRS.out _).mono ?_); rintro e w7 ⟨rfl, hb7⟩; have hS7 := (HS6.out.next (Below.refl _ _).drew).next hb7; obtain ⟨k0, k1, k2, k3, kf⟩ := fourS hS7.cell; have hlt7 := hS7.lt; have HS7 := Lib.hid hS7; have HST7 := Lib.hid (HST6.out.trans (Step.below (M := M3) (v := v2) ((Below.refl _ _).drew.trans hb7)) (Nat.lt_of_lt_of_le hDw HB2.out.size)); clear hS7 hb7)))
        all_goals
          go_wp2_with fail
          go_meet
          exact Lib.hid ⟨HS7.out.setBytes _, HST7.out.trans ⟨fun _ h => .inl h, (touch_D _ D 2 _).mono fun _ _ e => .inr (.inr e)⟩ (Nat.lt_of_lt_of_le hDw HB2.out.size)⟩
      case rest =>
      obtain ⟨hS8, hst8⟩ := hcut.out
      have hea8 := HBOX.out _ _ _ hst8
      rw [HE1.out] at hea8
      obtain ⟨q0, q1, q2, q3, q4, q5⟩ := sixC hea8
      obtain ⟨c0, c1, c2, c3, cf⟩ := fourS hS8.cell
      have hlt := hS8.lt
      have hbxl8 := heap_lt hea8
      have HFIN := Lib.hid (show NextSt W F D (B + 16) w (L ++ [r]) r.seq _ from by
        have h9 := hS8.setLast r.seq
        rw [show ((bt : Int) + (sz : Int)) = ((bytesR (L ++ [r]) : Nat) : Int) by rw [bytes_append, HBT.out, HSZV.out]; omega] at h9
        exact HA.out.step (B' := B + 16) HMF.out h9 (right_append HR.out HER.out HE1.out HQ1.out HQ2.out hS8.idx.sorted HCA.out) (by rw [List.length_append, List.length_singleton]; omega)
          (((Step.below HB2.out).trans hst8 hDw).trans ⟨fun _ h => .inl h, (touch_D _ D 3 (.int .i64 r.seq)).mono fun _ _ e => .inr (.inr e)⟩ hDw))
      clear hcut hS8 hst8 hea8
      go_wp2_with fail
      go_ret
      exact ⟨rfl, HFIN.out⟩
    · by_cases e2 : r.kind = 2
      · obtain rfl : L2 = L.filter fun x => x.seq != r.seq := by rw [← HL2.out]; unfold leftS; rw [if_neg e1, if_pos e2]
        obtain rfl : last = l2 := by rw [← Hl2.out]; unfold lastS; rw [if_neg e1, if_neg (by omega)]
        have HPL := Lib.hid (place_rec HS2.out (by have := HR.out.few; omega) r.seq)
        have HHS := Lib.hid (HK2.out e2)
        rw [e2] at q0
        clear e1 e2
        go_wp2_with fail
        refine HPL.out.mono ?_
        rintro e w3 ⟨i, fd, rfl, hfo, hb3⟩
        obtain ⟨_, _, hfd, hyes⟩ := hfo.in HR.out.rise HR.out.seqs (by omega)
        obtain ⟨p, hp, hpq⟩ := hyes (by rw [hfd]; exact HHS.out)
        have hpm := List.mem_of_getElem? hp
        have hby := bytes_le HR.out.good
        have hbd := bytes_del hp
        have hfew := HR.out.few
        have HG := Lib.hid (gone_rec (HS2.out.next hb3) (by omega) HML.out HR.out.count (by omega) hp (HR.out.good p hpm) ⟨by omega, by omega⟩)
        have HER2 := Lib.hid (erase_seq HR.out.rise hp hpq)
        have HBD := Lib.hid hbd
        have HIL := Lib.hid (List.getElem?_eq_some_iff.1 hp).1
        have HB3 := Lib.hid hb3
        clear hfo hfd hyes hp hpq hpm hby hbd HPL hb3 c0 c1 c2 c3 cf hlt q0 q1 q2 q3 q4 q5
        go_wp2_with fail
        refine HG.out.mono ?_
        rintro e w4 ⟨rfl, M4, I4, v4, hS4, hC4, hst4⟩
        have HFIN := Lib.hid (show NextSt W F D (B + 16) w (L.filter fun x => x.seq != r.seq) last w4 from by
          rw [HER2.out]
          have hb : ((bytesR L : Nat) : Int) - (sizeR p : Int) = ((bytesR (L.eraseIdx i) : Nat) : Int) := by have := HBD.out; omega
          rw [hb] at hS4
          have hle : (L.eraseIdx i).length = L.length - 1 := by rw [List.length_eraseIdx, if_pos HIL.out]
          have hlp := HIL.out
          exact HA.out.step HMF.out hS4 (right_sub HR.out (List.eraseIdx_sublist _ _) hS4.idx.sorted hC4) (by rw [hle]; omega) ((Step.below (HB2.out.trans (HB3.out.mono HB2.out.size))).trans hst4 hDw))
        clear hS4 hC4 hst4 HG
        go_wp2_with fail
        go_ret
        exact ⟨rfl, HFIN.out⟩
      · by_cases e3 : r.kind = 3
        · obtain rfl : L2 = L.filter (keepP r) := by rw [← HL2.out]; unfold leftS; rw [if_neg e1, if_neg e2, if_pos e3]; rfl
          obtain rfl : last = l2 := by rw [← Hl2.out]; unfold lastS; rw [if_neg e1, if_neg (by omega)]
          have hpu := purge_rec HS2.out HR.out (by omega) HML.out r HF.out
          rw [HRV.out, e3] at hpu
          rw [e3] at q0
          have HPU := Lib.hid hpu
          clear e1 e2 e3 hpu
          go_wp2_with fail
          refine HPU.out.mono ?_
          rintro e w4 ⟨rfl, M4, I4, v4, N4, hS4, hC4, hst4, hN4⟩
          have HFIN := Lib.hid (show NextSt W F D (B + 16) w (L.filter (keepP r)) last w4 from
            HA.out.step HMF.out hS4 (right_sub HR.out List.filter_sublist hS4.idx.sorted hC4) (by omega) ((Step.below HB2.out).trans hst4 hDw))
          clear hS4 hC4 hst4 hN4 HPU
          go_wp2_with fail
          go_ret
          exact ⟨rfl, HFIN.out⟩
        · have e4 : r.kind = 4 := by omega
          obtain rfl : L = L2 := by rw [← HL2.out]; unfold leftS; rw [if_neg e1, if_neg e2, if_neg e3]
          obtain rfl : l2 = max last r.seq := by rw [← Hl2.out]; unfold lastS; rw [if_neg e1, if_pos e4]
          rw [e4] at q0
          clear e1 e2 e3 e4
          go_upto_region 16 with fail
          have hS4 := (HS2.out.next (w1 := w2.drew) (Below.refl _ _).drew).setLast (max last r.seq)
          have hst4 : Step w2 (w2.drew.setCell ⟨D, 3, none⟩ (.int .i64 (max last r.seq))) M M v v D := (Step.below ((Below.refl _ _).drew)).trans ⟨fun _ h => .inl h, (touch_D _ D 3 _).mono fun _ _ e => .inr (.inr e)⟩ HS2.out.lt
          have HFIN := Lib.hid (HA.out.step (B' := B + 16) HMF.out hS4 (right_last HR.out ⟨by omega, by rw [hfar]; omega⟩) (by omega) ((Step.below HB2.out).trans hst4 hDw))
          clear hS4 hst4
          go_region_law (fail)
          all_goals
            go_wp2_with fail
            go_ret
            exact ⟨rfl, HFIN.out⟩
  · have haf : after L last r = (L, last) := by unfold after; rw [if_neg (by rw [hT]; exact hT0)]
    rw [haf]
    have he0 : ((T : Int) != 0) = true := by simpa using hT0
    clear hA h htr hS1 hb1 hea hbx hp hf hR hm hMF hrv hT haf hT0
    go_enter Tryd.func12, Tryd.ntmps12
    go_upto_region 1 with fail
    rw [← hw1, HBX.out]
    clear hw1
    go_wp2_with fail
    refine HTR.out.mono ?_
    rintro e w2 ⟨rfl, hb2⟩
    have HFIN := Lib.hid (NextSt.same (B' := B + 16) HA.out (HB1.out.trans (hb2.mono HB1.out.size)) (by omega))
    clear hb2
    go_wp2_with fail
    go_ret
    exact ⟨rfl, HFIN.out⟩
end
end Go.Proofs.YtapmhpnkpjgefaaDoor.Sto
