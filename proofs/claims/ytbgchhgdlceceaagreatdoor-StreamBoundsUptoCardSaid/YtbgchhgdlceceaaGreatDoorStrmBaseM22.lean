/- Parts of the proof, joined: (*Store).Apply, walked.; What a store tells of itself: All, Sums; slices.Clone and slices.Equal of records.; A store that is filled.; How many messages there are of each subject: the map in which the reference counts.; The reference's chest in memory; its Try, walked.; The first entry for which a predicate holds: slices.IndexFunc, walked (XDrawRun turned to entries).; The reference's index, a list of entries, in memory: at, Get. -/
import Derived.Test.YtbgchhgdlceceaaGreatDoorStrmBaseM21
import Derived.Shelf.SlicesQ.Load
import Derived.Lib.SlBy
namespace Go.Proofs.YtbgchhgdlceceaaGreatDoor.Sto
open Go.RowKit Heap
open Subj (Tok ML pieces takes StrsAt)
open Rec (Rc recErr far)
open Idx (Ents ptrV)
open Shf (XAt NextX SortedE putL)

theorem right_append {L : List Rc} {last : Int} {I I' : Ents} {r : Rc} (h : Right L last I) (he : recErr r = 0) (hk : r.kind = 1) (hq : last < r.seq) (hl : L.length ≠ 200) (hs : SortedE I') (hc : Counts I' (L ++ [r])) : Right (L ++ [r]) r.seq I' := by
  have hz := Rec.recErr_sizes he
  refine ⟨?_, fun x hx => ?_, fun x hx => ?_, ?_, ⟨by omega, hz.2.2.2.1⟩, hs, hc⟩
  · rw [List.pairwise_append]
    refine ⟨h.rise, List.pairwise_singleton _ _, fun x hx y hy => ?_⟩
    simp at hy
    subst hy
    have := h.top x hx; omega
  · rcases List.mem_append.1 hx with hx | hx
    · have := h.top x hx; omega
    · simp at hx; subst hx; exact Int.le_refl _
  · rcases List.mem_append.1 hx with hx | hx
    · exact h.good x hx
    · simp at hx; subst hx; exact ⟨he, hk⟩
  · have := h.few
    rw [List.length_append, List.length_singleton]; omega

theorem right_sub {L L' : List Rc} {last : Int} {I I' : Ents} (h : Right L last I) (hsub : L'.Sublist L) (hs : SortedE I') (hc : Counts I' L') : Right L' last I' :=
  ⟨h.rise.sublist hsub, fun x hx => h.top x (hsub.subset hx), fun x hx => h.good x (hsub.subset hx), Nat.le_trans hsub.length_le h.few, h.range, hs, hc⟩

theorem right_last {L : List Rc} {last q : Int} {I : Ents} (h : Right L last I) (hq : 0 ≤ q ∧ q ≤ far) : Right L (max last q) I :=
  ⟨h.rise, fun x hx => by have := h.top x hx; omega, h.good, h.few, by have := h.range; omega, h.sorted, h.count⟩

theorem erase_seq {L : List Rc} {i : Nat} {p : Rc} {q : Int} (h : L.Pairwise fun a b => a.seq < b.seq) (hp : L[i]? = some p) (hq : p.seq = q) : L.filter (fun x => x.seq != q) = L.eraseIdx i := by
  obtain ⟨hil, e⟩ := List.getElem?_eq_some_iff.1 hp
  have hL : L = L.take i ++ p :: L.drop (i + 1) := by rw [← e, ← List.drop_eq_getElem_cons hil, List.take_append_drop]
  rw [List.eraseIdx_eq_take_drop_succ]
  conv => lhs; rw [hL]
  rw [hL, List.pairwise_append, List.pairwise_cons] at h
  rw [List.filter_append, List.filter_cons_of_neg (by simp [hq])]
  congr 1
  · rw [List.filter_eq_self]
    intro x hx
    have := h.2.2 x hx p (by simp)
    simp; omega
  · rw [List.filter_eq_self]
    intro x hx
    have := h.2.1.1 x hx
    simp; omega

theorem try_zero {L : List Rc} {last : Int} {r : Rc} (h : tryD L last r = 0) : recErr r = 0 ∧ (r.kind = 1 → last < r.seq ∧ L.length ≠ 200 ∧ (cntR L r.subj ≠ 0 ∨ dist L ≠ 100)) ∧ (r.kind = 2 → hasSeq L r.seq = true) := by
  have he : recErr r = 0 := by
    unfold tryD at h
    split at h
    · exact h
    · rename_i h1; simpa using h1
  unfold tryD at h
  rw [if_neg (by rw [he]; simp)] at h
  refine ⟨he, fun hk => ?_, fun hk => ?_⟩
  · rw [if_pos hk] at h
    split at h
    · omega
    · split at h
      · omega
      · rename_i h1 h2
        refine ⟨by omega, fun e => h2 (.inl e), ?_⟩
        by_cases hc : cntR L r.subj = 0
        · exact .inr fun e => h2 (.inr ⟨hc, e⟩)
        · exact .inl hc
  · rw [if_neg (by omega), if_pos hk] at h
    split at h
    · assumption
    · omega

section
variable {W w : World} {F : Nat → Prop} {D B : Nat} {L : List Rc} {last : Int}

/-- What Apply leaves. -/
def ApplyPost (W w : World) (F : Nat → Prop) (D B : Nat) (L : List Rc) (last : Int) (r : Rc) (e : Ending) (w' : World) : Prop :=
  e = .returned (.int .i64 (tryD L last r : Nat)) ∧ NextSt W F D (B + 16) w (after L last r).1 (after L last r).2 w'

set_option maxHeartbeats 8000000 in
set_option maxRecDepth 100000 in
theorem apply_any (hA : StoreAt W F D B L last w) (hB : B ≤ 70000) (hm : ML W) (r : Rc) (hf : Fits r) :
    Calls Tryz.prog 13 #[.pointer (some ⟨D, 0, none⟩), recV r] w (ApplyPost W w F D B L last r) := by
  obtain ⟨M, x, N, I, v, h, hR, hN, hMF⟩ := hA.ex
  obtain ⟨s, hd, d, hp⟩ := parts r
  have hrv : recV r = .agg #[.int .i64 r.kind, .int .i64 r.seq, .int .i64 r.time, .string s, .string hd, .string d] := by unfold recV; rw [hp.s1, hp.h1, hp.d1]
  obtain ⟨T, hT⟩ : ∃ T, tryD L last r = T := ⟨_, rfl⟩
  unfold ApplyPost
  rw [hT]
  obtain ⟨w1, hw1⟩ : ∃ w1, w1 = w.alloc (.cells #[.int .i64 r.kind, .int .i64 r.seq, .int .i64 r.time, .string s, .string hd, .string d] 33) := ⟨_, rfl⟩
  have hb1 : Below w.heap.size w w1 := by rw [hw1]; exact (Below.refl _ _).alloc (Nat.le_refl _) _
  have hea : w1.heap[w.heap.size]? = some (.cells #[.int .i64 r.kind, .int .i64 r.seq, .int .i64 r.time, .string s, .string hd, .string d] 33 (0, 0)) := by rw [hw1]; exact heap_alloc_new w _
  obtain ⟨bx, hbx⟩ : ∃ bx, w.heap.size = bx := ⟨_, rfl⟩
  rw [hbx] at hea
  have hS1 := h.next hb1
  have htr := try_rec hS1 hR (by omega) hm r hf
  rw [tryS_D hR.sorted hR.count, hT, hrv] at htr
  obtain ⟨q0, q1, q2, q3, q4, q5⟩ := sixC hea
  have hbxl := heap_lt hea
  have hDw := h.lt
  have HTR := Lib.hid htr; have HS1 := Lib.hid hS1; have HB1 := Lib.hid hb1; have HEA := Lib.hid hea; have HBX := Lib.hid hbx; have HP := Lib.hid hp; have HR := Lib.hid hR; have HML := Lib.hid hm; have HA := Lib.hid hA; have HMF := Lib.hid hMF; have HF := Lib.hid hf; have HRV := Lib.hid hrv
  have HOW := Lib.hid (show ∀ k, M k ∨ own v k → k < bx from fun k hk => by rw [← hbx]; exact hk.elim (fun h1 => h.idx.bM h1) fun h1 => h.row.lt k h1)
  rw [hrv]
  by_cases hT0 : T = 0
  · subst hT0
    have haf : after L last r = (leftS L r, lastS last r) := by unfold after; rw [if_pos hT]
    rw [haf]
    obtain ⟨L2, hL2⟩ : ∃ L2, leftS L r = L2 := ⟨_, rfl⟩
    obtain ⟨l2, hl2⟩ : ∃ l2, lastS last r = l2 := ⟨_, rfl⟩
    rw [hL2, hl2]
    have HL2 := Lib.hid hL2; have Hl2 := Lib.hid hl2
    have HT := Lib.hid hT
    clear hL2 hl2
    clear hA h htr hS1 hb1 hea hbx hp hf hR hm hMF hrv hT haf
    obtain ⟨her, hk1, hk2⟩ := try_zero HT.out
    have hsz := Rec.recErr_sizes her
    have HER := Lib.hid her; have HK1 := Lib.hid hk1; have HK2 := Lib.hid hk2; have HSZ := Lib.hid hsz
    have hfar : far = 1099511627776 := rfl
    have hqr : 1 ≤ r.seq ∧ r.seq ≤ 1099511627776 := ⟨hsz.2.2.1, hsz.2.2.2.1⟩
    have hkr : 1 ≤ r.kind ∧ r.kind ≤ 4 := ⟨hsz.1, hsz.2.1⟩
    clear her hk1 hk2 hsz
    go_enter Tryz.func13, Tryz.ntmps13
    go_upto_region 1 with fail
    rw [← hw1, HBX.out]
    clear hw1
    go_wp2_with fail
    refine HTR.out.mono ?_
    rintro e w2 ⟨rfl, hb2⟩
    have hS2 := HS1.out.next hb2
    have hea2 := (hb2.block bx hbxl).trans HEA.out
    have HB2 := Lib.hid (HB1.out.trans (hb2.mono HB1.out.size))
    have HS2 := Lib.hid hS2
    have HEA2 := Lib.hid hea2
    have hbxl2 := heap_lt hea2
    have HBOX := Lib.hid (show ∀ (wx : World) (Mx : Nat → Prop) (vx : Value), Step w2 wx M Mx v vx D → wx.heap[bx]? = some (.cells #[.int .i64 r.kind, .int .i64 r.seq, .int .i64 r.time, .string s, .string hd, .string d] 33 (0, 0)) from fun wx Mx vx hst => (hst.touch.block bx hbxl2 (by
      rintro (hh | hh | hh)
      · have := HOW.out bx (.inl hh); omega
      · have := HOW.out bx (.inr hh); omega
      · have := HBX.out; omega)).trans HEA2.out)
    obtain ⟨q0, q1, q2, q3, q4, q5⟩ := sixC hea2
    obtain ⟨c0, c1, c2, c3, cf⟩ := fourS hS2.cell
    have hlt := hS2.lt
    clear hb2 hS2 hea2 HTR
    by_cases e1 : r.kind = 1
    · obtain rfl : L2 = L ++ [r] := by rw [← HL2.out]; unfold leftS; rw [if_pos e1]
      obtain rfl : l2 = r.seq := by rw [← Hl2.out]; unfold lastS; rw [if_pos e1]
      obtain ⟨hq1, hq2, hq3⟩ := HK1.out e1
      obtain ⟨he, hls1, hls2⟩ := good_parts HER.out e1
      have hcm := count_more HS2.out (by omega) HML.out s (by rw [HP.out.s3]; omega) (by rw [HP.out.s2]; exact he) HR.out.count (by have := HR.out.few; omega)
      rw [HP.out.s2] at hcm
      have hca := counts_add HS2.out.idx.sorted HR.out.count r (hq3.imp id fun h => by rw [counts_dist HR.out.sorted HR.out.count]; exact h)
      obtain ⟨I', hI'⟩ : ∃ I', (putL 0 I r.subj ((cntR L r.subj : Int) + 1)).1 = I' := ⟨_, rfl⟩
      rw [hI'] at hcm hca
      have hsr : sizeR r = s.size + hd.size + d.size := by unfold sizeR; rw [HP.out.s3, HP.out.h3, HP.out.d3]
      have hsz : sizeR r ≤ 400 := by unfold sizeR; omega
      have hrs := fun w1 => size_rec r.kind r.seq r.time s hd d w1 (by rw [← hsr]; omega)
      rw [← hsr, e1] at hrs
      have hby := bytes_le HR.out.good
      have hfew := HR.out.few
      have HCM := Lib.hid hcm; have HCA := Lib.hid hca; have HQ1 := Lib.hid hq1; have HQ2 := Lib.hid hq2; have HRS := Lib.hid hrs; have HE1 := Lib.hid e1
      obtain ⟨sz, hszv⟩ : ∃ sz, sizeR r = sz := ⟨_, rfl⟩
      obtain ⟨bt, hbt⟩ : ∃ bt : Nat, bytesR L = bt := ⟨_, rfl⟩
      have HSZV := Lib.hid hszv; have HBT := Lib.hid hbt
      rw [hszv] at HRS hsz
      rw [hbt] at HCM hby c2
      have hbtl : bt ≤ 100000 := by omega
      have hel : recsV [r] = [.int .i64 r.kind, .int .i64 r.seq, .int .i64 r.time, .string s, .string hd, .string d] := by
        rw [← HP.out.s1, ← HP.out.h1, ← HP.out.d1]; rfl
      rw [e1] at hel
      have HEL := Lib.hid hel
      rw [e1] at q0
      obtain ⟨i0, hi, hz0, hz1, hz2⟩ := info_parts info_rec
      clear hcm hca hq1 hq2 hq3 hrs e1 he hsr hI' hszv hbt hel hby
      go_wp2_with fail
      refine HCM.out.mono ?_
      rintro e w3 ⟨rfl, ht3⟩
      obtain ⟨M3, hS3, hst3⟩ := ht3.step
      have HS3 := Lib.hid hS3; have HST3 := Lib.hid hst3
      have hea3 := HBOX.out _ _ _ hst3
      rw [HE1.out] at hea3
      obtain ⟨q0, q1, q2, q3, q4, q5⟩ := sixC hea3
      obtain ⟨c0, c1, c2, c3, cf⟩ := fourS hS3.cell
      have hlt := hS3.lt
      have hbxl3 := heap_lt hea3
      have hrow3 := hS3.row
      obtain ⟨n, hnL⟩ : ∃ n, L.length = n := ⟨_, rfl⟩
      rw [hnL] at hrow3 hfew
      have HNL := Lib.hid hnL
      have HRW := Lib.hid hrow3
      have HEA3 := Lib.hid hea3
      clear hea3 hrow3 hnL hS3 hst3 ht3 HCM
      go_upto_region 7 with fail
      go_cut [] from 22 to 31 (fun wx => Hid (∃ v2, SAt W M3 x (N + 8) I' D v2 (L ++ [r]) (bt : Int) last wx ∧ Step w3 wx M3 M3 v v2 D))
      case first =>
        go_region_law ((refine step_append_row _ (by rfl) (.tmp 26) (.tmp 28) 25 (by rfl) 33 i0 _ 6 72 Tryz.underlying25 hi hz0 hz1 hz2 (by rfl) (by decide) _ n _ (by rfl) (HRW.out.kept (fun k _ hk => Below.heap_alloc w3.drew _ _ hk)) ⟨w3.heap.size, 0, none⟩ 1 1 [.int .i64 1, .int .i64 r.seq, .int .i64 r.time, .string s, .string hd, .string d] (by rfl) (by rfl) (news_rec w3.drew _ _ _ _ _ _ _) (by simp [Value.oneCell']) (by unfold maxLen; omega) (by omega) ?_; intro v2 w5 r5 t5 o5; obtain ⟨a2, n2, rfl⟩ := r5.slice; have hD5 := ((t5.block D (by show D < (w3.drew.alloc _).heap.size; exact Nat.lt_of_lt_of_le HS3.out.lt (by simp)) HS3.out.ne).trans (Below.heap_alloc w3.drew _ _ HS3.out.lt)).trans HS3.out.cell; obtain ⟨y0, y1, y2, y3, yf⟩ := fourS hD5; have hlt5 := heap_lt hD5; have R5 := Lib.hid r5; have T5 := Lib.hid t5; have O5 := Lib.hid o5; clear r5 t5 o5 hD5))
        all_goals
          go_wp2_with fail
          go_meet
          have hbn : Below w3.heap.size w3 (w3.drew.alloc (.cells #[.int .i64 1, .int .i64 r.seq, .int .i64 r.time, .string s, .string hd, .string d] 33)) := (Below.refl _ _).drew.alloc (Nat.le_refl _) _
          have htt : Heap.Touch (fun k => M3 k ∨ own v k ∨ k = D) w3 _ := (Heap.Touch.ofBelow hbn).trans (T5.out.mono fun _ _ e => .inr (.inl e)) fun _ _ hf => hf
          exact Lib.hid ⟨_, (HS3.out.next hbn).setList T5.out (L' := L ++ [r]) (by rw [List.length_append, List.length_singleton, HNL.out, recsV_append, HEL.out]; exact R5.out) (fun k hk => (O5.out k hk).imp id fun h => by simpa using h), ⟨fun k hk => (by
            rcases hk with hk | hk
            · exact .inl (.inl hk)
            · exact (O5.out k hk).imp .inr fun h => Nat.le_trans hbn.size (by simpa using h)), htt.setCell (p := ⟨D, 0, none⟩) (.inl (.inr (.inr rfl))) _⟩⟩
      case rest =>
      obtain ⟨v2, hS6, hst6⟩ := hcut.out
      have hst36 := HST3.out.trans hst6 (Nat.lt_of_lt_of_le hDw HB2.out.size)
      have hea6 := HBOX.out _ _ _ hst36
      rw [HE1.out] at hea6
      obtain ⟨q0, q1, q2, q3, q4, q5⟩ := sixC hea6
      obtain ⟨c0, c1, c2, c3, cf⟩ := fourS hS6.cell
      have hlt := hS6.lt
      have hbxl6 := heap_lt hea6
      have HS6 := Lib.hid hS6; have HST6 := Lib.hid hst36
      have hwr : IntKind.i64.wrap ((bt : Int) + (sz : Int)) = (bt : Int) + (sz : Int) := IntWalk.i64_in _ (by omega)
      clear hcut hS6 hst6 hst36 hea6
      go_upto_region 8 with fail
      go_cut [] from 32 to 40 (fun wx => Hid (SAt W M3 x (N + 8) I' D v2 (L ++ [r]) ((bt : Int) + (sz : Int)) last wx ∧ Step w2 wx M M3 v v2 D))
      case first =>
        go_region_law (first
          | (go_simp; go_at_call 72; ((with_reducible refine (HRS.out _).mono ?_); rintro e w7 ⟨rfl, hb7⟩; have hS7 := (HS6.out.next (Below.refl _ _).drew).next hb7; obtain ⟨k0, k1, k2, k3, kf⟩ := fourS hS7.cell; have hlt7 := hS7.lt; have HS7 := Lib.hid hS7; have HST7 := Lib.hid (HST6.out.trans (Step.below (M := M3) (v := v2) ((Below.refl _ _).drew.trans hb7)) (Nat.lt_of_lt_of_le hDw HB2.out.size)); clear hS7 hb7)))
        all_goals
          go_wp2_with fail
          go_meet
          exact Lib.hid ⟨HS7.out.setBytes _, HST7.out.trans ⟨fun _ h => .inl h, (touch_D _ D 2 _).mono fun _ _ e => .inr (.inr e)⟩ (Nat.lt_of_lt_of_le hDw HB2.out.size)⟩
      case rest =>
      obtain ⟨hS8, hst8⟩ := hcut.out
      have hea8 := HBOX.out _ _ _ hst8
      rw [HE1.out] at hea8
      obtain ⟨q0, q1, q2, q3, q4, q5⟩ := sixC hea8
      obtain ⟨c0, c1, c2, c3, cf⟩ := fourS hS8.cell
      have hlt := hS8.lt
      have hbxl8 := heap_lt hea8
      have HFIN := Lib.hid (show NextSt W F D (B + 16) w (L ++ [r]) r.seq _ from by
        have h9 := hS8.setLast r.seq
        rw [show ((bt : Int) + (sz : Int)) = ((bytesR (L ++ [r]) : Nat) : Int) by rw [bytes_append, HBT.out, HSZV.out]; omega] at h9
        exact HA.out.step (B' := B + 16) HMF.out h9 (right_append HR.out HER.out HE1.out HQ1.out HQ2.out hS8.idx.sorted HCA.out) (by rw [List.length_append, List.length_singleton]; omega)
          (((Step.below HB2.out).trans hst8 hDw).trans ⟨fun _ h => .inl h, (touch_D _ D 3 (.int .i64 r.seq)).mono fun _ _ e => .inr (.inr e)⟩ hDw))
      clear hcut hS8 hst8 hea8
      go_wp2_with fail
      go_ret
      exact ⟨rfl, HFIN.out⟩
    · by_cases e2 : r.kind = 2
      · obtain rfl : L2 = L.filter fun x => x.seq != r.seq := by rw [← HL2.out]; unfold leftS; rw [if_neg e1, if_pos e2]
        obtain rfl : last = l2 := by rw [← Hl2.out]; unfold lastS; rw [if_neg e1, if_neg (by omega)]
        have HPL := Lib.hid (place_rec HS2.out (by have := HR.out.few; omega) r.seq)
        have HHS := Lib.hid (HK2.out e2)
        rw [e2] at q0
        clear e1 e2
        go_wp2_with fail
        refine HPL.out.mono ?_
        rintro e w3 ⟨i, fd, rfl, hfo, hb3⟩
        obtain ⟨_, _, hfd, hyes⟩ := hfo.in HR.out.rise HR.out.seqs (by omega)
        obtain ⟨p, hp, hpq⟩ := hyes (by rw [hfd]; exact HHS.out)
        have hpm := List.mem_of_getElem? hp
        have hby := bytes_le HR.out.good
        have hbd := bytes_del hp
        have hfew := HR.out.few
        have HG := Lib.hid (gone_rec (HS2.out.next hb3) (by omega) HML.out HR.out.count (by omega) hp (HR.out.good p hpm) ⟨by omega, by omega⟩)
        have HER2 := Lib.hid (erase_seq HR.out.rise hp hpq)
        have HBD := Lib.hid hbd
        have HIL := Lib.hid (List.getElem?_eq_some_iff.1 hp).1
        have HB3 := Lib.hid hb3
        clear hfo hfd hyes hp hpq hpm hby hbd HPL hb3 c0 c1 c2 c3 cf hlt q0 q1 q2 q3 q4 q5
        go_wp2_with fail
        refine HG.out.mono ?_
        rintro e w4 ⟨rfl, M4, I4, v4, hS4, hC4, hst4⟩
        have HFIN := Lib.hid (show NextSt W F D (B + 16) w (L.filter fun x => x.seq != r.seq) last w4 from by
          rw [HER2.out]
          have hb : ((bytesR L : Nat) : Int) - (sizeR p : Int) = ((bytesR (L.eraseIdx i) : Nat) : Int) := by have := HBD.out; omega
          rw [hb] at hS4
          have hle : (L.eraseIdx i).length = L.length - 1 := by rw [List.length_eraseIdx, if_pos HIL.out]
          have hlp := HIL.out
          exact HA.out.step HMF.out hS4 (right_sub HR.out (List.eraseIdx_sublist _ _) hS4.idx.sorted hC4) (by rw [hle]; omega) ((Step.below (HB2.out.trans (HB3.out.mono HB2.out.size))).trans hst4 hDw))
        clear hS4 hC4 hst4 HG
        go_wp2_with fail
        go_ret
        exact ⟨rfl, HFIN.out⟩
      · by_cases e3 : r.kind = 3
        · obtain rfl : L2 = L.filter (keepP r) := by rw [← HL2.out]; unfold leftS; rw [if_neg e1, if_neg e2, if_pos e3]; rfl
          obtain rfl : last = l2 := by rw [← Hl2.out]; unfold lastS; rw [if_neg e1, if_neg (by omega)]
          have hpu := purge_rec HS2.out HR.out (by omega) HML.out r HF.out
          rw [HRV.out, e3] at hpu
          rw [e3] at q0
          have HPU := Lib.hid hpu
          clear e1 e2 e3 hpu
          go_wp2_with fail
          refine HPU.out.mono ?_
          rintro e w4 ⟨rfl, M4, I4, v4, N4, hS4, hC4, hst4, hN4⟩
          have HFIN := Lib.hid (show NextSt W F D (B + 16) w (L.filter (keepP r)) last w4 from
            HA.out.step HMF.out hS4 (right_sub HR.out List.filter_sublist hS4.idx.sorted hC4) (by omega) ((Step.below HB2.out).trans hst4 hDw))
          clear hS4 hC4 hst4 hN4 HPU
          go_wp2_with fail
          go_ret
          exact ⟨rfl, HFIN.out⟩
        · have e4 : r.kind = 4 := by omega
          obtain rfl : L = L2 := by rw [← HL2.out]; unfold leftS; rw [if_neg e1, if_neg e2, if_neg e3]
          obtain rfl : l2 = max last r.seq := by rw [← Hl2.out]; unfold lastS; rw [if_neg e1, if_pos e4]
          rw [e4] at q0
          clear e1 e2 e3 e4
          go_upto_region 16 with fail
          have hS4 := (HS2.out.next (w1 := w2.drew) (Below.refl _ _).drew).setLast (max last r.seq)
          have hst4 : Step w2 (w2.drew.setCell ⟨D, 3, none⟩ (.int .i64 (max last r.seq))) M M v v D := (Step.below ((Below.refl _ _).drew)).trans ⟨fun _ h => .inl h, (touch_D _ D 3 _).mono fun _ _ e => .inr (.inr e)⟩ HS2.out.lt
          have HFIN := Lib.hid (HA.out.step (B' := B + 16) HMF.out hS4 (right_last HR.out ⟨by omega, by rw [hfar]; omega⟩) (by omega) ((Step.below HB2.out).trans hst4 hDw))
          clear hS4 hst4
          go_region_law (fail)
          all_goals
            go_wp2_with fail
            go_ret
            exact ⟨rfl, HFIN.out⟩
  · have haf : after L last r = (L, last) := by unfold after; rw [if_neg (by rw [hT]; exact hT0)]
    rw [haf]
    have he0 : ((T : Int) != 0) = true := by simpa using hT0
    clear hA h htr hS1 hb1 hea hbx hp hf hR hm hMF hrv hT haf hT0
    go_enter Tryz.func13, Tryz.ntmps13
    go_upto_region 1 with fail
    rw [← hw1, HBX.out]
    clear hw1
    go_wp2_with fail
    refine HTR.out.mono ?_
    rintro e w2 ⟨rfl, hb2⟩
    have HFIN := Lib.hid (NextSt.same (B' := B + 16) HA.out (HB1.out.trans (hb2.mono HB1.out.size)) (by omega))
    clear hb2
    go_wp2_with fail
    go_ret
    exact ⟨rfl, HFIN.out⟩
end
end Go.Proofs.YtbgchhgdlceceaaGreatDoor.Sto

namespace Go.Proofs.YtbgchhgdlceceaaGreatDoor.Sto
open Go.RowKit Heap
open Subj (Tok ML pieces takes StrsAt)
open Rec (Rc recErr far)
open Idx (Ents ptrV)
open Shf (XAt NextX SortedE putL)

section
variable {w : World}

/-- A copy: a row of its own. -/
def Copied (w : World) (L : List Rc) (e : Ending) (w' : World) : Prop :=
  ∃ v', e = .returned v' ∧ Row w' 33 6 v' L.length (recsV L) ∧ Below w.heap.size w w' ∧ ∀ k, own v' k → w.heap.size ≤ k

set_option maxHeartbeats 2000000 in
set_option maxRecDepth 100000 in
theorem clone_rec {v : Value} {L : List Rc} (hrow : Row w 33 6 v L.length (recsV L)) (hl : L.length ≤ 1000) :
    Calls Tryz.prog 126 #[v] w (Copied w L) := by
  obtain ⟨n, hn⟩ : ∃ n, L.length = n := ⟨_, rfl⟩
  have HN := Lib.hid hn
  rw [hn] at hrow hl
  rcases hrow.2 with ⟨rfl, h0⟩ | ⟨g, off, cap, cur, rfl, hg, _⟩
  · have hk0 : L = [] := List.eq_nil_of_length_eq_zero (by omega)
    have HF := Lib.hid (show Copied w L (.returned (.slice none 0 0)) w from ⟨_, rfl, by rw [hk0]; exact Row.nil _ _ _, Below.refl _ _, fun k hk => by simp [own, Value.ownBlock] at hk⟩)
    clear hrow hk0
    have q52 : ∀ (w : World) (a : Option Addr) (n c n' c' : Nat), (binOp .eql 25 (.slice a n c) (.slice none n' c')).run Tryz.prog w = .ok (.bool a.isNone) w := fun w a n c n' c' => Lib.run_eql_slice_nil w _ _ a n c n' c' Tryz.underlying25
    go_enter Tryz.func126, Tryz.ntmps126
    go_wp2
    go_ret
    exact HF.out
  · obtain ⟨i0, hi, hz0, hz1, hz2⟩ := info_parts info_rec
    have HR := Lib.hid hrow
    clear hrow hg
    have q52 : ∀ (w : World) (a : Option Addr) (n c n' c' : Nat), (binOp .eql 25 (.slice a n c) (.slice none n' c')).run Tryz.prog w = .ok (.bool a.isNone) w := fun w a n c n' c' => Lib.run_eql_slice_nil w _ _ a n c n' c' Tryz.underlying25
    go_enter Tryz.func126, Tryz.ntmps126
    have hr1 : Row (w.alloc (.cells #[] 33)) 33 6 (.slice (some ⟨w.heap.size, 0, none⟩) 0 0) 0 [] :=
      ⟨rfl, .inr ⟨w.heap.size, 0, 0, #[], rfl, heap_alloc_new w _, Nat.le_refl _, Nat.zero_le _, by simp, by simp⟩⟩
    have hnews : ∀ j u, (recsV L)[j]? = some u → (w.alloc (.cells #[] 33)).cell? ((⟨g, off, none⟩ : Addr).add j) = some u := fun j u hj => by
      have hjl := (List.getElem?_eq_some_iff.1 hj).1
      rw [recsV_len, HN.out] at hjl
      rw [Addr.add_lit]
      have h1 := (HR.out.kept (w' := w.alloc (.cells #[] 33)) fun k _ hk => Below.heap_alloc _ _ _ hk).cell j (by omega)
      rw [h1.1]; exact hj
    have HR1 := Lib.hid hr1; have HNW := Lib.hid hnews
    have hrl : (recsV L).length = n * 6 := by rw [recsV_len, HN.out]
    have HRL := Lib.hid hrl
    clear hr1 hnews hrl
    go_wp2_with (at_builtin; refine Heap.wpList_append_row _ rfl (.tmp 5) (.tmp 6) 25 rfl 33 i0 _ 6 72 Tryz.underlying25 hi hz0 hz1 hz2 rfl (by decide) _ 0 _ rfl HR1.out ⟨g, off, none⟩ n cap (recsV L) rfl HRL.out HNW.out (recsV_one L) (by unfold maxLen; omega) (by omega) ?_)
    intro v2 w3 r3 t3 o3
    have HF := Lib.hid (show Copied w L (.returned v2) w3 from ⟨v2, rfl, by
      rw [HN.out]
      exact r3, (((Below.refl w.heap.size w).alloc (Nat.le_refl _) _).trans (t3.below (by simp) fun k hk => by simp [own, Value.ownBlock] at hk; omega)), fun k hk => by
      rcases o3 k hk with h | h
      · simp [own, Value.ownBlock] at h; omega
      · omega⟩)
    clear r3 t3 o3
    go_wp2
    go_ret
    exact HF.out

theorem res_sums {fn : Func} (hf : fn.results = #[.cell 2 116]) (tmps : Array Value) (w : World) (R : Nat) {a0 a1 a2 a3 : Value}
    (h2 : tmps.getD 2 undef = .pointer (some ⟨R, 0, none⟩)) (hR : w.heap[R]? = some (.cells #[a0, a1, a2, a3] 116 (0, 0))) :
    (results fn tmps).run Tryz.prog w = .ok (.agg #[a0, a1, a2, a3]) w := by
  obtain ⟨z0, z1, z2, z3, zf⟩ := fourS hR
  simp only [Array.getD_eq_getD_getElem?] at h2
  simp [results, hf, go_sem, h2, z0, z1, z2, z3]

theorem set4 {w : World} {R : Nat} {b0 b1 b2 b3 : Value} {t : TypeId} (a0 a1 a2 a3 : Value) (hR : w.heap[R]? = some (.cells #[b0, b1, b2, b3] t (0, 0))) :
    ((((w.setCell ⟨R, 0, none⟩ a0).setCell ⟨R, 1, none⟩ a1).setCell ⟨R, 2, none⟩ a2).setCell ⟨R, 3, none⟩ a3).heap[R]? = some (.cells #[a0, a1, a2, a3] t (0, 0)) := by
  have h1 := heap_setCell_same w R 0 _ _ a0 hR
  have h2 := heap_setCell_same _ R 1 _ _ a1 h1
  have h3 := heap_setCell_same _ R 2 _ _ a2 h2
  exact heap_setCell_same _ R 3 _ _ a3 h3

/-- The sums. -/
def sumsV (L : List Rc) (last : Int) : Value := .agg #[.int .i64 (L.length : Nat), .int .i64 (bytesR L : Nat), .int .i64 ((L.head?.map (·.seq)).getD 0), .int .i64 last]

section
variable {W : World} {F : Nat → Prop} {D B : Nat} {L : List Rc} {last : Int}

theorem all_any (hA : StoreAt W F D B L last w) : Calls Tryz.prog 64 #[.pointer (some ⟨D, 0, none⟩)] w (Copied w L) := by
  obtain ⟨M, x, N, I, v, h, hR, _, _⟩ := hA.ex
  obtain ⟨c0, c1, c2, c3, cf⟩ := fourS h.cell
  have hlt := h.lt
  have HC := Lib.hid (clone_rec h.row (by have := hR.few; omega))
  clear hA h hR
  go_enter Tryz.func64, Tryz.ntmps64
  go_wp2_with fail
  refine HC.out.mono ?_
  rintro e w' ⟨v', rfl, h1, h2, h3⟩
  have HF := Lib.hid (show Copied w L (.returned v') w' from ⟨v', rfl, h1, h2, h3⟩)
  clear h1 h2 h3
  go_wp2
  go_ret
  exact HF.out

set_option maxHeartbeats 2000000 in
set_option maxRecDepth 100000 in
theorem sums_any (hA : StoreAt W F D B L last w) : Calls Tryz.prog 61 #[.pointer (some ⟨D, 0, none⟩)] w fun e w' => e = .returned (sumsV L last) ∧ Below w.heap.size w w' := by
  obtain ⟨M, x, N, I, v, h, hR, _, _⟩ := hA.ex
  obtain ⟨n, hn⟩ : ∃ n, L.length = n := ⟨_, rfl⟩
  obtain ⟨bt, hbt⟩ : ∃ bt, bytesR L = bt := ⟨_, rfl⟩
  obtain ⟨fz, hfz⟩ : ∃ fz, (L.head?.map (·.seq)).getD 0 = fz := ⟨_, rfl⟩
  unfold sumsV
  rw [hn, hbt, hfz]
  have HFZ := Lib.hid hfz
  clear hfz
  rw [hbt] at h
  have hfew := hR.few
  rw [hn] at hfew
  have hrow := h.row
  rw [hn] at hrow
  obtain ⟨va, vc, rfl⟩ := hrow.slice
  obtain ⟨c0, c1, c2, c3, cf⟩ := fourS h.cell
  have hlt := h.lt
  have hDw := h.lt
  obtain ⟨w0, hw0⟩ : ∃ w0, w0 = w.alloc (.cells #[.int .i64 0, .int .i64 0, .int .i64 0, .int .i64 0] 116) := ⟨_, rfl⟩
  have hb0 : Below w.heap.size w w0 := by rw [hw0]; exact (Below.refl _ _).alloc (Nat.le_refl _) _
  have hrs : w0.heap[w.heap.size]? = some (.cells #[.int .i64 0, .int .i64 0, .int .i64 0, .int .i64 0] 116 (0, 0)) := by rw [hw0]; exact heap_alloc_new w _
  obtain ⟨rb, hrb⟩ : ∃ rb, w.heap.size = rb := ⟨_, rfl⟩
  rw [hrb] at hrs
  have h0 := h.next hb0
  obtain ⟨d0, d1, d2, d3, df⟩ := fourS h0.cell
  have hlt0 := h0.lt
  have HH := Lib.hid h0; have HB0 := Lib.hid hb0; have HRS := Lib.hid hrs; have HRB := Lib.hid hrb; have HN := Lib.hid hn
  have hn1 : w0.heap.size ≠ D := by omega
  clear hA h hR hrow c0 c1 c2 c3 cf hlt h0 hb0 hrs hrb hbt
  go_enter Tryz.func61, Tryz.ntmps61
  go_upto_region 1 with fail
  rw [← hw0, HRB.out]
  clear hw0
  go_region_held3 (fun w' => w'.cell? ⟨D, 0, none⟩ = some (.slice va n vc) ∧ w'.cell? ⟨D, 2, none⟩ = some (.int .i64 bt) ∧ w'.cell? ⟨D, 3, none⟩ = some (.int .i64 last)) (first | (with_reducible exact ⟨d0, d2, d3⟩) | go_keep) (fail)
  rename_i hheld
  clear hheld
  obtain ⟨w3, hw3⟩ : ∃ w3, w3 = (w0.alloc (.cells #[.int .i64 (n : Nat), .int .i64 (bt : Nat), .int .i64 0, .int .i64 last] 116)).drew := ⟨_, rfl⟩
  have hb3 : Below w0.heap.size w0 w3 := by rw [hw3]; exact ((Below.refl _ _).alloc (Nat.le_refl _) _).drew
  have hs3 : w3.heap[w0.heap.size]? = some (.cells #[.int .i64 (n : Nat), .int .i64 (bt : Nat), .int .i64 0, .int .i64 last] 116 (0, 0)) := by rw [hw3]; exact heap_alloc_new w0 _
  rw [← hw3]
  have h3 := HH.out.next hb3
  have hrs3 := (hb3.block rb (heap_lt HRS.out)).trans HRS.out
  have hrbl : rb < w0.heap.size := heap_lt HRS.out
  obtain ⟨sb, hsb⟩ : ∃ sb, w0.heap.size = sb := ⟨_, rfl⟩
  have hrow3 := h3.row
  rw [HN.out] at hrow3
  obtain ⟨c0, c1, c2, c3, cf⟩ := fourS h3.cell
  have hlt := h3.lt
  have hwb := Lib.hid (HB0.out.trans (hb3.mono HB0.out.size))
  rw [hsb] at hs3 hrbl ⊢
  have hdr : D ≠ rb := by have := HRB.out; have := hDw; omega
  obtain ⟨x0, x1, x2, x3, xf⟩ := fourS hs3
  obtain ⟨y0, y1, y2, y3, yf⟩ := fourS hrs3
  have hsl := heap_lt hs3
  have hrl := heap_lt hrs3
  have HS3 := Lib.hid hs3; have HR3 := Lib.hid hrs3
  clear hw3 hb3 hs3 h3 hrs3 hsb d0 d1 d2 d3 df hlt0 hn1
  by_cases hn0 : n = 0
  · subst hn0
    have hL : L = [] := List.eq_nil_of_length_eq_zero HN.out
    subst hL
    obtain rfl : fz = 0 := by rw [← HFZ.out]; rfl
    clear hrow3
    have HF := Lib.hid (show Below w.heap.size w ((((w3.setCell ⟨rb, 0, none⟩ (.int .i64 0)).setCell ⟨rb, 1, none⟩ (.int .i64 bt)).setCell ⟨rb, 2, none⟩ (.int .i64 0)).setCell ⟨rb, 3, none⟩ (.int .i64 last)) from
      ((((hwb.out.setCell (by have := HRB.out; simp only; omega) _).setCell (by have := HRB.out; simp only; omega) _).setCell (by have := HRB.out; simp only; omega) _).setCell (by have := HRB.out; simp only; omega) _))
    have HR4 := Lib.hid (set4 (.int .i64 0) (.int .i64 bt) (.int .i64 0) (.int .i64 last) HR3.out)
    go_wp2_with fail
    refine bodyPost_ret (v := .agg #[.int .i64 0, .int .i64 bt, .int .i64 0, .int .i64 last]) (res_sums Tryz.results61 _ _ rb rfl HR4.out) rfl ?_
    exact ⟨rfl, HF.out⟩
  · obtain ⟨p, hp⟩ : ∃ p, L[0]? = some p := ⟨_, List.getElem?_eq_getElem (by rw [HN.out]; omega)⟩
    have hz : fz = p.seq := by rw [← HFZ.out, List.head?_eq_getElem?, hp]; rfl
    rcases hrow3.2 with ⟨_, h0⟩ | ⟨g, off, cap, cur, ev, hgg, _⟩
    · omega
    simp only [Value.slice.injEq, true_and] at ev
    obtain ⟨rfl, rfl⟩ := ev
    obtain ⟨m0, m1, m2, m3, m4, m5⟩ := cells_rec hrow3 0 p hp (by omega)
    simp only [Nat.zero_mul, Nat.add_zero] at m1
    rw [← hz] at m1
    have hnz : (0 : Int) < n := by omega
    have hne : ¬ rb = sb := by omega
    have hne2 : ¬ sb = rb := by omega
    obtain ⟨w4, hw4⟩ : ∃ w4, w4 = w3.setCell ⟨sb, 2, none⟩ (.int .i64 fz) := ⟨_, rfl⟩
    have hs4 : w4.heap[sb]? = some (.cells #[.int .i64 (n : Nat), .int .i64 (bt : Nat), .int .i64 fz, .int .i64 last] 116 (0, 0)) := by rw [hw4]; exact heap_setCell_same _ _ _ _ _ _ HS3.out
    have hr4 : w4.heap[rb]? = some (.cells #[.int .i64 0, .int .i64 0, .int .i64 0, .int .i64 0] 116 (0, 0)) := by rw [hw4]; exact (heap_setCell_other _ _ _ _ hne).trans HR3.out
    have hb4 : Below w.heap.size w w4 := by rw [hw4]; exact hwb.out.setCell (by have := HRB.out; simp only; omega) _
    have HR4 := Lib.hid (set4 (.int .i64 n) (.int .i64 bt) (.int .i64 fz) (.int .i64 last) hr4)
    have HF := Lib.hid (show Below w.heap.size w ((((w4.setCell ⟨rb, 0, none⟩ (.int .i64 n)).setCell ⟨rb, 1, none⟩ (.int .i64 bt)).setCell ⟨rb, 2, none⟩ (.int .i64 fz)).setCell ⟨rb, 3, none⟩ (.int .i64 last)) from
      ((((hb4.setCell (by have := HRB.out; simp only; omega) _).setCell (by have := HRB.out; simp only; omega) _).setCell (by have := HRB.out; simp only; omega) _).setCell (by have := HRB.out; simp only; omega) _))
    have HS4 := Lib.hid hs4; have HR5 := Lib.hid hr4
    clear hrow3 hgg m0 m2 m3 m4 m5 hp hs4 hr4 hb4 hz
    go_upto_region 4 with fail
    rw [← hw4]
    obtain ⟨x0, x1, x2, x3, xf⟩ := fourS HS4.out
    obtain ⟨y0, y1, y2, y3, yf⟩ := fourS HR5.out
    have hsl4 := heap_lt HS4.out
    have hrl4 := heap_lt HR5.out
    clear hw4 m1 c0 c1 c2 c3 cf
    go_wp2_with fail
    refine bodyPost_ret (v := .agg #[.int .i64 n, .int .i64 bt, .int .i64 fz, .int .i64 last]) (res_sums Tryz.results61 _ _ rb rfl HR4.out) rfl ?_
    exact ⟨rfl, HF.out⟩
end
end
end Go.Proofs.YtbgchhgdlceceaaGreatDoor.Sto

namespace Go.Proofs.YtbgchhgdlceceaaGreatDoor.Sto
open Go.RowKit Heap
open Subj (Tok ML pieces takes StrsAt)
open Rec (Rc recErr far)
open Idx (Ents ptrV new_any)
open Shf (XAt NextX SortedE putL x_new)

/-- What a list of records leaves. -/
def runS (l : List Rc) : List Rc × Int := l.foldl (fun s r => after s.1 s.2 r) ([], 0)

theorem runS_step {l : List Rc} {k : Nat} {r : Rc} (h : l[k]? = some r) : runS (l.take (k + 1)) = after (runS (l.take k)).1 (runS (l.take k)).2 r := by
  unfold runS
  rw [List.take_add_one, h, List.foldl_append]
  rfl

section
variable {W w : World}

theorem new_store (hb : Below W.heap.size W w) : Calls Tryz.prog 12 #[] w fun e w' => e = .returned (.pointer (some ⟨w.heap.size + 1, 0, none⟩)) ∧ StoreAt W (fun k => w.heap.size ≤ k ∧ k < w.heap.size + 2) (w.heap.size + 1) 0 [] 0 w' ∧ Below w.heap.size w w' := by
  have HN := Lib.hid (new_any w)
  obtain ⟨w1, hw1⟩ : ∃ w1, w1 = w.alloc (.cells #[.string ⟨#[]⟩, .slice none 0 0, .bool false, .int .i64 0, .int .i64 0] 222) := ⟨_, rfl⟩
  have hX := x_new hb
  rw [← hw1] at hX HN
  have hsz : w1.heap.size = w.heap.size + 1 := by rw [hw1]; simp
  have hb1 : Below w.heap.size w w1 := by rw [hw1]; exact (Below.refl _ _).alloc (Nat.le_refl _) _
  have hP := Lib.hid (show StoreAt W (fun k => w.heap.size ≤ k ∧ k < w.heap.size + 2) (w.heap.size + 1) 0 [] 0 (w1.alloc (.cells #[.slice none 0 0, ptrV w.heap.size, .int .i64 0, .int .i64 0] 144)) ∧ Below w.heap.size w (w1.alloc (.cells #[.slice none 0 0, ptrV w.heap.size, .int .i64 0, .int .i64 0] 144)) from by
    have hb2 : Below w1.heap.size w1 (w1.alloc (.cells #[.slice none 0 0, ptrV w.heap.size, .int .i64 0, .int .i64 0] 144)) := (Below.refl _ _).alloc (Nat.le_refl _) _
    have hW := hb.size
    refine ⟨⟨⟨_, w.heap.size, 0, [], .slice none 0 0, ⟨hX.next hb2, by rw [← hsz]; exact heap_alloc_new w1 _, Row.nil _ _ _, by omega, by omega, fun k hk => by simp [own, Value.ownBlock] at hk⟩, ⟨List.Pairwise.nil, (fun _ h => by cases h), (fun _ h => by cases h), by simp, ⟨by omega, by unfold far; omega⟩, List.Pairwise.nil, fun s n => ⟨fun h => (by cases h), fun h => absurd rfl h.2⟩⟩, Nat.le_refl _, fun k hk => ?_⟩, ⟨by omega, by omega⟩, fun k hk => by omega, fun k hk => ?_⟩, hb1.trans (hb2.mono hb1.size)⟩
    · rcases hk with rfl | hk
      · exact ⟨Nat.le_refl _, by omega⟩
      · simp [own, Value.ownBlock] at hk
    · have : (w1.alloc (.cells #[.slice none 0 0, ptrV w.heap.size, .int .i64 0, .int .i64 0] 144)).heap.size = w1.heap.size + 1 := by simp
      omega)
  have HSZ := Lib.hid hsz
  clear hX hw1 hsz hb1
  go_enter Tryz.func12, Tryz.ntmps12
  go_wp2_with fail
  refine HN.out.mono ?_
  rintro e w' ⟨rfl, rfl⟩
  have hs := HSZ.out
  go_wp2
  go_ret
  exact ⟨by simp, hP.out⟩

end
end Go.Proofs.YtbgchhgdlceceaaGreatDoor.Sto

namespace Go.Proofs.YtbgchhgdlceceaaGreatDoor.Sto
open Go.RowKit
open Subj (Tok)
open Rec (Rc)
open Go.Maps Go.WideShapes

section
variable {H : Type} {D : DataW H} {L : List Rc}

end
end Go.Proofs.YtbgchhgdlceceaaGreatDoor.Sto

namespace Go.Proofs.YtbgchhgdlceceaaGreatDoor.Sto
open Go.RowKit Heap
open Subj (Tok ML pieces takes)
open Rec (Rc recErr far recA rcOf)
open Idx (Ents ptrV)
open Go.Maps Go.WideMaps

/-- The chest at C, in memory: a list of messages and the last number. -/
structure ChAt (W : World) (C : Nat) (v : Value) (L : List Rc) (last : Int) (w : World) : Prop where
  cell : w.heap[C]? = some (.cells #[v, .int .i64 last] 31 (0, 0))
  row : Row w 33 6 v L.length (recsV L)
  old : W.heap.size ≤ C
  mine : ∀ k, own v k → W.heap.size ≤ k ∧ k ≠ C
  below : Below W.heap.size W w

section
variable {W w w1 : World} {C : Nat} {v : Value} {L : List Rc} {last : Int} {I : Ents}

theorem ChAt.next (h : ChAt W C v L last w) (hb : Below w.heap.size w w1) : ChAt W C v L last w1 :=
  ⟨(hb.block C (heap_lt h.cell)).trans h.cell, h.row.kept fun k _ hk => hb.block k hk, h.old, h.mine, h.below.trans (hb.mono h.below.size)⟩

theorem twoC {C : Nat} {w : World} {t : TypeId} {a0 a1 : Value} (h : w.heap[C]? = some (.cells #[a0, a1] t (0, 0))) :
    w.cell? ⟨C, 0, none⟩ = some a0 ∧ w.cell? ⟨C, 1, none⟩ = some a1 ∧ ∀ j, w.frozen? ⟨C, j, none⟩ = false := by
  refine ⟨?_, ?_, fun j => frozen_of_row w C j _ _ h⟩
  · rw [cell_of_row w C 0 _ _ _ h]; rfl
  · rw [cell_of_row w C 1 _ _ _ h]; rfl

theorem take_snoc {k : Nat} {p : Rc} (h : L[k]? = some p) : L.take (k + 1) = L.take k ++ [p] := by
  rw [List.take_add_one, h]; rfl

end
end Go.Proofs.YtbgchhgdlceceaaGreatDoor.Sto

namespace Go.Proofs.YtbgchhgdlceceaaGreatDoor.Shf
open Go.RowKit Heap Idx
open Subj (Tok ML pieces)

end Go.Proofs.YtbgchhgdlceceaaGreatDoor.Shf

namespace Go.Proofs.YtbgchhgdlceceaaGreatDoor.Shf
open Go.RowKit Heap Idx
open Subj (Tok ML pieces)

structure ShelfAt (W : World) (G : Nat → Prop) (E : Nat) (L : Ents) (w : World) : Prop where
  few : L.length ≤ 100
  short : ∀ e ∈ L, e.1.length ≤ 200
  below : Below W.heap.size W w
  newG : ∀ k, G k → W.heap.size ≤ k
  bG : ∀ k, G k → k < w.heap.size
  gE : G E
  mem : ∃ v, w.heap[E]? = some (.cells #[v] 275 (0, 0)) ∧ Row w 124 2 v L.length (entV L) ∧ ∀ k, own v k → G k

/-- A shelf that has come of another one. -/
def NextS (W : World) (G : Nat → Prop) (E : Nat) (w : World) (L' : Ents) (w' : World) : Prop :=
  (∃ G', ShelfAt W G' E L' w' ∧ ∀ k, G' k → G k ∨ w.heap.size ≤ k) ∧ Heap.Touch G w w'

section
variable {W w w' : World} {G : Nat → Prop} {E : Nat} {L : Ents}

theorem ShelfAt.kept (h : ShelfAt W G E L w) (hb : Below W.heap.size W w') (hsz : w.heap.size ≤ w'.heap.size) (hs : Same G w w') : ShelfAt W G E L w' := by
  obtain ⟨v, h1, h2, h3⟩ := h.mem
  exact ⟨h.few, h.short, hb, h.newG, fun k hk => Nat.lt_of_lt_of_le (h.bG k hk) hsz, h.gE, v, (hs E h.gE (heap_lt h1)).trans h1, h2.kept (fun k hk hlt => hs k (h3 k hk) hlt), h3⟩

theorem ShelfAt.next (h : ShelfAt W G E L w) (hb : Below w.heap.size w w') : ShelfAt W G E L w' :=
  h.kept (h.below.trans (hb.mono h.below.size)) hb.size fun k _ hk => hb.block k hk

theorem NextS.refl (h : ShelfAt W G E L w) (hb : Below w.heap.size w w') : NextS W G E w L w' := ⟨⟨G, h.next hb, fun _ hk => .inl hk⟩, Heap.Touch.ofBelow hb⟩

end
end Go.Proofs.YtbgchhgdlceceaaGreatDoor.Shf
