/- Parts of the proof, joined: The reference's chest: Apply, walked. -/
import Derived.Test.YthhgfdeegnimjaaGreatDoorConsumerPlaysUptoM6
import Derived.Test.YthhgfdeegnimjaaGreatDoorConsumerPlaysUptoM18
import Derived.Test.YthhgfdeegnimjaaGreatDoorConsumerPlaysUptoM23
namespace Go.Proofs.YthhgfdeegnimjaaGreatDoor.Sto
open Go.RowKit Heap
open Subj (Tok ML pieces takes)
open Rec (Rc recErr far)
open Idx (Ents ptrV)

/-- What a list keeps when a record is erased, or purged. -/
def keepC (r x : Rc) : Bool := if r.kind = 2 then x.seq != r.seq else keepP r x

theorem left_keep {r : Rc} (h : r.kind = 2 ∨ r.kind = 3) (L : List Rc) : leftS L r = L.filter (keepC r) := by
  unfold leftS
  rcases h with h | h
  · rw [if_neg (by omega), if_pos h]
    congr 1
    funext x
    unfold keepC
    rw [if_pos h]
  · rw [if_neg (by omega), if_neg (by omega), if_pos h]
    congr 1
    funext x
    unfold keepC keepP
    rw [if_neg (by omega)]

theorem keepC_step {r p : Rc} {L : List Rc} {j : Nat} (hj : L[j]? = some p) : (L.take (j + 1)).filter (keepC r) = (L.take j).filter (keepC r) ++ if keepC r p then [p] else [] := by
  rw [List.take_add_one, hj, List.filter_append]
  simp [List.filter_cons]

/-- A chest that has come of another one. -/
def NextCh (W : World) (C : Nat) (v : Value) (w : World) (L' : List Rc) (last' : Int) (w' : World) : Prop :=
  ∃ v', ChAt W C v' L' last' w' ∧ Heap.Touch (fun k => k = C ∨ own v k) w w' ∧ ∀ k, own v' k → own v k ∨ w.heap.size ≤ k

/-- What has been kept. -/
def OutCh (bx : Nat) (w : World) (o : Value) (l : List Rc) : Prop := Row w 33 6 o l.length (recsV l) ∧ ∀ k, own o k → bx < k

section
variable {W w w1 : World} {C : Nat} {v v2 : Value} {L L2 : List Rc} {last : Int} {I : Ents}

theorem ChAt.put (h : ChAt W C v L last w) (ht : Heap.Touch (own v) w w1) (hr : Row w1 33 6 v2 L2.length (recsV L2)) (ho : ∀ k, own v2 k → own v k ∨ w.heap.size ≤ k) :
    ChAt W C v2 L2 last (w1.setCell ⟨C, 0, none⟩ v2) ∧ Heap.Touch (fun k => k = C ∨ own v k) w (w1.setCell ⟨C, 0, none⟩ v2) := by
  have hC := heap_lt h.cell
  have hc1 := (ht.block C hC fun e => (h.mine C e).2 rfl).trans h.cell
  have htt : Heap.Touch (fun k => k = C ∨ own v k) w (w1.setCell ⟨C, 0, none⟩ v2) := (ht.mono fun _ _ e => .inr e).setCell (p := ⟨C, 0, none⟩) (.inl (.inl rfl)) _
  have hm : ∀ k, own v2 k → W.heap.size ≤ k ∧ k ≠ C := fun k hk => by
    rcases ho k hk with e | e
    · exact h.mine k e
    · exact ⟨Nat.le_trans h.below.size e, by omega⟩
  refine ⟨⟨?_, ?_, h.old, hm, ?_⟩, htt⟩
  · exact heap_setCell_same _ _ _ _ _ _ hc1
  · exact hr.kept fun k hk _ => heap_setCell_other _ _ _ _ (hm k hk).2
  · exact h.below.trans (htt.below h.below.size fun k hk => by
      rcases hk with rfl | hk
      · exact h.old
      · exact (h.mine k hk).1)

theorem ChAt.setL (h : ChAt W C v L last w) (q : Int) : ChAt W C v L q (w.setCell ⟨C, 1, none⟩ (.int .i64 q)) ∧ Heap.Touch (fun k => k = C ∨ own v k) w (w.setCell ⟨C, 1, none⟩ (.int .i64 q)) := by
  have htt : Heap.Touch (fun k => k = C ∨ own v k) w (w.setCell ⟨C, 1, none⟩ (.int .i64 q)) := (Heap.Touch.refl _ w).setCell (p := ⟨C, 1, none⟩) (.inl (.inl rfl)) _
  refine ⟨⟨?_, ?_, h.old, h.mine, ?_⟩, htt⟩
  · exact heap_setCell_same _ _ _ _ _ _ h.cell
  · exact h.row.kept fun k hk _ => heap_setCell_other _ _ _ _ (h.mine k hk).2
  · exact h.below.trans (htt.below h.below.size fun k hk => by
      rcases hk with rfl | hk
      · exact h.old
      · exact (h.mine k hk).1)

set_option maxHeartbeats 8000000 in
set_option maxRecDepth 100000 in
theorem apply_ch (h : ChAt W C v L last w) (hR : Right L last I) (hds : dist L ≤ 100) (r : Rc) (hf : Fits r) :
    Calls Tryz.prog 10 #[.pointer (some ⟨C, 0, none⟩), recV r] w fun e w' => e = .returned (.int .i64 (tryD L last r : Nat)) ∧ NextCh W C v w (after L last r).1 (after L last r).2 w' := by
  obtain ⟨s, hd, d, hp⟩ := parts r
  have hrv : recV r = .agg #[.int .i64 r.kind, .int .i64 r.seq, .int .i64 r.time, .string s, .string hd, .string d] := by unfold recV; rw [hp.s1, hp.h1, hp.d1]
  obtain ⟨T, hT⟩ : ∃ T, tryD L last r = T := ⟨_, rfl⟩
  rw [hT]
  obtain ⟨n, hnL⟩ : ∃ n, L.length = n := ⟨_, rfl⟩
  have hn200 : n ≤ 200 := by rw [← hnL]; exact hR.few
  obtain ⟨w1, hw1⟩ : ∃ w1, w1 = w.alloc (.cells #[.int .i64 r.kind, .int .i64 r.seq, .int .i64 r.time, .string s, .string hd, .string d] 33) := ⟨_, rfl⟩
  have hb1 : Below w.heap.size w w1 := by rw [hw1]; exact (Below.refl _ _).alloc (Nat.le_refl _) _
  have hea : w1.heap[w.heap.size]? = some (.cells #[.int .i64 r.kind, .int .i64 r.seq, .int .i64 r.time, .string s, .string hd, .string d] 33 (0, 0)) := by rw [hw1]; exact heap_alloc_new w _
  obtain ⟨bx, hbx⟩ : ∃ bx, w.heap.size = bx := ⟨_, rfl⟩
  rw [hbx] at hea
  have hC1 := h.next hb1
  have htr := try_ch hC1 hR hds r hf
  rw [hT, hrv] at htr
  have hs1m : s.size ≤ 1048576 := by rw [hp.s3]; exact hf.s
  obtain ⟨q0, q1, q2, q3, q4, q5⟩ := sixC hea
  have hbxl := heap_lt hea
  have hCw := heap_lt h.cell
  have hcb : C ≠ bx := by omega
  have HVB := Lib.hid (show ∀ k, own v k → k < bx from fun k hk => by rw [← hbx]; exact h.row.lt k hk)
  have HTR := Lib.hid htr; have HC := Lib.hid h; have HB1 := Lib.hid hb1; have HEA := Lib.hid hea; have HBX := Lib.hid hbx; have HP := Lib.hid hp; have HR := Lib.hid hR; have HNL := Lib.hid hnL
  rw [hrv]
  by_cases hT0 : T = 0
  · subst hT0
    have haf : after L last r = (leftS L r, lastS last r) := by unfold after; rw [if_pos hT]
    rw [haf]
    obtain ⟨L2, hL2⟩ : ∃ L2, leftS L r = L2 := ⟨_, rfl⟩
    obtain ⟨l2, hl2⟩ : ∃ l2, lastS last r = l2 := ⟨_, rfl⟩
    rw [hL2, hl2]
    have HL2 := Lib.hid hL2; have Hl2 := Lib.hid hl2
    have HT := Lib.hid hT
    clear hL2 hl2
    clear h htr hC1 hb1 hea hbx hp hf hR hrv hT haf hnL hds
    obtain ⟨her, hk1, hk2⟩ := try_zero HT.out
    have hsz := Rec.recErr_sizes her
    have HER := Lib.hid her; have HK1 := Lib.hid hk1; have HK2 := Lib.hid hk2
    have hfar : far = 1099511627776 := rfl
    have hqr : 1 ≤ r.seq ∧ r.seq ≤ 1099511627776 := ⟨hsz.2.2.1, hsz.2.2.2.1⟩
    have hkr : 1 ≤ r.kind ∧ r.kind ≤ 4 := ⟨hsz.1, hsz.2.1⟩
    clear her hk1 hk2 hsz
    go_enter Tryz.func10, Tryz.ntmps10
    go_upto_region 1 with fail
    rw [← hw1, HBX.out]
    clear hw1
    go_wp2_with fail
    refine HTR.out.mono ?_
    rintro e w2 ⟨rfl, hb2⟩
    have HB2 := Lib.hid (HB1.out.trans (hb2.mono HB1.out.size))
    have HEA2 := Lib.hid ((hb2.block bx hbxl).trans HEA.out)
    have hC2 := HC.out.next HB2.out
    have HC2 := Lib.hid hC2
    obtain ⟨q0, q1, q2, q3, q4, q5⟩ := sixC HEA2.out
    have hbxl2 := heap_lt HEA2.out
    obtain ⟨c0, c1, cf⟩ := twoC hC2.cell
    have hlt := heap_lt hC2.cell
    clear hb2 hC2 HTR
    by_cases e1 : r.kind = 1
    · obtain rfl : L2 = L ++ [r] := by rw [← HL2.out]; unfold leftS; rw [if_pos e1]
      obtain rfl : l2 = r.seq := by rw [← Hl2.out]; unfold lastS; rw [if_pos e1]
      have hel : recsV [r] = [.int .i64 r.kind, .int .i64 r.seq, .int .i64 r.time, .string s, .string hd, .string d] := by
        rw [← HP.out.s1, ← HP.out.h1, ← HP.out.d1]; rfl
      rw [e1] at hel
      have HEL := Lib.hid hel; have HE1 := Lib.hid e1
      rw [e1] at q0
      obtain ⟨i0, hi, hz0, hz1, hz2⟩ := info_parts info_rec
      have hrow2 := HC2.out.row
      rw [HNL.out] at hrow2
      have HRW := Lib.hid hrow2
      have HME := Lib.hid HC2.out.mine
      clear hel e1 hrow2
      go_upto_region 6 with fail
      go_cut [] from 20 to 29 (fun wx => Hid (∃ v2, ChAt W C v2 (L ++ [r]) last wx ∧ Heap.Touch (fun k => k = C ∨ own v k) w wx ∧ (∀ k, own v2 k → own v k ∨ w.heap.size ≤ k) ∧ wx.heap[bx]? = some (.cells #[.int .i64 1, .int .i64 r.seq, .int .i64 r.time, .string s, .string hd, .string d] 33 (0, 0))))
      case first =>
        go_region_law ((refine step_append_row _ (by rfl) (.tmp 24) (.tmp 26) 25 (by rfl) 33 i0 _ 6 72 Tryz.underlying25 hi hz0 hz1 hz2 (by rfl) (by decide) _ n _ (by rfl) (HRW.out.kept (fun k _ hk => Below.heap_alloc w2.drew _ _ hk)) ⟨w2.heap.size, 0, none⟩ 1 1 [.int .i64 1, .int .i64 r.seq, .int .i64 r.time, .string s, .string hd, .string d] (by rfl) (by rfl) (news_rec w2.drew _ _ _ _ _ _ _) (by simp [Value.oneCell']) (by unfold maxLen; omega) (by omega) ?_; intro v2 w5 r5 t5 o5; obtain ⟨a2, n2, rfl⟩ := r5.slice; have hD5 := ((t5.block C (by show C < (w2.drew.alloc _).heap.size; exact Nat.lt_of_lt_of_le hlt (by simp)) (fun e => (HME.out C e).2 rfl)).trans (Below.heap_alloc w2.drew _ _ hlt)).trans HC2.out.cell; obtain ⟨y0, y1, yf⟩ := twoC hD5; have hlt5 := heap_lt hD5; have R5 := Lib.hid r5; have T5 := Lib.hid t5; have O5 := Lib.hid o5; clear r5 t5 o5 hD5))
        all_goals
          go_wp2_with fail
          go_meet
          have hbn : Below w2.heap.size w2 (w2.alloc (.cells #[.int .i64 1, .int .i64 r.seq, .int .i64 r.time, .string s, .string hd, .string d] 33)).drew := ((Below.refl _ _).alloc (Nat.le_refl _) _).drew
          have htt : Heap.Touch (own v) w _ := (Heap.Touch.ofBelow HB2.out).after ((Heap.Touch.ofBelow hbn).after T5.out)
          have ho : ∀ k, own (.slice a2 (n + 1) n2) k → own v k ∨ w.heap.size ≤ k := fun k hk => (O5.out k hk).imp id fun h => Nat.le_trans HB2.out.size (Nat.le_trans hbn.size h)
          have hput := HC.out.put htt (L2 := L ++ [r]) (v2 := .slice a2 (n + 1) n2) (by rw [List.length_append, List.length_singleton, HNL.out, recsV_append, HEL.out]; exact R5.out) ho
          have hbox := HEA2.out
          rw [HE1.out] at hbox
          refine Lib.hid ⟨_, hput.1, hput.2, ho, ?_⟩
          exact (heap_setCell_other _ _ _ _ (Ne.symm hcb)).trans ((T5.out.block bx (Nat.lt_of_lt_of_le hbxl2 hbn.size) (fun e => by have := HVB.out bx e; omega)).trans ((hbn.block bx hbxl2).trans hbox))
      case rest =>
      obtain ⟨v2, h5, t5, o5, e5⟩ := hcut.out
      obtain ⟨q0, q1, q2, q3, q4, q5⟩ := sixC e5
      obtain ⟨c0, c1, cf⟩ := twoC h5.cell
      have hlt := heap_lt h5.cell
      have hbxl5 := heap_lt e5
      have hs6 := h5.setL r.seq
      have HFIN := Lib.hid (show NextCh W C v w (L ++ [r]) r.seq (wc.setCell ⟨C, 1, none⟩ (.int .i64 r.seq)) from
        ⟨v2, hs6.1, t5.trans hs6.2 (fun k hk e => by
          rcases e with e | e
          · exact .inl e
          · rcases o5 k e with e | e
            · exact .inr e
            · omega), o5⟩)
      clear hcut h5 t5 o5 e5 hs6
      go_wp2_with fail
      go_ret
      exact ⟨rfl, HFIN.out⟩
    · by_cases e4 : r.kind = 4
      · obtain rfl : L = L2 := by rw [← HL2.out]; unfold leftS; rw [if_neg e1, if_neg (by omega), if_neg (by omega)]
        obtain rfl : l2 = max last r.seq := by rw [← Hl2.out]; unfold lastS; rw [if_neg e1, if_pos e4]
        rw [e4] at q0
        clear e1 e4
        go_upto_region 10 with fail
        have hs4 := (HC2.out.next (w1 := w2.drew) (Below.refl _ _).drew).setL (max last r.seq)
        have HFIN := Lib.hid (show NextCh W C v w L (max last r.seq) (w2.drew.setCell ⟨C, 1, none⟩ (.int .i64 (max last r.seq))) from
          ⟨v, hs4.1, (Heap.Touch.ofBelow HB2.out).after ((Heap.Touch.ofBelow (Below.refl _ _).drew).after hs4.2), fun _ e => .inl e⟩)
        clear hs4
        go_region_law (fail)
        all_goals
          go_wp2_with fail
          go_ret
          exact ⟨rfl, HFIN.out⟩
      · have hk23 : r.kind = 2 ∨ r.kind = 3 := by omega
        obtain rfl : L2 = L.filter (keepC r) := by rw [← HL2.out, left_keep hk23]
        obtain rfl : last = l2 := by rw [← Hl2.out]; unfold lastS; rw [if_neg e1, if_neg e4]
        obtain ⟨va, vc, hv⟩ := HC2.out.row.slice
        rw [HNL.out] at hv
        subst hv
        have HK23 := Lib.hid hk23
        have HTK := Lib.hid (fun x w1 hx => Subj.takesS_ref s x w1 hs1m hx)
        have HO0 := Lib.hid (show OutCh bx w2 (.slice none 0 0) ((L.take 0).filter (keepC r)) from ⟨Row.nil _ _ _, fun k hk => by simp [own, Value.ownBlock] at hk⟩)
        have bk1 : (r.kind == 1) = false := by simpa using e1
        have bk4 : (r.kind == 4) = false := by simpa using e4
        clear e1 e4 hk23
        go_wp2_with fail
        clear c0 c1 cf hlt q0 q1 q2 q3 q4 q5 bk1 bk4
        go_loopw [6, 7] (fun lv i wr => ∃ k : Nat, k ≤ n ∧ i = .int .i64 k ∧ Hid (OutCh bx wr lv ((L.take k).filter (keepC r))) ∧ Hid (Below w.heap.size w wr) ∧
          Hid (wr.heap[bx]? = some (.cells #[.int .i64 r.kind, .int .i64 r.seq, .int .i64 r.time, .string s, .string hd, .string d] 33 (0, 0)))) (fun _ i _ => n - (intOf i).toNat)
        case atStart => exact ⟨0, Nat.zero_le _, rfl, HO0, HB2, HEA2⟩
        case round =>
          obtain ⟨k, hk, rfl, HO, HB, HE⟩ := hrel
          clear HO0 HB2 HEA2 hbxl2 HC2
          have HCr := Lib.hid (HC.out.next HB.out)
          obtain ⟨c0, c1, cf⟩ := twoC HCr.out.cell
          have hlt := heap_lt HCr.out.cell
          obtain ⟨q0, q1, q2, q3, q4, q5⟩ := sixC HE.out
          have hbxl := heap_lt HE.out
          obtain ⟨nn, hnn⟩ : ∃ nn, ((L.take k).filter (keepC r)).length = nn := ⟨_, rfl⟩
          have HNN := Lib.hid hnn
          have hnnk : nn ≤ k := by rw [← hnn]; refine Nat.le_trans (List.length_filter_le _ _) ?_; rw [List.length_take]; omega
          obtain ⟨la, lc, hlv⟩ := HO.out.1.slice
          rw [hnn] at hlv
          subst hlv
          clear hnn
          by_cases hlt2 : k < n
          · have hltz : (k : Int) < n := by omega
            obtain ⟨p, hpk⟩ : ∃ p, L[k]? = some p := ⟨_, List.getElem?_eq_getElem (by rw [HNL.out]; exact hlt2)⟩
            rcases HCr.out.row.2 with ⟨_, h0⟩ | ⟨g, off, cap, cur, ev, hg, _⟩
            · rw [HNL.out] at h0; omega
            rw [HNL.out] at ev
            simp only [Value.slice.injEq, true_and] at ev
            obtain ⟨rfl, rfl⟩ := ev
            have hrow := HCr.out.row
            rw [HNL.out] at hrow
            obtain ⟨m0, m1, m2, m3, m4, m5⟩ := cells_rec hrow k p hpk hlt2
            obtain ⟨sp, hdp, dp, hpp⟩ := parts p
            rw [hpp.s1] at m3
            rw [hpp.h1] at m4
            rw [hpp.d1] at m5
            have hgp := HR.out.good p (List.mem_of_getElem? hpk)
            have hspl : sp.size ≤ 1048576 := by rw [hpp.s3]; have := (good_parts hgp.1 hgp.2).2.1; omega
            have htk := fun w1 => HTK.out sp w1 hspl
            rw [HP.out.s2, hpp.s2] at htk
            obtain ⟨B, hB⟩ : ∃ B, keepC r p = B := ⟨_, rfl⟩
            have hst := keepC_step (r := r) hpk
            rw [hB] at hst
            have help : recsV [p] = [.int .i64 p.kind, .int .i64 p.seq, .int .i64 p.time, .string sp, .string hdp, .string dp] := by
              rw [← hpp.s1, ← hpp.h1, ← hpp.d1]; rfl
            obtain ⟨wb, hwb⟩ : ∃ wb, wb = wr.alloc (.cells #[.int .i64 p.kind, .int .i64 p.seq, .int .i64 p.time, .string sp, .string hdp, .string dp] 33) := ⟨_, rfl⟩
            have hbb : Below wr.heap.size wr wb := by rw [hwb]; exact (Below.refl _ _).alloc (Nat.le_refl _) _
            have heb : wb.heap[wr.heap.size]? = some (.cells #[.int .i64 p.kind, .int .i64 p.seq, .int .i64 p.time, .string sp, .string hdp, .string dp] 33 (0, 0)) := by rw [hwb]; exact heap_alloc_new wr _
            obtain ⟨by_, hby⟩ : ∃ by_, wr.heap.size = by_ := ⟨_, rfl⟩
            rw [hby] at heb
            have HTK1 := Lib.hid htk; have HBK := Lib.hid hB; have HST := Lib.hid hst; have HEP := Lib.hid help; have HBB := Lib.hid hbb; have HEB := Lib.hid heb; have HBY := Lib.hid hby
            have HBw := Lib.hid (HB.out.trans (hbb.mono HB.out.size))
            have HEx := Lib.hid ((hbb.block bx hbxl).trans HE.out)
            clear hpk hgp hrow hpp htk hB hst help hbb heb hby hg
            go_upto_region 17 with fail
            rw [← hwb, HBY.out]
            clear hwb m0 m1 m2 m3 m4 m5 c0 c1 cf hlt q0 q1 q2 q3 q4 q5 hbxl
            obtain ⟨q0, q1, q2, q3, q4, q5⟩ := sixC HEx.out
            obtain ⟨b0, b1, b2, b3, b4, b5⟩ := sixC HEB.out
            go_cut [9] from 63 to 91 (fun s9 wx => s9 = .bool (!B) ∧ Hid (Below wb.heap.size wb wx))
            case first =>
              rcases HK23.out with e2 | e3
              · rw [e2] at q0
                have hkb := HBK.out
                unfold keepC at hkb
                rw [if_pos e2] at hkb
                by_cases hpq : p.seq = r.seq
                · obtain rfl : B = false := by rw [← hkb]; simp [hpq]
                  clear e2 hkb
                  go_wp2_with fail
                  go_meet
                  exact ⟨by simp, Lib.hid (Below.refl _ _)⟩
                · obtain rfl : B = true := by rw [← hkb]; simp [hpq]
                  clear e2 hkb
                  go_wp2_with fail
                  go_meet
                  exact ⟨by simp [hpq], Lib.hid (Below.refl _ _)⟩
              · rw [e3] at q0
                have hkb := HBK.out
                unfold keepC keepP at hkb
                rw [if_neg (by omega)] at hkb
                obtain ⟨tb, htb⟩ : ∃ tb, takes (pieces r.subj) (pieces p.subj) = tb := ⟨_, rfl⟩
                rw [htb] at hkb HTK1
                by_cases hpq : p.seq < r.seq
                · obtain rfl : B = !tb := by rw [← hkb]; simp [hpq]
                  clear e3 hkb htb
                  go_wp2_with fail
                  refine (HTK1.out _).mono ?_
                  rintro e wc ⟨rfl, hbc⟩
                  have HBC := Lib.hid hbc
                  clear hbc
                  go_wp2_with fail
                  go_meet
                  exact ⟨by simp, HBC⟩
                · obtain rfl : B = true := by rw [← hkb]; simp [hpq]
                  have hpq2 : r.seq ≤ p.seq := by omega
                  clear e3 hkb htb
                  go_wp2_with fail
                  go_meet
                  exact ⟨by simp, Lib.hid (Below.refl _ _)⟩
            case rest =>
            obtain ⟨rfl, hbc⟩ := hcut
            have HBc := Lib.hid (HBw.out.trans (hbc.out.mono HBw.out.size))
            have HEc := Lib.hid ((hbc.out.block bx (heap_lt HEx.out)).trans HEx.out)
            have HEBc := Lib.hid ((hbc.out.block by_ (heap_lt HEB.out)).trans HEB.out)
            have hbr : Below wr.heap.size wr wc := HBB.out.trans (hbc.out.mono HBB.out.size)
            have HOc := Lib.hid (show OutCh bx wc (.slice la nn lc) ((L.take k).filter (keepC r)) from ⟨HO.out.1.kept fun k _ hk => hbr.block k hk, HO.out.2⟩)
            clear hbc hbr HBw HEx HEB HO HBB HB HE HTK1 HCr q0 q1 q2 q3 q4 q5 b0 b1 b2 b3 b4 b5
            cases B with
            | false =>
              have HOf := Lib.hid (show OutCh bx wc (.slice la nn lc) ((L.take (k + 1)).filter (keepC r)) from by rw [HST.out]; simpa using HOc.out)
              go_wp2_with fail
              exact ⟨⟨k + 1, by omega, by go_num, HOf, HBc, HEc⟩, by simp [intOf]; omega⟩
            | true =>
              obtain ⟨b0, b1, b2, b3, b4, b5⟩ := sixC HEBc.out
              have hrow := HOc.out.1
              rw [HNN.out] at hrow
              have HRW := Lib.hid hrow
              obtain ⟨i0, hi, hz0, hz1, hz2⟩ := info_parts info_rec
              clear hrow
              go_wp2_with (at_builtin; refine Heap.wpList_append_row _ rfl (.tmp 94) (.tmp 96) 25 rfl 33 i0 _ 6 72 Tryz.underlying25 hi hz0 hz1 hz2 rfl (by decide) _ nn _ rfl (HRW.out.kept (fun k _ hk => Below.heap_alloc wc _ _ hk)) ⟨wc.heap.size, 0, none⟩ 1 1 [.int .i64 p.kind, .int .i64 p.seq, .int .i64 p.time, .string sp, .string hdp, .string dp] rfl rfl (news_rec wc _ _ _ _ _ _ _) (by simp [Value.oneCell']) (by unfold maxLen; omega) (by omega) ?_)
              intro v2 w5 r5 t5 o5
              have hbz := HBc.out.size
              have hxl := heap_lt HEc.out
              have hal : Below wc.heap.size wc (wc.alloc (.cells #[.int .i64 p.kind, .int .i64 p.seq, .int .i64 p.time, .string sp, .string hdp, .string dp] 33)) := (Below.refl _ _).alloc (Nat.le_refl _) _
              have HO5 := Lib.hid (show OutCh bx w5 v2 ((L.take (k + 1)).filter (keepC r)) from by
                rw [HST.out]
                refine ⟨?_, fun k hk => ?_⟩
                · simp only [if_true]
                  rw [List.length_append, List.length_singleton, HNN.out, recsV_append, HEP.out]
                  exact r5
                · rcases o5 k hk with h | h
                  · exact HOc.out.2 k h
                  · have := hal.size; omega)
              have HB5 := Lib.hid ((HBc.out.trans (hal.mono hbz)).trans (t5.below (Nat.le_trans hbz hal.size) fun k hk => by have := HOc.out.2 k hk; have := HBX.out; omega))
              have HE5 := Lib.hid ((t5.block bx (Nat.lt_of_lt_of_le hxl hal.size) (fun e => by have := HOc.out.2 bx e; omega)).trans ((hal.block bx hxl).trans HEc.out))
              clear r5 t5 o5 hal hbz hxl b0 b1 b2 b3 b4 b5
              go_wp2_with fail
              exact ⟨⟨k + 1, by omega, by go_num, HO5, HB5, HE5⟩, by simp [intOf]; omega⟩
          · have hltz : ¬ (k : Int) < n := by omega
            obtain rfl : k = n := by omega
            have hfull : L.take k = L := List.take_of_length_le (by rw [HNL.out]; exact Nat.le_refl _)
            rw [hfull] at HO HNN
            have hput := HC.out.put (L2 := L.filter (keepC r)) (v2 := .slice la nn lc) (Heap.Touch.ofBelow HB.out) HO.out.1 (fun j hj => .inr (by have := HO.out.2 j hj; have := HBX.out; omega))
            have HFIN := Lib.hid (show NextCh W C (.slice va k vc) w (L.filter (keepC r)) last (wr.setCell ⟨C, 0, none⟩ (.slice la nn lc)) from
              ⟨_, hput.1, hput.2, fun j hj => .inr (by have := HO.out.2 j hj; have := HBX.out; omega)⟩)
            clear hput hfull
            go_wp2_with fail
            go_ret
            exact ⟨rfl, HFIN.out⟩
  · have haf : after L last r = (L, last) := by unfold after; rw [if_neg (by rw [hT]; exact hT0)]
    rw [haf]
    have he0 : ((T : Int) != 0) = true := by simpa using hT0
    clear h htr hC1 hb1 hea hbx hp hf hR hrv hT haf hT0 hnL hds
    go_enter Tryz.func10, Tryz.ntmps10
    go_upto_region 1 with fail
    rw [← hw1, HBX.out]
    clear hw1
    go_wp2_with fail
    refine HTR.out.mono ?_
    rintro e w2 ⟨rfl, hb2⟩
    have hbb := HB1.out.trans (hb2.mono HB1.out.size)
    have HFIN := Lib.hid (show NextCh W C v w L last w2 from ⟨v, HC.out.next hbb, Heap.Touch.ofBelow hbb, fun _ e => .inl e⟩)
    clear hb2 hbb
    go_wp2_with fail
    go_ret
    exact ⟨rfl, HFIN.out⟩
end
end Go.Proofs.YthhgfdeegnimjaaGreatDoor.Sto
