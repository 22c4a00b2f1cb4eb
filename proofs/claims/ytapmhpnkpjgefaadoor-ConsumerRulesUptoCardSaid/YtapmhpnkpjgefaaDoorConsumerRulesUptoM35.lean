/- Parts of the proof, joined: (*watch).delivered, walked. -/
import Derived.Test.YtapmhpnkpjgefaaDoorConsumerRulesUptoM3
import Derived.Test.YtapmhpnkpjgefaaDoorConsumerRulesUptoM27
import Derived.Test.YtapmhpnkpjgefaaDoorConsumerRulesUptoM28
import Derived.Test.YtapmhpnkpjgefaaDoorConsumerRulesUptoM34
import Derived.StillTailTactics
import Derived.Deep.RegionWith
import Derived.Deep.QuietTactic
import Derived.BigQuiet
import Derived.Deep.RegionHeld3
namespace Go.Proofs.YtapmhpnkpjgefaaDoor.Con
open Go.RowKit Go.Maps Heap
open Subj (Tok TakerP ML isB matchR Ints)
open Sto (StoreAt getQ seekR recV parts sixC below6 get_any GetPost)
open Rec (Rc far)

theorem fiveC {B : Nat} {w : World} {t : TypeId} {a0 a1 a2 a3 a4 : Value} (h : w.heap[B]? = some (.cells #[a0, a1, a2, a3, a4] t (0, 0))) :
    w.cell? ⟨B, 0, none⟩ = some a0 ∧ w.cell? ⟨B, 1, none⟩ = some a1 ∧ w.cell? ⟨B, 2, none⟩ = some a2 ∧ w.cell? ⟨B, 3, none⟩ = some a3 ∧ w.cell? ⟨B, 4, none⟩ = some a4 ∧ ∀ j, w.frozen? ⟨B, j, none⟩ = false := by
  refine ⟨?_, ?_, ?_, ?_, ?_, fun j => frozen_of_row w B j _ _ h⟩
  · rw [cell_of_row w B 0 _ _ _ h]; rfl
  · rw [cell_of_row w B 1 _ _ _ h]; rfl
  · rw [cell_of_row w B 2 _ _ _ h]; rfl
  · rw [cell_of_row w B 3 _ _ _ h]; rfl
  · rw [cell_of_row w B 4 _ _ _ h]; rfl

theorem tenT {bx : Nat} {a0 a1 a2 a3 a4 a5 a6 a7 a8 a9 : Value} {t : TypeId} {w : World} (h : w.heap[bx]? = some (.cells #[a0, a1, a2, a3, a4, a5, a6, a7, a8, a9] t (0, 0))) :
    w.cell? ⟨bx, 1, none⟩ = some a1 ∧ w.cell? ⟨bx, 4, none⟩ = some a4 ∧ w.cell? ⟨bx, 7, none⟩ = some a7 := by
  refine ⟨?_, ?_, ?_⟩
  · rw [cell_of_row w bx 1 _ _ _ h]; rfl
  · rw [cell_of_row w bx 4 _ _ _ h]; rfl
  · rw [cell_of_row w bx 7 _ _ _ h]; rfl

section
variable {W0 w : World} {F : Nat → Prop} {D Bn B md mn mo N n : Nat} {L : List Rc} {last : Int} {t : TakerP} {vb : Value} {W : Wt}

set_option maxHeartbeats 8000000 in
set_option maxRecDepth 100000 in
theorem delivered_any (hA : StoreAt W0 F D Bn L last w) (hm : ML W0) (hW : WAt B md mn mo N n W w) (hFo : ∀ k, OwnW B md mn mo k → W0.heap.size ≤ k ∧ ¬ F k ∧ ¬ own vb k) (hB : Ints w vb t.back) (hbl : t.back.length ≤ 1048576) (hfl : t.filt.length ≤ 1048576) (hN : N ≤ 1000000) (hn : n ≤ 1000000) (d : Dl) (now : Int)
    (hd : Told t L now d W) (hmr : isB (matchR t.filt d.subj) = true) (hsl : d.subj.length ≤ 1048576) (hq : 0 ≤ d.seq ∧ d.seq ≤ far) (hnw : 0 ≤ now ∧ now ≤ far) (hc : 0 ≤ W.count ∧ W.count ≤ 1000) (hnth : 1 ≤ d.nth ∧ d.nth ≤ 1000) (hwt : 0 ≤ waitT t d.nth ∧ waitT t d.nth ≤ 100000) :
    Calls Tryd.prog 9 #[.pointer (some ⟨B, 0, none⟩), takerV t vb, .pointer (some ⟨D, 0, none⟩), delV d, .int .i64 now] w fun e w' => e = .returned (.bool true) ∧ WAt B md mn mo (N + 1) (n + 1) (delW t now d W) w' ∧ Heap.Touch (OwnW B md mn mo) w w' := by
  obtain ⟨x, hg, hxs, hxd⟩ := hd.there
  obtain ⟨tn, htn⟩ : ∃ S : ByteArray, (⟨t.name.toArray⟩ : ByteArray) = S := ⟨_, rfl⟩
  obtain ⟨tf, htf⟩ : ∃ S : ByteArray, (⟨t.filt.toArray⟩ : ByteArray) = S := ⟨_, rfl⟩
  obtain ⟨ds, hds⟩ : ∃ S : ByteArray, (⟨d.subj.toArray⟩ : ByteArray) = S := ⟨_, rfl⟩
  obtain ⟨dd, hdd⟩ : ∃ S : ByteArray, (⟨d.data.toArray⟩ : ByteArray) = S := ⟨_, rfl⟩
  obtain ⟨xh, hxh⟩ : ∃ S : ByteArray, (⟨x.head.toArray⟩ : ByteArray) = S := ⟨_, rfl⟩
  -- the three boxes
  obtain ⟨w1, hw1⟩ : ∃ w1, w1 = (w.alloc (.cells #[.string tn, .string tf, .int .i64 t.src, .int .i64 t.start, .int .i64 t.ack, .int .i64 t.wait, vb, .int .i64 t.most, .int .i64 t.pend, .bool t.push] 24)).alloc (.cells #[.int .i64 d.seq, .string ds, .string dd, .int .i64 (W.count + 1), .int .i64 (W.nth d.seq + 1), .int .i64 d.left] 49) := ⟨_, rfl⟩
  have hb1 : Below w.heap.size w w1 := by rw [hw1]; exact ((Below.refl _ _).alloc (Nat.le_refl _) _).alloc (by simp) _
  have he1 : w1.heap[w.heap.size]? = some (.cells #[.string tn, .string tf, .int .i64 t.src, .int .i64 t.start, .int .i64 t.ack, .int .i64 t.wait, vb, .int .i64 t.most, .int .i64 t.pend, .bool t.push] 24 (0, 0)) := by
    rw [hw1, Below.heap_alloc _ _ _ (by simp)]; exact heap_alloc_new w _
  have he2 : w1.heap[w.heap.size + 1]? = some (.cells #[.int .i64 d.seq, .string ds, .string dd, .int .i64 (W.count + 1), .int .i64 (W.nth d.seq + 1), .int .i64 d.left] 49 (0, 0)) := by
    rw [hw1]; have := heap_alloc_new (w.alloc (.cells #[.string tn, .string tf, .int .i64 t.src, .int .i64 t.start, .int .i64 t.ack, .int .i64 t.wait, vb, .int .i64 t.most, .int .i64 t.pend, .bool t.push] 24)) (.cells #[.int .i64 d.seq, .string ds, .string dd, .int .i64 (W.count + 1), .int .i64 (W.nth d.seq + 1), .int .i64 d.left] 49)
    simpa using this
  obtain ⟨bt, hbt⟩ : ∃ bt, w.heap.size = bt := ⟨_, rfl⟩
  rw [hbt] at he1 he2
  have hW1 := hW.next hb1
  obtain ⟨c0, c1, c2, c3, c4, cf⟩ := fiveC hW1.cells
  have hBlt := heap_lt hW1.cells
  have hBw := heap_lt hW.cells
  obtain ⟨w2, hw2⟩ : ∃ w2, w2 = w1.setCell ⟨B, 4, none⟩ (.int .i64 (W.count + 1)) := ⟨_, rfl⟩
  have ht2 : Heap.Touch (fun k => k = B) w1 w2 := by rw [hw2]; exact Heap.Touch.setCell (F := fun k => k = B) (p := ⟨B, 4, none⟩) (Heap.Touch.refl _ w1) (.inl rfl) _
  have hW2 : WAt B md mn mo N n { W with count := W.count + 1 } w2 := hW1.cell ht2 (by rw [hw2, heap_setCell_same _ _ _ _ _ _ hW1.cells]; rfl)
  have hoB := hFo B (.inl rfl)
  have hA2 : StoreAt W0 F D Bn L last w2 := (hA.next hb1).kept ((hA.next hb1).below.trans (ht2.below (hA.next hb1).below.size fun k e => by rw [e]; exact hoB.1)) ht2.size (ht2.same fun k hk e => hoB.2.1 (by rw [← e]; exact hk))
  have hB2 : Ints w2 vb t.back := Ints.touch (hB.below hb1) ht2 fun k hk e => hoB.2.2 (by rw [← e]; exact hk)
  obtain ⟨gd, hgd⟩ := hW.due
  have HLTS := Lib.hid (show B < bt ∧ md < bt ∧ mn < bt from by rw [← hbt]; exact ⟨heap_lt hW.cells, hgd.lt, hW.nth.lt⟩)
  have HWN := Lib.hid hFo
  have HB02 := Lib.hid hA2.below; have HI2 := Lib.hid hB2; have HML := Lib.hid hm
  have HTF := Lib.hid (show tf.data.toList = t.filt by rw [← htf]); have HDSS := Lib.hid (show ds.data.toList = d.subj by rw [← hds])
  have HSZ := Lib.hid (show tf.size ≤ 1048576 ∧ ds.size ≤ 1048576 from ⟨by rw [← htf]; show t.filt.toArray.size ≤ _; simpa using hfl, by rw [← hds]; show d.subj.toArray.size ≤ _; simpa using hsl⟩)
  have hget := get_any hA2 d.seq (by unfold far at hq; omega)
  rw [hg] at hget
  have e2a : w2.heap[bt]? = _ := (ht2.block bt (heap_lt he1) (by omega)).trans he1
  have e2b : w2.heap[bt + 1]? = _ := (ht2.block (bt + 1) (heap_lt he2) (by omega)).trans he2
  have hdv : delV d = .agg #[.int .i64 d.seq, .string ds, .string dd, .int .i64 (W.count + 1), .int .i64 (W.nth d.seq + 1), .int .i64 d.left] := by unfold delV; rw [hds, hdd, hd.count, hd.nth]
  have htv : takerV t vb = .agg #[.string tn, .string tf, .int .i64 t.src, .int .i64 t.start, .int .i64 t.ack, .int .i64 t.wait, vb, .int .i64 t.most, .int .i64 t.pend, .bool t.push] := by unfold takerV; rw [htn, htf]
  have hrv : recV x = .agg #[.int .i64 x.kind, .int .i64 x.seq, .int .i64 x.time, .string ds, .string xh, .string dd] := by unfold recV; rw [hxs, hxd, hds, hdd, hxh]
  rw [hdv, htv]
  have g1 : w2.cell? ⟨bt + 1, 0, none⟩ = some (.int .i64 d.seq) := (sixC e2b).1
  have HGET := Lib.hid hget; have HW2 := Lib.hid hW2; have HE2A := Lib.hid e2a; have HE2B := Lib.hid e2b; have HRV := Lib.hid hrv; have HD := Lib.hid hd; have HBT := Lib.hid hbt; have HB1 := Lib.hid hb1; have HT2 := Lib.hid ht2
  have HTV := Lib.hid htv; have HNTH := Lib.hid hd.nth
  clear hget hW2 e2a e2b hrv hd hbt hb1 ht2 hA2 hW1 hW hA hg hdv htv he1 he2 htn htf hds hdd hxh hB2 hB hFo hoB hgd hm
  go_enter Tryd.func9, Tryd.ntmps9
  go_upto_region 1 with fail
  rw [← hw1, HBT.out]
  clear hw1
  go_upto_region 2 with fail
  rw [← hw2]
  clear hw2 c0 c1 c2 c3 c4 cf
  go_wp2_with fail
  refine HGET.out.mono ?_
  rintro e w3 ⟨rfl, hb3⟩
  have hsk : recV (seekR 0 (some x)).1 = _ := HRV.out
  rw [show ((seekR 0 (some x)).2 : Nat) = 0 from rfl, hsk]
  obtain ⟨w4, hw4⟩ : ∃ w4, w4 = w3.alloc (.cells #[.int .i64 x.kind, .int .i64 x.seq, .int .i64 x.time, .string ds, .string xh, .string dd] 42) := ⟨_, rfl⟩
  obtain ⟨br, hbr⟩ : ∃ br, w3.heap.size = br := ⟨_, rfl⟩
  have hb34 : Below w3.heap.size w3 w4 := by rw [hw4]; exact (Below.refl _ _).alloc (Nat.le_refl _) _
  have hb4 : Below w2.heap.size w2 w4 := hb3.trans (hb34.mono hb3.size)
  have he4 : w4.heap[br]? = some (.cells #[.int .i64 x.kind, .int .i64 x.seq, .int .i64 x.time, .string ds, .string xh, .string dd] 42 (0, 0)) := by rw [hw4, ← hbr]; exact heap_alloc_new w3 _
  have HFACT := Lib.hid (show ∀ w', Below w4.heap.size w4 w' → WAt B md mn mo N n { W with count := W.count + 1 } w' ∧ w'.heap[bt]? = some (.cells #[.string tn, .string tf, .int .i64 t.src, .int .i64 t.start, .int .i64 t.ack, .int .i64 t.wait, vb, .int .i64 t.most, .int .i64 t.pend, .bool t.push] 24 (0, 0)) ∧ w'.heap[bt + 1]? = some (.cells #[.int .i64 d.seq, .string ds, .string dd, .int .i64 (W.count + 1), .int .i64 (W.nth d.seq + 1), .int .i64 d.left] 49 (0, 0)) ∧ w'.heap[br]? = some (.cells #[.int .i64 x.kind, .int .i64 x.seq, .int .i64 x.time, .string ds, .string xh, .string dd] 42 (0, 0)) from fun w' hb => by
    have h24 := hb4.trans (hb.mono hb4.size)
    exact ⟨HW2.out.next h24, (h24.block bt (heap_lt HE2A.out)).trans HE2A.out, (h24.block (bt + 1) (heap_lt HE2B.out)).trans HE2B.out, (hb.block br (heap_lt he4)).trans he4⟩)
  have HBR := Lib.hid hbr
  clear hb34 hb3 hbr he4 HGET
  go_upto_region 3 with fail
  rw [← hw4, HBR.out]
  clear hw4 g1
  obtain ⟨f1, f2, f3, f4⟩ := HFACT.out w4 (Below.refl _ _)
  obtain ⟨c0, c1, c2, c3, c4, cf⟩ := fiveC f1.cells
  obtain ⟨k1, k4, k7⟩ := tenT f2
  obtain ⟨q0, q1, q2, q3, q4, q5⟩ := sixC f3
  obtain ⟨y0, y1, y2, y3, y4, y5⟩ := sixC f4
  have l1 := f1.done.look (k := d.seq) (by unfold far at hq; omega)
  have HIS : Hid (∀ w', Below w4.heap.size w4 w' → Calls Tryd.prog 24 #[.func (.func 25) #[] #[], .string tf, .string ds] w' fun e w'' => e = .returned (.bool true) ∧ Below w'.heap.size w' w'') := Lib.hid fun w' hb => by
    have h1 := Subj.is_match tf ds w' HSZ.out.1 HSZ.out.2 (HML.out.below ((HB02.out.trans (hb4.mono HB02.out.size)).trans (hb.mono (Nat.le_trans HB02.out.size hb4.size))))
    rw [HTF.out, HDSS.out, hmr] at h1
    exact h1
  rw [show W.done d.seq = false from HD.out.done] at l1
  have HP := Lib.hid (show ∀ w', Below w4.heap.size w4 w' → w'.cell? ⟨br, 3, none⟩ = some (.string ds) ∧ w'.cell? ⟨br, 5, none⟩ = some (.string dd) ∧ w'.cell? ⟨bt + 1, 0, none⟩ = some (.int .i64 d.seq) ∧ w'.cell? ⟨bt + 1, 1, none⟩ = some (.string ds) ∧ w'.cell? ⟨bt + 1, 2, none⟩ = some (.string dd) ∧ w'.cell? ⟨bt + 1, 3, none⟩ = some (.int .i64 (W.count + 1)) ∧ w'.cell? ⟨bt, 1, none⟩ = some (.string tf) ∧ w'.cell? ⟨B, 2, none⟩ = some (.map (some mo)) ∧ w'.cell? ⟨B, 4, none⟩ = some (.int .i64 (W.count + 1)) ∧ (Instr.lookup 36 (.map (some mo)) (.int .i64 d.seq) false).run Tryd.prog w' = .ok (.bool false) w' from fun w' hb => by
    obtain ⟨u1, u2, u3, u4⟩ := HFACT.out w' hb
    have l5 := u1.done.look (k := d.seq) (by unfold far at hq; omega)
    rw [show W.done d.seq = false from HD.out.done] at l5
    obtain ⟨v0, v1, v2, v3, v4, vf⟩ := fiveC u1.cells
    obtain ⟨r0, r1, r2, r3, r4, r5⟩ := sixC u3
    obtain ⟨z0, z1, z2, z3, z4, z5⟩ := sixC u4
    exact ⟨z3, z5, r0, r1, r2, r3, (tenT u2).1, v2, v4, l5⟩)
  have hbd : Below w4.heap.size w4 w4.drew := (Below.refl _ _).drew
  clear f1 f2 f3 f4 c0 c1 c2 c3 c4 cf k1 k4 k7 q0 q1 q2 q3 q4 q5 y0 y1 y2 y3 y4 y5 l1
  go_region_held3 (fun w' => w'.cell? ⟨br, 3, none⟩ = some (.string ds) ∧ w'.cell? ⟨br, 5, none⟩ = some (.string dd) ∧ w'.cell? ⟨bt + 1, 0, none⟩ = some (.int .i64 d.seq) ∧ w'.cell? ⟨bt + 1, 1, none⟩ = some (.string ds) ∧ w'.cell? ⟨bt + 1, 2, none⟩ = some (.string dd) ∧ w'.cell? ⟨bt + 1, 3, none⟩ = some (.int .i64 (W.count + 1)) ∧ w'.cell? ⟨bt, 1, none⟩ = some (.string tf) ∧ w'.cell? ⟨B, 2, none⟩ = some (.map (some mo)) ∧ w'.cell? ⟨B, 4, none⟩ = some (.int .i64 (W.count + 1)) ∧ (Instr.lookup 36 (.map (some mo)) (.int .i64 d.seq) false).run Tryd.prog w' = .ok (.bool false) w') (first | (with_reducible exact HP.out _ hbd) | (with_reducible exact HP.out _ (Below.refl _ _)) | (with_reducible exact HP.out _ (by assumption)) | go_keep)
    (first
      | (go_at_call 24; ((refine (HIS.out _ hbd).mono ?_); rintro e w5 ⟨rfl, h2⟩; have hb5 : Below w4.heap.size w4 w5 := hbd.trans (h2.mono hbd.size); clear h2)))
  obtain ⟨f1, f2, f3, f4⟩ := HFACT.out w5 hb5
  obtain ⟨c0, c1, c2, c3, c4, cf⟩ := fiveC f1.cells
  obtain ⟨q0, q1, q2, q3, q4, q5⟩ := sixC f3
  have l5 := f1.nth.look (k := d.seq) (by unfold far at hq; omega)
  have l5d := (f1.next ((Below.refl _ _).drew)).nth.look (k := d.seq) (by unfold far at hq; omega)
  have hnn : d.nth = W.nth d.seq + 1 := HD.out.nth
  obtain ⟨w6, hr6, hW6, ht6⟩ := (f1.next ((Below.refl _ _).drew)).putNth (by unfold maxLen; omega) (k := d.seq) (by unfold far at hq; omega) (x := W.nth d.seq + 1) (by omega)
  have hlt5 := heap_lt f2
  have hlt5b := heap_lt f3
  have e6a : w6.heap[bt]? = _ := (ht6.block bt hlt5 (by have := HLTS.out; omega)).trans f2
  have e6b : w6.heap[bt + 1]? = _ := (ht6.block (bt + 1) hlt5b (by have := HLTS.out; omega)).trans f3
  have HF5 := Lib.hid (And.intro f1 (And.intro f2 f3)); have HW6 := Lib.hid hW6; have HT6 := Lib.hid ht6; have HE6A := Lib.hid e6a; have HE6B := Lib.hid e6b
  simp only at l5 l5d hr6
  generalize hz : W.nth d.seq = z at *
  have HZ := Lib.hid hz
  have wz : IntKind.i64.wrap (z + 1) = z + 1 := IntWalk.i64_in _ (by omega)
  clear f1 f2 f3 f4 hW6 ht6 hz HP HIS e6a e6b
  go_wp2_with fail
  go_still_tail 8, (by kernel_rfl)
  change wpList _ _ _ _ _ w5.drew
  obtain ⟨b0, b1, b2, b3, b4, bf⟩ := fiveC HW6.out.cells
  obtain ⟨k1, k4, k7⟩ := tenT HE6A.out
  obtain ⟨y0, y1, y2, y3, y4, y5⟩ := sixC HE6B.out
  have l6 := HW6.out.nth.look (k := d.seq) (by unfold far at hq; omega)
  have l6d := (HW6.out.next ((Below.refl _ _).drew)).nth.look (k := d.seq) (by unfold far at hq; omega)
  simp only at l6 l6d
  rw [show upd W.nth d.seq (z + 1) d.seq = z + 1 by unfold upd; rw [if_pos rfl]] at l6 l6d
  have hmo : t.most ≤ 0 ∨ (0 < t.most ∧ ¬ t.most < z + 1) := by
    have := HD.out.most
    rw [hnn] at this
    omega
  clear c0 c1 c2 c3 c4 cf q0 q1 q2 q3 q4 q5 l5 l5d
  go_upto_region 6 with fail
  clear hr6
  go_cut [98] from 77 to 98 (fun s98 wx => s98 = .bool false ∧ Hid (Below w6.heap.size w6 wx))
  case first =>
    rcases hmo with hmo | ⟨hmo, hmo2⟩
    · skip
      have hmo1 : decide (0 < t.most) = false := decide_eq_false (by omega)
      refine wp_region_held_drew (S := (fun w' => w'.cell? ⟨bt + 1, 0, none⟩ = some (.int .i64 d.seq) ∧ w'.cell? ⟨bt + 1, 4, none⟩ = some (.int .i64 (z + 1)) ∧ w'.cell? ⟨bt, 7, none⟩ = some (.int .i64 t.most) ∧ w'.cell? ⟨B, 1, none⟩ = some (.map (some mn)) ∧ (Instr.lookup 35 (.map (some mn)) (.int .i64 d.seq) false).run Tryd.prog w' = .ok (.int .i64 (z + 1)) w')) (by kernel_rfl) ⟨y0, y4, k7, b1, l6d⟩ (fun hHeld => ?_)
      refine wpAnyH_take (i := 0) (v := ?_) rfl (by kernel_rfl) (by kernel_rfl) (by kernel_rfl) (fun _ _ _ h => h) (Or.inl ⟨by rfl, ?_⟩) (by assumption) ?_
      rotate_left
      · intro w hSw; (try dsimp only at hSw); first | (go_simp; done) | (go_simp; with_reducible rfl)
      (try simp only [Act.put, List.getElem_toArray, List.getElem_cons_zero, List.setIfInBounds_toArray, List.set_cons_zero, List.set_cons_succ])
      refine wpAnyH_take (i := 1) (v := ?_) rfl (by kernel_rfl) (by kernel_rfl) (by kernel_rfl) (fun _ _ _ h => h) (Or.inl ⟨by rfl, ?_⟩) (by assumption) ?_
      rotate_left
      · intro w hSw; (try dsimp only at hSw); first | (go_simp; done) | (go_simp; with_reducible rfl)
      (try simp only [Act.put, List.getElem_toArray, List.getElem_cons_succ, List.getElem_cons_zero, List.setIfInBounds_toArray, List.set_cons_zero, List.set_cons_succ])
      refine wpAnyH_take (i := 2) (v := ?_) rfl (by kernel_rfl) (by kernel_rfl) (by kernel_rfl) (fun _ _ _ h => h) (Or.inl ⟨by rfl, ?_⟩) (by assumption) ?_
      rotate_left
      · intro w hSw; (try dsimp only at hSw); first | (go_simp; done) | (go_simp; with_reducible rfl)
      (try simp only [Act.put, List.getElem_toArray, List.getElem_cons_succ, List.getElem_cons_zero, List.setIfInBounds_toArray, List.set_cons_zero, List.set_cons_succ])
      refine wpAnyH_take (i := 3) (v := ?_) rfl (by kernel_rfl) (by kernel_rfl) (by kernel_rfl) (fun _ _ _ h => h) (Or.inl ⟨by rfl, ?_⟩) (by assumption) ?_
      rotate_left
      · intro w hSw; (try dsimp only at hSw); first | (go_simp; done) | (go_simp; with_reducible rfl)
      (try simp only [Act.put, List.getElem_toArray, List.getElem_cons_succ, List.getElem_cons_zero, List.setIfInBounds_toArray, List.set_cons_zero, List.set_cons_succ])
      refine wpAnyH_take (i := 4) (v := ?_) rfl (by kernel_rfl) (by kernel_rfl) (by kernel_rfl) (fun _ _ _ h => h) (Or.inl ⟨by rfl, ?_⟩) (by assumption) ?_
      rotate_left
      · intro w hSw; (try dsimp only at hSw); first | (go_simp; done) | (go_simp; with_reducible rfl)
      (try simp only [Act.put, List.getElem_toArray, List.getElem_cons_succ, List.getElem_cons_zero, List.setIfInBounds_toArray, List.set_cons_zero, List.set_cons_succ])
      refine wpAnyH_take (i := 5) (v := ?_) rfl (by kernel_rfl) (by kernel_rfl) (by kernel_rfl) (fun _ _ _ h => h) (Or.inl ⟨by rfl, ?_⟩) (by assumption) ?_
      rotate_left
      · intro w hSw; (try dsimp only at hSw); first | (go_simp; done) | (go_simp; with_reducible rfl)
      (try simp only [Act.put, List.getElem_toArray, List.getElem_cons_succ, List.getElem_cons_zero, List.setIfInBounds_toArray, List.set_cons_zero, List.set_cons_succ])
      refine wpAnyH_take (i := 6) (v := ?_) rfl (by kernel_rfl) (by kernel_rfl) (by kernel_rfl) (fun _ _ _ h => h) (Or.inl ⟨by rfl, ?_⟩) (by assumption) ?_
      rotate_left
      · intro w hSw; (try dsimp only at hSw); first | (go_simp; done) | (go_simp; with_reducible rfl)
      (try simp only [Act.put, List.getElem_toArray, List.getElem_cons_succ, List.getElem_cons_zero, List.setIfInBounds_toArray, List.set_cons_zero, List.set_cons_succ])
      refine wpAnyH_take (i := 7) (v := ?_) rfl (by kernel_rfl) (by kernel_rfl) (by kernel_rfl) (fun _ _ _ h => h) (Or.inl ⟨by rfl, ?_⟩) (by assumption) ?_
      rotate_left
      · intro w hSw; (try dsimp only at hSw); first | (go_simp; done) | (go_simp; with_reducible rfl)
      (try simp only [Act.put, List.getElem_toArray, List.getElem_cons_succ, List.getElem_cons_zero, List.setIfInBounds_toArray, List.set_cons_zero, List.set_cons_succ])
      refine wpAnyH_take (i := 8) (v := ?_) rfl (by kernel_rfl) (by kernel_rfl) (by kernel_rfl) (fun _ _ _ h => h) (Or.inl ⟨by rfl, ?_⟩) (by assumption) ?_
      rotate_left
      · intro w hSw; (try dsimp only at hSw); first | (go_simp; done) | (go_simp; with_reducible rfl)
      (try simp only [Act.put, List.getElem_toArray, List.getElem_cons_succ, List.getElem_cons_zero, List.setIfInBounds_toArray, List.set_cons_zero, List.set_cons_succ])
      refine wpAnyH_take (i := 9) (v := ?_) rfl (by kernel_rfl) (by kernel_rfl) (by kernel_rfl) (fun _ _ _ h => h) (Or.inl ⟨by rfl, ?_⟩) (by assumption) ?_
      rotate_left
      · intro w hSw; (try dsimp only at hSw); first | (go_simp; done) | (go_simp; with_reducible rfl)
      (try simp only [Act.put, List.getElem_toArray, List.getElem_cons_succ, List.getElem_cons_zero, List.setIfInBounds_toArray, List.set_cons_zero, List.set_cons_succ])
      refine wpAnyH_take (i := 10) (v := ?_) rfl (by kernel_rfl) (by kernel_rfl) (by kernel_rfl) (fun _ _ _ h => h) (Or.inl ⟨by rfl, ?_⟩) (by assumption) ?_
      rotate_left
      · intro w hSw; (try dsimp only at hSw); first | (go_simp; done) | (go_simp; with_reducible rfl)
      (try simp only [Act.put, List.getElem_toArray, List.getElem_cons_succ, List.getElem_cons_zero, List.setIfInBounds_toArray, List.set_cons_zero, List.set_cons_succ])
      refine wpAnyH_take (i := 11) (v := ?_) rfl (by kernel_rfl) (by kernel_rfl) (by kernel_rfl) (fun _ _ _ h => h) (Or.inl ⟨by rfl, ?_⟩) (by assumption) ?_
      rotate_left
      · intro w hSw; (try dsimp only at hSw); first | (go_simp; done) | (go_simp; with_reducible rfl)
      (try simp only [Act.put, List.getElem_toArray, List.getElem_cons_succ, List.getElem_cons_zero, List.setIfInBounds_toArray, List.set_cons_zero, List.set_cons_succ])
      refine wpAnyH_take (i := 12) (v := ?_) rfl (by kernel_rfl) (by kernel_rfl) (by kernel_rfl) (fun _ _ _ h => h) (Or.inl ⟨by rfl, ?_⟩) (by assumption) ?_
      rotate_left
      · intro w hSw; (try dsimp only at hSw); first | (go_simp; done) | (go_simp; with_reducible rfl)
      (try simp only [Act.put, List.getElem_toArray, List.getElem_cons_succ, List.getElem_cons_zero, List.setIfInBounds_toArray, List.set_cons_zero, List.set_cons_succ])
      refine wpAnyH_take (i := 13) (v := ?_) rfl (by kernel_rfl) (by kernel_rfl) (by kernel_rfl) (fun _ _ _ h => h) (Or.inl ⟨by rfl, ?_⟩) (by assumption) ?_
      rotate_left
      · intro w hSw; (try dsimp only at hSw); first | (go_simp; done) | (go_simp; with_reducible rfl)
      (try simp only [Act.put, List.getElem_toArray, List.getElem_cons_succ, List.getElem_cons_zero, List.setIfInBounds_toArray, List.set_cons_zero, List.set_cons_succ])
      refine wpAnyH_take (i := 14) (v := ?_) rfl (by kernel_rfl) (by kernel_rfl) (by kernel_rfl) (fun _ _ _ h => h) (Or.inl ⟨by rfl, ?_⟩) (by assumption) ?_
      rotate_left
      · intro w hSw; (try dsimp only at hSw); first | (go_simp; done) | (go_simp; with_reducible rfl)
      (try simp only [Act.put, List.getElem_toArray, List.getElem_cons_succ, List.getElem_cons_zero, List.setIfInBounds_toArray, List.set_cons_zero, List.set_cons_succ])
      refine wpAnyH_take (i := 15) (v := undef) rfl (by kernel_rfl) (by kernel_rfl) (by kernel_rfl) (fun _ _ _ h => h) (Or.inr ⟨by rfl, rfl⟩) (by assumption) ?_
      (try simp only [Act.put, List.getElem_toArray, List.getElem_cons_succ, List.getElem_cons_zero, List.setIfInBounds_toArray, List.set_cons_zero, List.set_cons_succ])
      refine wpAnyH_take (i := 16) (v := undef) rfl (by kernel_rfl) (by kernel_rfl) (by kernel_rfl) (fun _ _ _ h => h) (Or.inr ⟨by rfl, rfl⟩) (by assumption) ?_
      (try simp only [Act.put, List.getElem_toArray, List.getElem_cons_succ, List.getElem_cons_zero, List.setIfInBounds_toArray, List.set_cons_zero, List.set_cons_succ])
      refine wpAnyH_take (i := 17) (v := undef) rfl (by kernel_rfl) (by kernel_rfl) (by kernel_rfl) (fun _ _ _ h => h) (Or.inr ⟨by rfl, rfl⟩) (by assumption) ?_
      (try simp only [Act.put, List.getElem_toArray, List.getElem_cons_succ, List.getElem_cons_zero, List.setIfInBounds_toArray, List.set_cons_zero, List.set_cons_succ])
      refine wpAnyH_take (i := 18) (v := undef) rfl (by kernel_rfl) (by kernel_rfl) (by kernel_rfl) (fun _ _ _ h => h) (Or.inr ⟨by rfl, rfl⟩) (by assumption) ?_
      (try simp only [Act.put, List.getElem_toArray, List.getElem_cons_succ, List.getElem_cons_zero, List.setIfInBounds_toArray, List.set_cons_zero, List.set_cons_succ])
      refine wpAnyH_take (i := 19) (v := undef) rfl (by kernel_rfl) (by kernel_rfl) (by kernel_rfl) (fun _ _ _ h => h) (Or.inr ⟨by rfl, rfl⟩) (by assumption) ?_
      (try simp only [Act.put, List.getElem_toArray, List.getElem_cons_succ, List.getElem_cons_zero, List.setIfInBounds_toArray, List.set_cons_zero, List.set_cons_succ])
      refine wpAnyH_take (i := 20) (v := ?_) rfl (by kernel_rfl) (by kernel_rfl) (by kernel_rfl) (fun _ _ _ h => h) (Or.inl ⟨by rfl, ?_⟩) (by assumption) ?_
      rotate_left
      · intro w hSw; (try dsimp only at hSw); first | (go_simp; done) | (go_simp; with_reducible rfl)
      (try simp only [Act.put, List.getElem_toArray, List.getElem_cons_succ, List.getElem_cons_zero, List.setIfInBounds_toArray, List.set_cons_zero, List.set_cons_succ])
      refine wpAnyH_take (i := 21) (v := ?_) rfl (by kernel_rfl) (by kernel_rfl) (by kernel_rfl) (fun _ _ _ h => h) (Or.inl ⟨by rfl, ?_⟩) (by assumption) ?_
      rotate_left
      · intro w hSw; (try dsimp only at hSw); first | (go_simp; done) | (go_simp; with_reducible rfl)
      (try simp only [Act.put, List.getElem_toArray, List.getElem_cons_succ, List.getElem_cons_zero, List.setIfInBounds_toArray, List.set_cons_zero, List.set_cons_succ])
      refine wpAnyH_done (by kernel_rfl) ?_ _
      go_wp2_with fail
      go_meet
      exact ⟨by simp, Lib.hid ((Below.refl _ _).drew)⟩
    · have g1 : decide (0 < t.most) = true := decide_eq_true hmo
      have g2 : decide (t.most < z + 1) = false := decide_eq_false hmo2
      go_region_held3 (fun w' => w'.cell? ⟨bt + 1, 0, none⟩ = some (.int .i64 d.seq) ∧ w'.cell? ⟨bt + 1, 4, none⟩ = some (.int .i64 (z + 1)) ∧ w'.cell? ⟨bt, 7, none⟩ = some (.int .i64 t.most) ∧ w'.cell? ⟨B, 1, none⟩ = some (.map (some mn)) ∧ (Instr.lookup 35 (.map (some mn)) (.int .i64 d.seq) false).run Tryd.prog w' = .ok (.int .i64 (z + 1)) w') (first | (with_reducible exact ⟨y0, y4, k7, b1, l6⟩) | (with_reducible exact ⟨y0, y4, k7, b1, l6d⟩) | go_keep) (fail)
      go_wp2_with fail
      go_meet
      exact ⟨by simp, Lib.hid ((Below.refl _ _).drew)⟩
  case rest =>
  obtain ⟨rfl, hcut⟩ := hcut
  have hbc := hcut.out
  have hWc := HW6.out.next hbc
  have eca := (hbc.block bt (heap_lt HE6A.out)).trans HE6A.out
  have ecb := (hbc.block (bt + 1) (heap_lt HE6B.out)).trans HE6B.out
  clear hcut b0 b1 b2 b3 b4 bf k1 k4 k7 y0 y1 y2 y3 y4 y5 l6 l6d hmo
  obtain ⟨b0, b1, b2, b3, b4, bf⟩ := fiveC hWc.cells
  obtain ⟨k1, k4, k7⟩ := tenT eca
  obtain ⟨y0, y1, y2, y3, y4, y5⟩ := sixC ecb
  have hlB := heap_lt hWc.cells
  obtain ⟨gd, hgd⟩ := hWc.due
  have ld := hgd.look (k := d.seq) (by unfold far at hq; omega)
  have ldd := (hgd.blk (((Below.refl _ wc).drew).block md hgd.lt)).look (k := d.seq) (by unfold far at hq; omega)
  have cdd := fun b (hb : b < wc.heap.size) => ((Below.refl _ wc).drew).block b hb
  simp only at ld ldd
  have HWC := Lib.hid hWc; have HECA := Lib.hid eca; have HECB := Lib.hid ecb; have HBC := Lib.hid hbc; have HCDD := Lib.hid cdd
  have ddB := fiveC ((cdd B hlB).trans hWc.cells)
  have ddT := tenT ((cdd bt (heap_lt eca)).trans eca)
  have ddD := sixC ((cdd (bt + 1) (heap_lt ecb)).trans ecb)
  simp only at b0 b1 b2 b3 b4 ddB ddT ddD
  have hS9 : wc.cell? ⟨bt + 1, 0, none⟩ = some (.int .i64 d.seq) ∧ wc.cell? ⟨B, 3, none⟩ = some (.int .i64 W.last) := ⟨y0, b3⟩
  have hS9d : wc.drew.cell? ⟨bt + 1, 0, none⟩ = some (.int .i64 d.seq) ∧ wc.drew.cell? ⟨B, 3, none⟩ = some (.int .i64 W.last) := ⟨ddD.1, ddB.2.2.2.1⟩
  have hS12 : wc.cell? ⟨bt + 1, 0, none⟩ = some (.int .i64 d.seq) ∧ wc.cell? ⟨bt, 4, none⟩ = some (.int .i64 t.ack) ∧ wc.cell? ⟨B, 0, none⟩ = some (.map (some md)) ∧ (Instr.lookup 35 (.map (some md)) (.int .i64 d.seq) false).run Tryd.prog wc = .ok (.int .i64 (W.due d.seq)) wc := ⟨y0, k4, b0, ld⟩
  have hS12d : wc.drew.cell? ⟨bt + 1, 0, none⟩ = some (.int .i64 d.seq) ∧ wc.drew.cell? ⟨bt, 4, none⟩ = some (.int .i64 t.ack) ∧ wc.drew.cell? ⟨B, 0, none⟩ = some (.map (some md)) ∧ (Instr.lookup 35 (.map (some md)) (.int .i64 d.seq) false).run Tryd.prog wc.drew = .ok (.int .i64 (W.due d.seq)) wc.drew := ⟨ddD.1, ddT.2.1, ddB.1, ldd⟩
  have HS9 := Lib.hid (And.intro hS9 hS9d); have HS12 := Lib.hid (And.intro hS12 hS12d)
  have HAG := Lib.hid HD.out.again
  have hlast : z = 0 → W.last < d.seq := fun h => by
    have h1 := HAG.out
    rw [hnn, h, if_pos (by omega)] at h1
    exact h1
  have hdue : z ≠ 0 → W.due d.seq ≤ now ∧ t.ack ≠ 0 := fun h => by
    have h1 := HAG.out
    rw [hnn, if_neg (by omega)] at h1
    exact h1
  have HLAST := Lib.hid hlast; have HDUE := Lib.hid hdue
  clear hWc eca ecb hbc hgd cdd ddB ddT ddD hS9 hS9d hS12 hS12d ld ldd hlast hdue HF5
  go_upto_if 101 with fail
  obtain ⟨zz, hzz⟩ : ∃ zz, (z + 1 == 1) = zz := ⟨_, rfl⟩
  rw [hzz]
  have HZZ := Lib.hid hzz
  clear hzz
  go_cut [] from 102 to 127 (fun wx => Hid (WAt B md mn mo N (n + 1) { nth := upd W.nth d.seq (z + 1), due := W.due, done := W.done, last := if z + 1 = 1 then d.seq else W.last, count := W.count + 1 } wx ∧ wx.heap[bt]? = some (.cells #[.string tn, .string tf, .int .i64 t.src, .int .i64 t.start, .int .i64 t.ack, .int .i64 t.wait, vb, .int .i64 t.most, .int .i64 t.pend, .bool t.push] 24 (0, 0)) ∧ wx.heap[bt + 1]? = some (.cells #[.int .i64 d.seq, .string ds, .string dd, .int .i64 (W.count + 1), .int .i64 (z + 1), .int .i64 d.left] 49 (0, 0)) ∧ Heap.Touch (OwnW B md mn mo) wc wx))
  case first =>
    cases zz with
    | true =>
      have hz1 : z = 0 := by have := HZZ.out; simp at this; omega
      have hl := HLAST.out hz1
      have hl2 : ¬ d.seq ≤ W.last := by omega
      have hl3 : decide (d.seq ≤ W.last) = false := decide_eq_false hl2
      have HZ2 := Lib.hid (show z + 1 = 1 by omega)
      clear hz1
      go_upto_region 9 with fail
      go_region_held3 (fun w' => w'.cell? ⟨bt + 1, 0, none⟩ = some (.int .i64 d.seq) ∧ w'.cell? ⟨B, 3, none⟩ = some (.int .i64 W.last)) (first | (with_reducible exact HS9.out.1) | (with_reducible exact HS9.out.2) | go_keep) (fail)
      obtain ⟨b0, b1, b2, b3, b4, bf⟩ := fiveC ((HCDD.out B hlB).trans HWC.out.cells)
      obtain ⟨y0, y1, y2, y3, y4, y5⟩ := sixC ((HCDD.out (bt + 1) (heap_lt HECB.out)).trans HECB.out)
      go_wp2_with fail
      go_meet
      have ts : Heap.Touch (fun k => k = B) wc (wc.setCell ⟨B, 3, none⟩ (.int .i64 d.seq)) := Heap.Touch.setCell (F := fun k => k = B) (p := ⟨B, 3, none⟩) (Heap.Touch.refl _ wc) (.inl rfl) _
      have hWs := HWC.out.cell ts (last := d.seq) (count := W.count + 1) (by rw [heap_setCell_same _ _ _ _ _ _ HWC.out.cells]; rfl)
      have hds : Below (wc.setCell ⟨B, 3, none⟩ (.int .i64 d.seq)).heap.size (wc.setCell ⟨B, 3, none⟩ (.int .i64 d.seq)) (wc.setCell ⟨B, 3, none⟩ (.int .i64 d.seq)).drew := (Below.refl _ _).drew
      have hnB := HLTS.out
      have e1 := (ts.block bt (heap_lt HECA.out) (by omega)).trans HECA.out
      have e2 := (ts.block (bt + 1) (heap_lt HECB.out) (by omega)).trans HECB.out
      refine Lib.hid ⟨?_, (hds.block bt (heap_lt e1)).trans e1, (hds.block (bt + 1) (heap_lt e2)).trans e2, ((Heap.Touch.refl (OwnW B md mn mo) wc).trans ts fun _ _ e => .inl e).after (Heap.Touch.ofBelow hds)⟩
      rw [if_pos HZ2.out]
      exact hWs.next hds
    | false =>
      have hz1 : z ≠ 0 := by have := HZZ.out; simp at this; omega
      have hd2 := HDUE.out hz1
      have HZ2 := Lib.hid (show ¬ z + 1 = 1 by omega)
      have hd3 : ¬ now < W.due d.seq := by omega
      have hd4 : decide (now < W.due d.seq) = false := decide_eq_false hd3
      have hd5 : ¬ t.ack = 0 := hd2.2
      have hd6 : (t.ack == 0) = false := by simpa using hd5
      clear hd2 hz1
      go_upto_region 12 with fail
      go_region_held3 (fun w' => w'.cell? ⟨bt + 1, 0, none⟩ = some (.int .i64 d.seq) ∧ w'.cell? ⟨bt, 4, none⟩ = some (.int .i64 t.ack) ∧ w'.cell? ⟨B, 0, none⟩ = some (.map (some md)) ∧ (Instr.lookup 35 (.map (some md)) (.int .i64 d.seq) false).run Tryd.prog w' = .ok (.int .i64 (W.due d.seq)) w') (first | (with_reducible exact HS12.out.1) | (with_reducible exact HS12.out.2) | go_keep) (fail)
      go_wp2_with fail
      go_meet
      refine Lib.hid ⟨?_, ?_, ?_, ?_⟩
      · rw [if_neg HZ2.out]; exact HWC.out.next ((Below.refl _ _).drew)
      · exact (HCDD.out bt (heap_lt HECA.out)).trans HECA.out
      · exact (HCDD.out (bt + 1) (heap_lt HECB.out)).trans HECB.out
      · exact Heap.Touch.ofBelow ((Below.refl _ _).drew)
  case rest =>
  obtain ⟨hWn, eTn, eDn, htn⟩ := hcut.out
  have T2 : Heap.Touch (OwnW B md mn mo) w2 wc := (((((Heap.Touch.ofBelow hb4).after (Heap.Touch.ofBelow hb5)).after (Heap.Touch.ofBelow ((Below.refl _ w5).drew))).trans HT6.out (fun k _ e => .inr (.inr (.inl e)))).after (Heap.Touch.ofBelow HBC.out)).after htn
  have T0 : Heap.Touch (OwnW B md mn mo) w wc := ((Heap.Touch.ofBelow HB1.out).trans HT2.out (fun k _ e => .inl e)).after T2
  have hI := (Ints.touch HI2.out T2 (fun k hk e => (HWN.out k e).2.2 hk)).below ((Below.refl _ wc).drew)
  obtain ⟨wt, hwte⟩ : ∃ wt, waitT t (z + 1) = wt := ⟨_, rfl⟩
  have HNT := Lib.hid (show d.nth = z + 1 from HNTH.out)
  rw [HNT.out, hwte] at hwt
  have HWA := Lib.hid (show Calls Tryd.prog 26 #[.agg #[.string tn, .string tf, .int .i64 t.src, .int .i64 t.start, .int .i64 t.ack, .int .i64 t.wait, vb, .int .i64 t.most, .int .i64 t.pend, .bool t.push], .int .i64 (z + 1)] wc.drew (Subj.WaitIs wc.drew wt) from by
    rw [← HTV.out, ← hwte]; exact wait_r hI hbl _)
  have wz2 : IntKind.i64.wrap (now + wt) = now + wt := IntWalk.i64_in _ (by unfold far at hnw; omega)
  have HWTE := Lib.hid hwte; have HWN2 := Lib.hid hWn; have HT0 := Lib.hid T0
  clear hcut b0 b1 b2 b3 b4 bf k1 k4 k7 y0 y1 y2 y3 y4 y5 HS9 HS12 HLAST HDUE HAG hI hwte T0 T2 htn
  have hne := hWn.neB
  have htl : B < wc.heap.size ∧ bt < wc.heap.size ∧ bt + 1 < wc.heap.size := ⟨heap_lt hWn.cells, heap_lt eTn, heap_lt eDn⟩
  have HS14 := Lib.hid (show ∀ w', Heap.Touch (fun k => k = md) wc w' → w'.cell? ⟨B, 0, none⟩ = some (.map (some md)) ∧ w'.cell? ⟨bt + 1, 0, none⟩ = some (.int .i64 d.seq) ∧ w'.cell? ⟨bt + 1, 4, none⟩ = some (.int .i64 (z + 1)) ∧ w'.cell? ⟨bt, 0, none⟩ = some (.string tn) ∧ w'.cell? ⟨bt, 1, none⟩ = some (.string tf) ∧ w'.cell? ⟨bt, 2, none⟩ = some (.int .i64 t.src) ∧ w'.cell? ⟨bt, 3, none⟩ = some (.int .i64 t.start) ∧ w'.cell? ⟨bt, 4, none⟩ = some (.int .i64 t.ack) ∧ w'.cell? ⟨bt, 5, none⟩ = some (.int .i64 t.wait) ∧ w'.cell? ⟨bt, 6, none⟩ = some (vb) ∧ w'.cell? ⟨bt, 7, none⟩ = some (.int .i64 t.most) ∧ w'.cell? ⟨bt, 8, none⟩ = some (.int .i64 t.pend) ∧ w'.cell? ⟨bt, 9, none⟩ = some (.bool t.push) from fun w' ht => by
    have hl := HLTS.out
    obtain ⟨b0, b1, b2, b3, b4, bf⟩ := fiveC ((ht.block B htl.1 (fun e => hne.1 e)).trans hWn.cells)
    obtain ⟨y0, y1, y2, y3, y4, y5⟩ := sixC ((ht.block (bt + 1) htl.2.2 (by omega)).trans eDn)
    obtain ⟨k0, k1, k2, k3, k4, k5, k6, k7, k8, k9, _⟩ := tenC ((ht.block bt htl.2.1 (by omega)).trans eTn)
    exact ⟨b0, y0, y4, k0, k1, k2, k3, k4, k5, k6, k7, k8, k9⟩)
  clear hWn eTn eDn hne
  have tc0 : Heap.Touch (fun k => k = md) wc wc := Heap.Touch.refl _ _
  have tcd : Heap.Touch (fun k => k = md) wc wc.drew := Heap.Touch.ofBelow ((Below.refl _ wc).drew)
  go_upto_region 14 with fail
  go_region_held3 (fun w' => w'.cell? ⟨B, 0, none⟩ = some (.map (some md)) ∧ w'.cell? ⟨bt + 1, 0, none⟩ = some (.int .i64 d.seq) ∧ w'.cell? ⟨bt + 1, 4, none⟩ = some (.int .i64 (z + 1)) ∧ w'.cell? ⟨bt, 0, none⟩ = some (.string tn) ∧ w'.cell? ⟨bt, 1, none⟩ = some (.string tf) ∧ w'.cell? ⟨bt, 2, none⟩ = some (.int .i64 t.src) ∧ w'.cell? ⟨bt, 3, none⟩ = some (.int .i64 t.start) ∧ w'.cell? ⟨bt, 4, none⟩ = some (.int .i64 t.ack) ∧ w'.cell? ⟨bt, 5, none⟩ = some (.int .i64 t.wait) ∧ w'.cell? ⟨bt, 6, none⟩ = some (vb) ∧ w'.cell? ⟨bt, 7, none⟩ = some (.int .i64 t.most) ∧ w'.cell? ⟨bt, 8, none⟩ = some (.int .i64 t.pend) ∧ w'.cell? ⟨bt, 9, none⟩ = some (.bool t.push)) (first | (with_reducible exact HS14.out _ tc0) | (with_reducible exact HS14.out _ tcd) | (with_reducible exact HS14.out _ tc8) | (with_reducible exact HS14.out _ tc9) | go_keep)
    (first
      | (go_at_call 26; ((refine HWA.out.mono ?_); rintro e w8 ⟨rfl, hb8⟩; have tc8 := tcd.after (Heap.Touch.ofBelow hb8); obtain ⟨w9, hr9, hW9, ht9⟩ := ((HWN2.out.next ((Below.refl _ wc).drew)).next hb8).putDue (by unfold maxLen; omega) (k := d.seq) (by unfold far at hq; omega) (now + wt); have tc9 := tc8.after ht9)))
  have HF := Lib.hid (show WAt B md mn mo (N + 1) (n + 1) (delW t now d W) w9 ∧ Heap.Touch (OwnW B md mn mo) w w9 from ⟨by
    unfold delW
    rw [HZ.out, HNT.out, HWTE.out]
    exact hW9, HT0.out.trans tc9 fun k _ e => .inr (.inl e)⟩)
  clear hb8 hW9 ht9
  go_wp2_with fail
  go_ret
  exact ⟨rfl, HF.out⟩
end
end Go.Proofs.YtapmhpnkpjgefaaDoor.Con
