/- Parts of the proof, joined: consumer.New, walked. -/
import Derived.Test.YtapmhpnkpjgefaaDoorConsumerRulesUptoM22
import Derived.Test.YtapmhpnkpjgefaaDoorConsumerRulesUptoM27
import Derived.Test.YtapmhpnkpjgefaaDoorShelf
namespace Go.Proofs.YtapmhpnkpjgefaaDoor.Con
open Go.RowKit Heap
open Subj (Tok TakerP ML errT errT_facts Ints IntsAt takerCheck_any argsOk_facts)
open Sto (StoreAt Right seekR tk recV parts sixC Parts last_any sums_any sumsV fourS)
open Rec (Rc far)

theorem fldS3 : ∀ (w : World) (a b c d : Int), (Instr.field 65 (.agg #[.int .i64 a, .int .i64 b, .int .i64 c, .int .i64 d]) 3).run Tryd.prog w = .ok (.int .i64 d) w := fun _ _ _ _ _ => by kernel_rfl

/-- slices.Clone of numbers. -/
theorem clone_ints {w : World} {v : Value} {zs : List Int} (h : Ints w v zs) (hl : zs.length ≤ 1048576) :
    Calls Tryd.prog 16 #[v] w fun e w' => ∃ v', e = .returned v' ∧ Ints w' v' zs ∧ (∀ k, own v' k → w.heap.size ≤ k ∧ k < w'.heap.size) ∧ Below w.heap.size w w' := by
  obtain ⟨ao, cap, rfl, hc, hat⟩ := h
  have fin : ∀ (v' : Value) (w' : World), w'.ownsRow w.heap.size 3 1 v' zs.length (zs.map (Value.int .i64)) → Below w.heap.size w w' → Ints w' v' zs ∧ (∀ k, own v' k → w.heap.size ≤ k ∧ k < w'.heap.size) := fun v' w' ho hb => by
    rcases ho.2 with ⟨rfl, h0⟩ | ⟨g, cp, cur, rfl, hg, hh, h1, h2, h3, h4⟩
    · refine ⟨⟨none, 0, by rw [h0], by omega, fun hne => absurd (List.eq_nil_of_length_eq_zero h0) hne⟩, fun k hk => by simp [own, Value.ownBlock] at hk⟩
    · refine ⟨⟨_, cp, rfl, h1, fun hne => ⟨g, 0, rfl, fun k hk => ?_⟩⟩, fun k hk => ?_⟩
      · rw [cell_of_row w' g (0 + k) cur _ _ hh, Nat.zero_add]
        have h5 : (cur.toList.take (zs.length * 1))[k]? = (zs.map (Value.int .i64))[k]? := by rw [h4]
        rw [List.getElem?_take, if_pos (by omega), List.getElem?_map, List.getElem?_eq_getElem hk] at h5
        have h6 : zs.getD k 0 = zs[k] := by simp [List.getD, hk]
        rw [h6]
        simpa using h5
      · simp [own, Value.ownBlock] at hk
        subst hk
        exact ⟨hg, heap_lt hh⟩
  cases ao with
  | none =>
    refine (Tryd.slices_Clone_int_nil zs.length cap w).mono ?_
    rintro e w' ⟨rfl, rfl⟩
    by_cases hz : zs = []
    · subst hz
      exact ⟨_, rfl, ⟨none, 0, rfl, Nat.le_refl _, fun h => absurd rfl h⟩, fun k hk => by simp [own, Value.ownBlock] at hk, Below.refl _ _⟩
    · obtain ⟨g, off, h1, _⟩ := hat hz
      cases h1
  | some a =>
    by_cases hz : zs = []
    · subst hz
      refine (Tryd.slices_Clone_int_zero a cap w).mono ?_
      rintro e w' ⟨v', rfl, h1, _, h3⟩
      obtain ⟨h5, h6⟩ := fin v' w' h1 h3
      exact ⟨v', rfl, h5, h6, h3⟩
    · obtain ⟨g, off, h1, h2⟩ := hat hz
      simp only [Option.some.injEq] at h1
      subst h1
      refine (Tryd.slices_Clone_int g off zs.length cap zs w (Nat.le_refl _) (by omega) h2).mono ?_
      rintro e w' ⟨v', rfl, h1, _, h3⟩
      rw [List.take_of_length_le (Nat.le_refl _)] at h1
      obtain ⟨h5, h6⟩ := fin v' w' h1 h3
      exact ⟨v', rfl, h5, h6, h3⟩

section
variable {W w : World} {F : Nat → Prop} {D B : Nat} {L : List Rc} {last : Int} {t : TakerP} {vb : Value}

/-- A consumer of one's own, or none. -/
def NewPost (W w : World) (t : TakerP) (L : List Rc) (last : Int) (er : Nat) (e : Ending) (w' : World) : Prop :=
  (er ≠ 0 ∧ e = .returned (.tuple #[.pointer none, .int .i64 (er : Nat)]) ∧ Below w.heap.size w w') ∨
  (er = 0 ∧ ∃ K vb', e = .returned (.tuple #[.pointer (some ⟨K, 0, none⟩), .int .i64 0]) ∧ CAt tc tp W K t vb' (.slice none 0 0) (newP t L last) w' ∧ w.heap.size ≤ K ∧ (∀ k, own vb' k → w.heap.size ≤ k) ∧ Below w.heap.size w w')

theorem tenC {bx : Nat} {a0 a1 a2 a3 a4 a5 a6 a7 a8 a9 : Value} {t : TypeId} {w : World} (h : w.heap[bx]? = some (.cells #[a0, a1, a2, a3, a4, a5, a6, a7, a8, a9] t (0, 0))) :
    w.cell? ⟨bx, 0, none⟩ = some a0 ∧ w.cell? ⟨bx, 1, none⟩ = some a1 ∧ w.cell? ⟨bx, 2, none⟩ = some a2 ∧ w.cell? ⟨bx, 3, none⟩ = some a3 ∧ w.cell? ⟨bx, 4, none⟩ = some a4 ∧ w.cell? ⟨bx, 5, none⟩ = some a5 ∧ w.cell? ⟨bx, 6, none⟩ = some a6 ∧ w.cell? ⟨bx, 7, none⟩ = some a7 ∧ w.cell? ⟨bx, 8, none⟩ = some a8 ∧ w.cell? ⟨bx, 9, none⟩ = some a9 ∧ ∀ j, w.frozen? ⟨bx, j, none⟩ = false := by
  refine ⟨?_, ?_, ?_, ?_, ?_, ?_, ?_, ?_, ?_, ?_, fun j => frozen_of_row w bx j _ _ h⟩ <;> (rw [cell_of_row w bx _ _ _ _ h]; rfl)

set_option maxHeartbeats 4000000 in
set_option maxRecDepth 100000 in
theorem new_c (hA : StoreAt W F D B L last w) (hm : ML W) (hB : Ints w vb t.back) (hnm : t.name.length ≤ 1048576) (hfl : t.filt.length ≤ 1048576) :
    Calls Tryd.prog 6 #[takerV t vb, .pointer (some ⟨D, 0, none⟩)] w (NewPost W w t L last (errT t)) := by
  have hfar : far = 1099511627776 := rfl
  obtain ⟨I, hR⟩ := hA.right
  have hlr := hR.range
  obtain ⟨nm, hnme⟩ : ∃ nm : ByteArray, (⟨t.name.toArray⟩ : ByteArray) = nm := ⟨_, rfl⟩
  obtain ⟨fl, hfle⟩ : ∃ fl : ByteArray, (⟨t.filt.toArray⟩ : ByteArray) = fl := ⟨_, rfl⟩
  have hnm2 : nm.data.toList = t.name := by rw [← hnme]
  have hfl2 : fl.data.toList = t.filt := by rw [← hfle]
  have hnms : nm.size ≤ 1048576 := by rw [← hnme]; show t.name.toArray.size ≤ _; simpa using hnm
  have hfls : fl.size ≤ 1048576 := by rw [← hfle]; show t.filt.toArray.size ≤ _; simpa using hfl
  unfold takerV
  rw [hnme, hfle]
  have hml : ML w := hm.below hA.below
  obtain ⟨ao, cap, hvb, hcp, hat⟩ := hB
  have hB : Ints w vb t.back := ⟨ao, cap, hvb, hcp, hat⟩
  subst hvb
  obtain ⟨w1, hw1⟩ : ∃ w1, w1 = w.alloc (.cells #[.string nm, .string fl, .int .i64 t.src, .int .i64 t.start, .int .i64 t.ack, .int .i64 t.wait, .slice ao t.back.length cap, .int .i64 t.most, .int .i64 t.pend, .bool t.push] 24) := ⟨_, rfl⟩
  have hb1 : Below w.heap.size w w1 := by rw [hw1]; exact (Below.refl _ _).alloc (Nat.le_refl _) _
  have he1 : w1.heap[w.heap.size]? = some (.cells #[.string nm, .string fl, .int .i64 t.src, .int .i64 t.start, .int .i64 t.ack, .int .i64 t.wait, .slice ao t.back.length cap, .int .i64 t.most, .int .i64 t.pend, .bool t.push] 24 (0, 0)) := by rw [hw1]; exact heap_alloc_new w _
  obtain ⟨bx, hbx⟩ : ∃ bx, w.heap.size = bx := ⟨_, rfl⟩
  rw [hbx] at he1
  have hck := takerCheck_any nm fl t.src t.start t.ack t.wait t.most t.pend t.push ao t.back.length cap t.back w1 (by unfold maxLen; omega) hfls rfl (hB.below hb1) (hml.below hb1)
  rw [hnm2, hfl2] at hck
  have hcl := fun w' (hb : Below w.heap.size w w') => clone_ints (hB.below hb)
  have HCK := Lib.hid (show Calls Tryd.prog 15 #[.agg #[.string nm, .string fl, .int .i64 t.src, .int .i64 t.start, .int .i64 t.ack, .int .i64 t.wait, .slice ao t.back.length cap, .int .i64 t.most, .int .i64 t.pend, .bool t.push]] w1 (Subj.IntRet w1 (errT t)) from hck)
  obtain ⟨er, her⟩ : ∃ er, errT t = er := ⟨_, rfl⟩
  have HER := Lib.hid her
  rw [her] at HCK
  rw [her]
  obtain ⟨q0, q1, q2, q3, q4, q5, q6, q7, q8, q9, qf⟩ := tenC he1
  have hbl := heap_lt he1
  have HCL := Lib.hid hcl; have HA := Lib.hid hA; have HB1 := Lib.hid hb1; have HE1 := Lib.hid he1; have HBX := Lib.hid hbx; have HML := Lib.hid hm; have HR := Lib.hid hR; have HNM := Lib.hid hnme; have HFL := Lib.hid hfle
  clear hA hm hB hnm hfl hnme hfle hnm2 hfl2 hml hcp hat hb1 he1 hbx hck hcl her hR
  go_enter Tryd.func6, Tryd.ntmps6
  go_upto_region 1 with fail
  rw [← hw1, HBX.out]
  clear hw1
  go_wp2_with fail
  refine HCK.out.mono ?_
  rintro e w2 ⟨rfl, _, hb2⟩
  have HB2 := Lib.hid (HB1.out.trans (hb2.mono HB1.out.size))
  have he2 := (hb2.block bx hbl).trans HE1.out
  have HE2 := Lib.hid he2
  clear hb2 q0 q1 q2 q3 q4 q5 q6 q7 q8 q9 qf hbl HCK
  by_cases hz : er = 0
  · subst hz
    have hfacts := argsOk_facts (errT_facts HER.out).2.2.2
    obtain ⟨hsr1, hsr3, hst, _⟩ := hfacts
    have hf3 : Subj.err true fl.data.toList = 0 := by rw [show fl.data.toList = t.filt by rw [← HFL.out]]; exact (errT_facts HER.out).2.1
    have HF3 := Lib.hid hf3
    have HF2 := Lib.hid (show fl.data.toList = t.filt by rw [← HFL.out])
    have hbk : t.back.length ≤ 1048576 := by have := (errT_facts HER.out).2.2.1; omega
    have HCL2 := Lib.hid (HCL.out w2 HB2.out hbk)
    obtain ⟨q0, q1, q2, q3, q4, q5, q6, q7, q8, q9, qf⟩ := tenC HE2.out
    have hbl := heap_lt HE2.out
    clear hf3 hbk
    go_wp2_with fail
    refine HCL2.out.mono ?_
    rintro e w3 ⟨v3, rfl, hi3, ho3, hb3⟩
    obtain ⟨a3, c3, hv3e⟩ : ∃ a3 c3, v3 = .slice a3 t.back.length c3 := by obtain ⟨a3, c3, e3, _⟩ := hi3; exact ⟨a3, c3, e3⟩
    subst hv3e
    have he3 := (hb3.block bx hbl).trans HE2.out
    obtain ⟨w4, hw4⟩ : ∃ w4, w4 = w3.setCell ⟨bx, 6, none⟩ (.slice a3 t.back.length c3) := ⟨_, rfl⟩
    have he4 : w4.heap[bx]? = some (.cells #[.string nm, .string fl, .int .i64 t.src, .int .i64 t.start, .int .i64 t.ack, .int .i64 t.wait, (.slice a3 t.back.length c3), .int .i64 t.most, .int .i64 t.pend, .bool t.push] 24 (0, 0)) := by rw [hw4]; exact heap_setCell_same _ _ _ _ _ _ he3
    have hbx4 : Below w.heap.size w w4 := by rw [hw4]; exact (HB2.out.trans (hb3.mono HB2.out.size)).setCell (by have := HBX.out; exact Nat.le_of_eq this) _
    have hsz4 : w4.heap.size = w3.heap.size := by rw [hw4]; simp [World.setCell]
    have hi4 : Ints w4 (.slice a3 t.back.length c3) t.back := Ints.touch hi3 (F := fun k => k = bx) (by rw [hw4]; exact Heap.Touch.setCell (F := fun k => k = bx) (p := ⟨bx, 6, none⟩) (Heap.Touch.refl _ w3) (.inl rfl) _) (fun k hk e => by have := (ho3 k hk).1; omega)
    obtain ⟨w5, hw5⟩ : ∃ w5, w5 = w4.alloc (.cells #[.string nm, .string fl, .int .i64 t.src, .int .i64 t.start, .int .i64 t.ack, .int .i64 t.wait, (.slice a3 t.back.length c3), .int .i64 t.most, .int .i64 t.pend, .bool t.push, .int .i64 1, .int .i64 0, .slice none 0 0] 63) := ⟨_, rfl⟩
    have hb5 : Below w4.heap.size w4 w5 := by rw [hw5]; exact (Below.refl _ _).alloc (Nat.le_refl _) _
    have hk5 : w5.heap[w4.heap.size]? = some (.cells #[.string nm, .string fl, .int .i64 t.src, .int .i64 t.start, .int .i64 t.ack, .int .i64 t.wait, (.slice a3 t.back.length c3), .int .i64 t.most, .int .i64 t.pend, .bool t.push, .int .i64 1, .int .i64 0, .slice none 0 0] 63 (0, 0)) := by rw [hw5]; exact heap_alloc_new w4 _
    obtain ⟨K, hKe⟩ : ∃ K, w4.heap.size = K := ⟨_, rfl⟩
    rw [hKe] at hk5
    have hbw5 := hbx4.trans (hb5.mono hbx4.size)
    have hc5 : CAt tc tp W K t (.slice a3 t.back.length c3) (.slice none 0 0) ⟨1, 0, []⟩ w5 := by
      refine ⟨?_, Row.nil _ _ _, hi4.below hb5, ?_, fun k hk => by simp [own, Value.ownBlock] at hk, fun k hk => ⟨?_, ?_, by simp [own, Value.ownBlock]⟩, (HA.out.below).trans (hbw5.mono HA.out.below.size)⟩
      · unfold conC; rw [HNM.out, HFL.out]; exact hk5
      · have := HA.out.below.size; have := hbx4.size; omega
      · have := (ho3 k hk).2; have := hb5.size; omega
      · have := (ho3 k hk).2; omega
    have he5 := (hb5.block bx (heap_lt he4)).trans he4
    have HKW := Lib.hid (show w.heap.size ≤ K ∧ bx < K from ⟨by have := hbx4.size; omega, by have := heap_lt he4; omega⟩)
    have HV3 := Lib.hid (show True ∧ (∀ k, own (.slice a3 t.back.length c3) k → w.heap.size ≤ k) ∧ True from ⟨trivial, fun k hk => by have := (ho3 k hk).1; have := HB2.out.size; omega, trivial⟩)
    have HC5 := Lib.hid hc5; have HB5 := Lib.hid hbw5; have HE5 := Lib.hid he5; have HK := Lib.hid hKe; have HE4 := Lib.hid he4
    obtain ⟨p0, p1, p2, p3, p4, p5, p6, p7, p8, p9, pf⟩ := tenC he3
    have hbl3 := heap_lt he3
    clear hi3 ho3 hb3 he3 hbx4 hsz4 hi4 hb5 hk5 hbw5 hc5 he5 hKe he4 HCL2 q0 q1 q2 q3 q4 q5 q6 q7 q8 q9 qf hbl
    go_upto_region 5 with fail
    rw [← hw4]
    clear hw4 p0 p1 p2 p3 p4 p5 p6 p7 p8 p9 pf hbl3
    obtain ⟨q0, q1, q2, q3, q4, q5, q6, q7, q8, q9, qf⟩ := tenC HE4.out
    have hbl := heap_lt HE4.out
    go_upto_region 6 with fail
    rw [← hw5, HK.out]
    clear hw5 q0 q1 q2 q3 q4 q5 q6 q7 q8 q9 qf hbl
    obtain ⟨q0, q1, q2, q3, q4, q5, q6, q7, q8, q9, qf⟩ := tenC HE5.out
    have hbl := heap_lt HE5.out
    rcases (show t.src = 1 ∨ t.src = 2 ∨ t.src = 3 ∨ t.src = 0 from by omega) with hs | hs | hs | hs
    · rw [hs] at q2
      have HSRC := Lib.hid hs
      have hsrcE : t.src = 1 := hs
      clear hs
      clear hsrcE
      have HSU := Lib.hid (sums_any (HA.out.next HB5.out))
      unfold sumsV at HSU
      go_wp2_with fail
      refine HSU.out.mono ?_
      rintro e w6 ⟨rfl, hb6⟩
      have h6 := HC5.out.next hb6
      have HB6 := Lib.hid (HB5.out.trans (hb6.mono HB5.out.size))
      have h7 := h6.setPlace (last + 1)
      obtain ⟨_, _, _, _, _, _, _, _, _, _, c10, _, _, cf⟩ := h6.cells
      have hlt6 := heap_lt h6.cell
      have he6 := (hb6.block bx (heap_lt HE5.out)).trans HE5.out
      obtain ⟨w7, hw7⟩ : ∃ w7, w7 = w6.setCell ⟨K, 10, none⟩ (.int .i64 (last + 1)) := ⟨_, rfl⟩
      rw [← hw7] at h7
      have hwl : IntKind.i64.wrap (last + 1) = last + 1 := IntWalk.i64_in _ (by omega)
      have HB7 := Lib.hid (show Below w.heap.size w w7 from by rw [hw7]; exact HB6.out.setCell (by have := HKW.out.1; exact this) _)
      have he7 := (h7.2.block bx (heap_lt he6) (fun e => by
        rcases e with e | e
        · have := HKW.out.2; omega
        · simp [own, Value.ownBlock] at e)).trans he6
      have hla := last_any (HA.out.next HB7.out) HML.out fl hfls
      obtain ⟨lo, hlo⟩ : ∃ lo, L.reverse.find? (tk fl.data.toList) = lo := ⟨_, rfl⟩
      rw [hlo, HF3.out] at hla
      rw [HF2.out] at hlo
      obtain ⟨sr, hsr⟩ : ∃ sr, seekR 0 lo = sr := ⟨_, rfl⟩
      rw [hsr] at hla
      obtain ⟨s, hd, d, hpp⟩ := parts sr.1
      unfold Sto.recV at hla
      rw [hpp.s1, hpp.h1, hpp.d1] at hla
      obtain ⟨rx, ee⟩ := sr
      simp only at hla hpp
      have HLA := Lib.hid hla; have HLO := Lib.hid hlo; have HSR := Lib.hid hsr; have HC7 := Lib.hid h7.1; have HE7 := Lib.hid he7
      clear hb6 h6 he6 h7 he7 hla hlo hsr hpp HSU
      have hfd3 := fldS3
      go_upto_region 10 with fail
      clear hfd3
      rw [← hw7]
      clear hw7 c10 cf hlt6 q0 q1 q2 q3 q4 q5 q6 q7 q8 q9 qf
      obtain ⟨q0, q1, q2, q3, q4, q5, q6, q7, q8, q9, qf⟩ := tenC HE7.out
      go_wp2_with fail
      refine HLA.out.mono ?_
      rintro e w8 ⟨rfl, hb8⟩
      obtain ⟨w9, hw9⟩ : ∃ w9, w9 = w8.alloc (.cells #[.int .i64 rx.kind, .int .i64 rx.seq, .int .i64 rx.time, .string s, .string hd, .string d] 42) := ⟨_, rfl⟩
      have hb9 : Below w8.heap.size w8 w9 := by rw [hw9]; exact (Below.refl _ _).alloc (Nat.le_refl _) _
      have he9 : w9.heap[w8.heap.size]? = some (.cells #[.int .i64 rx.kind, .int .i64 rx.seq, .int .i64 rx.time, .string s, .string hd, .string d] 42 (0, 0)) := by rw [hw9]; exact heap_alloc_new w8 _
      obtain ⟨br, hbr⟩ : ∃ br, w8.heap.size = br := ⟨_, rfl⟩
      rw [hbr] at he9
      have hbb := hb8.trans (hb9.mono hb8.size)
      have h9 := HC7.out.next hbb
      have HB9 := Lib.hid (HB7.out.trans (hbb.mono HB7.out.size))
      have hex := (hbb.block bx (heap_lt HE7.out)).trans HE7.out
      have HBR := Lib.hid hbr; have HC9 := Lib.hid h9
      obtain ⟨r0, r1, r2, r3, r4, r5⟩ := sixC he9
      have hbrl := heap_lt he9
      clear hb8 hb9 he9 hbr hbb h9 HLA q0 q1 q2 q3 q4 q5 q6 q7 q8 q9 qf
      obtain ⟨q0, q1, q2, q3, q4, q5, q6, q7, q8, q9, qf⟩ := tenC hex
      rw [HSRC.out] at q2
      obtain ⟨_, _, _, _, _, _, _, _, _, _, c10, _, _, cf⟩ := HC9.out.cells
      have hlt9 := heap_lt HC9.out.cell
      have hbl9 := heap_lt hex
      clear hex
      go_upto_region 11 with fail
      rw [← hw9, HBR.out]
      clear hw9
      by_cases hee : ee = 0
      · subst hee
        have hlo2 : lo = some rx := by
          cases hl : lo with
          | none => have h := HSR.out; rw [hl, show seekR 0 (none : Option Rc) = (Rc.zero, 4) from rfl] at h; simp only [Prod.mk.injEq] at h; omega
          | some x => have h := HSR.out; rw [hl, show seekR 0 (some x) = (x, 0) from rfl] at h; simp only [Prod.mk.injEq] at h; rw [h.1]
        have HL2 := Lib.hid (HLO.out.trans hlo2)
        clear hlo2
        have h10 := HC9.out.setPlace rx.seq
        have HFI := Lib.hid (show CAt tc tp W K t (.slice a3 t.back.length c3) (.slice none 0 0) (newP t L last) (w9.setCell ⟨K, 10, none⟩ (.int .i64 rx.seq)) from by
          have h := h10.1
          have e : newP t L last = ⟨rx.seq, 0, []⟩ := by unfold newP startP; rw [if_pos HSRC.out, HL2.out]
          rw [e]; exact h)
        have HB10 := Lib.hid (HB9.out.setCell (p := ⟨K, 10, none⟩) HKW.out.1 (.int .i64 rx.seq))
        clear h10
        go_wp2_with fail
        go_ret2
        exact .inr ⟨rfl, K, (.slice a3 t.back.length c3), rfl, HFI.out, HKW.out.1, HV3.out.2.1, HB10.out⟩
      · have hee1 : ((ee : Int) == 0) = false := by simpa using hee
        have hlo2 : lo = none := by
          cases hl : lo with
          | none => rfl
          | some x => have h := HSR.out; rw [hl, show seekR 0 (some x) = (x, 0) from rfl] at h; simp only [Prod.mk.injEq] at h; exact absurd h.2.symm hee
        have HL2 := Lib.hid (HLO.out.trans hlo2)
        clear hlo2 hee
        have HFI := Lib.hid (show CAt tc tp W K t (.slice a3 t.back.length c3) (.slice none 0 0) (newP t L last) w9 from by
          have h := HC9.out
          have e : newP t L last = ⟨last + 1, 0, []⟩ := by unfold newP startP; rw [if_pos HSRC.out, HL2.out]
          rw [e]; exact h)
        go_wp2_with fail
        go_ret2
        exact .inr ⟨rfl, K, (.slice a3 t.back.length c3), rfl, HFI.out, HKW.out.1, HV3.out.2.1, HB9.out⟩
    · rw [hs] at q2
      have HSRC := Lib.hid hs
      clear hs
      have HSU := Lib.hid (sums_any (HA.out.next HB5.out))
      unfold sumsV at HSU
      go_wp2_with fail
      refine HSU.out.mono ?_
      rintro e w6 ⟨rfl, hb6⟩
      have h6 := HC5.out.next hb6
      have HB6 := Lib.hid (HB5.out.trans (hb6.mono HB5.out.size))
      have h7 := h6.setPlace (last + 1)
      obtain ⟨_, _, _, _, _, _, _, _, _, _, c10, _, _, cf⟩ := h6.cells
      have hlt6 := heap_lt h6.cell
      have he6 := (hb6.block bx (heap_lt HE5.out)).trans HE5.out
      obtain ⟨w7, hw7⟩ : ∃ w7, w7 = w6.setCell ⟨K, 10, none⟩ (.int .i64 (last + 1)) := ⟨_, rfl⟩
      rw [← hw7] at h7
      have hwl : IntKind.i64.wrap (last + 1) = last + 1 := IntWalk.i64_in _ (by omega)
      have HB7 := Lib.hid (show Below w.heap.size w w7 from by rw [hw7]; exact HB6.out.setCell (by have := HKW.out.1; exact this) _)
      have he7 := (h7.2.block bx (heap_lt he6) (fun e => by
        rcases e with e | e
        · have := HKW.out.2; omega
        · simp [own, Value.ownBlock] at e)).trans he6
      have hla := last_any (HA.out.next HB7.out) HML.out fl hfls
      obtain ⟨lo, hlo⟩ : ∃ lo, L.reverse.find? (tk fl.data.toList) = lo := ⟨_, rfl⟩
      rw [hlo, HF3.out] at hla
      rw [HF2.out] at hlo
      obtain ⟨sr, hsr⟩ : ∃ sr, seekR 0 lo = sr := ⟨_, rfl⟩
      rw [hsr] at hla
      obtain ⟨s, hd, d, hpp⟩ := parts sr.1
      unfold Sto.recV at hla
      rw [hpp.s1, hpp.h1, hpp.d1] at hla
      obtain ⟨rx, ee⟩ := sr
      simp only at hla hpp
      have HLA := Lib.hid hla; have HLO := Lib.hid hlo; have HSR := Lib.hid hsr; have HC7 := Lib.hid h7.1; have HE7 := Lib.hid he7
      clear hb6 h6 he6 h7 he7 hla hlo hsr hpp HSU
      have hfd3 := fldS3
      go_upto_region 10 with fail
      clear hfd3
      rw [← hw7]
      clear hw7 c10 cf hlt6 q0 q1 q2 q3 q4 q5 q6 q7 q8 q9 qf
      obtain ⟨q0, q1, q2, q3, q4, q5, q6, q7, q8, q9, qf⟩ := tenC HE7.out
      go_wp2_with fail
      refine HLA.out.mono ?_
      rintro e w8 ⟨rfl, hb8⟩
      obtain ⟨w9, hw9⟩ : ∃ w9, w9 = w8.alloc (.cells #[.int .i64 rx.kind, .int .i64 rx.seq, .int .i64 rx.time, .string s, .string hd, .string d] 42) := ⟨_, rfl⟩
      have hb9 : Below w8.heap.size w8 w9 := by rw [hw9]; exact (Below.refl _ _).alloc (Nat.le_refl _) _
      have he9 : w9.heap[w8.heap.size]? = some (.cells #[.int .i64 rx.kind, .int .i64 rx.seq, .int .i64 rx.time, .string s, .string hd, .string d] 42 (0, 0)) := by rw [hw9]; exact heap_alloc_new w8 _
      obtain ⟨br, hbr⟩ : ∃ br, w8.heap.size = br := ⟨_, rfl⟩
      rw [hbr] at he9
      have hbb := hb8.trans (hb9.mono hb8.size)
      have h9 := HC7.out.next hbb
      have HB9 := Lib.hid (HB7.out.trans (hbb.mono HB7.out.size))
      have hex := (hbb.block bx (heap_lt HE7.out)).trans HE7.out
      have HBR := Lib.hid hbr; have HC9 := Lib.hid h9
      obtain ⟨r0, r1, r2, r3, r4, r5⟩ := sixC he9
      have hbrl := heap_lt he9
      clear hb8 hb9 he9 hbr hbb h9 HLA q0 q1 q2 q3 q4 q5 q6 q7 q8 q9 qf
      obtain ⟨q0, q1, q2, q3, q4, q5, q6, q7, q8, q9, qf⟩ := tenC hex
      rw [HSRC.out] at q2
      obtain ⟨_, _, _, _, _, _, _, _, _, _, c10, _, _, cf⟩ := HC9.out.cells
      have hlt9 := heap_lt HC9.out.cell
      have hbl9 := heap_lt hex
      clear hex
      go_upto_region 11 with fail
      rw [← hw9, HBR.out]
      clear hw9
      have HFI := Lib.hid (show CAt tc tp W K t (.slice a3 t.back.length c3) (.slice none 0 0) (newP t L last) w9 from by
        have h := HC9.out
        have e : newP t L last = ⟨last + 1, 0, []⟩ := by unfold newP startP; rw [if_neg (by rw [HSRC.out]; decide), if_pos HSRC.out]
        rw [e]; exact h)
      go_wp2_with fail
      go_ret2
      exact .inr ⟨rfl, K, (.slice a3 t.back.length c3), rfl, HFI.out, HKW.out.1, HV3.out.2.1, HB9.out⟩
    · rw [hs] at q2
      have HSRC := Lib.hid hs
      clear hs
      obtain ⟨_, _, _, _, _, _, _, _, _, _, c10, _, _, cf⟩ := HC5.out.cells
      have hlt5 := heap_lt HC5.out.cell
      have h10 := HC5.out.setPlace t.start
      have HFI := Lib.hid (show CAt tc tp W K t (.slice a3 t.back.length c3) (.slice none 0 0) (newP t L last) (w5.setCell ⟨K, 10, none⟩ (.int .i64 t.start)) from by
        have h := h10.1
        have e : newP t L last = ⟨t.start, 0, []⟩ := by unfold newP startP; rw [if_neg (by rw [HSRC.out]; decide), if_neg (by rw [HSRC.out]; decide), if_pos HSRC.out]
        rw [e]; exact h)
      have HB10 := Lib.hid (HB5.out.setCell (p := ⟨K, 10, none⟩) HKW.out.1 (.int .i64 t.start))
      clear h10
      go_wp2_with fail
      go_ret2
      exact .inr ⟨rfl, K, (.slice a3 t.back.length c3), rfl, HFI.out, HKW.out.1, HV3.out.2.1, HB10.out⟩
    · rw [hs] at q2
      have HSRC := Lib.hid hs
      clear hs
      have HFI := Lib.hid (show CAt tc tp W K t (.slice a3 t.back.length c3) (.slice none 0 0) (newP t L last) w5 from by
        have h := HC5.out
        have e : newP t L last = ⟨1, 0, []⟩ := by unfold newP startP; rw [if_neg (by rw [HSRC.out]; decide), if_neg (by rw [HSRC.out]; decide), if_neg (by rw [HSRC.out]; decide)]
        rw [e]; exact h)
      go_wp2_with fail
      go_ret2
      exact .inr ⟨rfl, K, (.slice a3 t.back.length c3), rfl, HFI.out, HKW.out.1, HV3.out.2.1, HB5.out⟩
  · have hz0 : ((er : Int) != 0) = true := by simpa using hz
    have HZ := Lib.hid hz
    clear hz
    go_wp2_with fail
    go_ret2
    exact .inl ⟨HZ.out, rfl, HB2.out⟩
end
end Go.Proofs.YtapmhpnkpjgefaaDoor.Con
