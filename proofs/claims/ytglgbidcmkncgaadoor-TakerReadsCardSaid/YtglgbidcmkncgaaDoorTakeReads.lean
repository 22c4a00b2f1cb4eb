/- The law TakerReads, walked: it returns true. -/
import Derived.Test.YtglgbidcmkncgaaDoorTakeRead
namespace Go.Proofs.YtglgbidcmkncgaaDoor.Subj
open Go.RowKit

theorem parseT_ret {w w' : World} {x : Option TakerP × Nat} (k : Nat) (hx : x = (none, k)) (hI : Inv w w') :
    ParseTPost w x (.returned (.tuple #[.agg (tCells ⟨#[]⟩ ⟨#[]⟩ 0 0 0 0 (.slice none 0 0) 0 0 false), .int .i64 k])) w' := by
  subst hx
  exact ⟨hI, ⟨#[]⟩, ⟨#[]⟩, 0, 0, 0, 0, .slice none 0 0, 0, 0, false, rfl, rfl, rfl, rfl, rfl, rfl, rfl, rfl, rfl, rfl, rfl⟩

set_option maxHeartbeats 1000000 in
set_option maxRecDepth 100000 in
theorem parseT_long (s : ByteArray) (w : World) (hs : s.size ≤ maxLen) (h : 1024 < s.size) (hm : ML w) (x : Option TakerP × Nat) (hx : x = (none, 2)) :
    Calls Tryd.prog 20 #[.string s] w (ParseTPost w x) := by
  have HM := Lib.hid hm
  have HX := Lib.hid hx
  clear hm hx
  unfold maxLen at hs
  go_enter Tryd.func20, Tryd.ntmps20
  go_wp2_with fail
  refine bodyPost_ret (v := .tuple #[.agg (tCells ⟨#[]⟩ ⟨#[]⟩ 0 0 0 0 (.slice none 0 0) 0 0 false), .int .i64 2]) (by simp [results, Tryd.results20, go_sem]) rfl ?_
  exact parseT_ret 2 HX.out (Inv.made HM.out _)

set_option maxHeartbeats 1000000 in
set_option maxRecDepth 100000 in
theorem parseT_one (s : ByteArray) (w : World) (h : s.size ≤ 1024) (hm : ML w) (t : Tok) (hp : piecesC 32 s.data.toList = [t]) (x : Option TakerP × Nat) (hx : x = (none, 3)) :
    Calls Tryd.prog 20 #[.string s] w (ParseTPost w x) := by
  have hsplit := split_c 32 s (w.alloc (.cells zeroT 37)) (by omega) ((Inv.made hm _).1)
  rw [hp] at hsplit
  have HS := Lib.hid hsplit
  have HM := Lib.hid hm
  have HX := Lib.hid hx
  clear hm hx hsplit hp
  go_enter Tryd.func20, Tryd.ntmps20
  go_wp2_with fail
  refine HS.out.mono ?_
  rintro e w1 ⟨rfl, hst, hb⟩
  have hI1 : Inv w w1 := Inv.step (Inv.made HM.out _) hb
  have hz1 : w1.heap[w.heap.size]? = some (.cells #[.string ⟨#[]⟩, .string ⟨#[]⟩, .int .i64 0, .int .i64 0, .int .i64 0, .int .i64 0, .slice none 0 0, .int .i64 0, .int .i64 0, .bool false] 37 (0, 0)) := (hb.block _ (by simp)).trans (heap_alloc_new w _)
  obtain ⟨z0, z1, z2, z3, z4, z5, z6, z7, z8, z9, zf⟩ := ten hz1
  have HI1 := Lib.hid hI1; have HZ1 := Lib.hid hz1
  clear hI1 hz1 hb
  go_wp2_with fail
  refine bodyPost_ret (v := .tuple #[.agg (tCells ⟨#[]⟩ ⟨#[]⟩ 0 0 0 0 (.slice none 0 0) 0 0 false), .int .i64 3]) (res_taker Tryd.results20 _ _ w.heap.size rfl rfl (set10 _ _ _ _ _ _ _ _ _ _ HZ1.out)) rfl ?_
  have hb := below10 (.string ⟨#[]⟩) (.string ⟨#[]⟩) (.int .i64 0) (.int .i64 0) (.int .i64 0) (.int .i64 0) (.slice none 0 0) (.int .i64 0) (.int .i64 0) (.bool false) HI1.out.2 (Nat.le_refl _)
  exact parseT_ret 3 HX.out ⟨HM.out.below hb, hb⟩

theorem parseT_any (s : ByteArray) (w : World) (hs : s.size ≤ maxLen) (hm : ML w) :
    Calls Tryd.prog 20 #[.string s] w (ParseTPost w (parseT s.data.toList)) := by
  unfold parseT
  have hl : s.data.toList.length = s.size := by simp
  rw [hl]
  by_cases h : 1024 < s.size
  · rw [if_pos h]; exact parseT_long s w hs h hm _ rfl
  · rw [if_neg h]
    rcases hp : piecesC 32 s.data.toList with _ | ⟨n, _ | ⟨f, r⟩⟩
    · exact absurd hp (piecesC_ne 32 _)
    · exact parseT_one s w (by omega) hm n hp _ rfl
    · exact parseT_words s w (by omega) hm n f r hp

set_option maxHeartbeats 1000000 in
set_option maxRecDepth 100000 in
theorem readT_long (s : ByteArray) (w : World) (hs : s.size ≤ maxLen) (h : 1024 < s.size) (hm : ML w) (x : Option TakerP × Nat) (hx : x = (none, 2)) :
    Calls Tryd.prog 21 #[.string s] w (ParseTPost w x) := by
  have HM := Lib.hid hm
  have HX := Lib.hid hx
  clear hm hx
  unfold maxLen at hs
  go_enter Tryd.func21, Tryd.ntmps21
  go_wp2_with fail
  refine bodyPost_ret (v := .tuple #[.agg (tCells ⟨#[]⟩ ⟨#[]⟩ 0 0 0 0 (.slice none 0 0) 0 0 false), .int .i64 2]) (by simp [results, Tryd.results21, go_sem]) rfl ?_
  exact parseT_ret 2 HX.out (Inv.made HM.out _)

set_option maxHeartbeats 1000000 in
set_option maxRecDepth 100000 in
theorem readT_one (s : ByteArray) (w : World) (h : s.size ≤ 1024) (hm : ML w) (t : Tok) (hp : piecesC 32 s.data.toList = [t]) (x : Option TakerP × Nat) (hx : x = (none, 3)) :
    Calls Tryd.prog 21 #[.string s] w (ParseTPost w x) := by
  have hsplit := pcs_any 32 s (w.alloc (.cells zeroT 37)) (by omega)
  rw [hp] at hsplit
  have HS := Lib.hid hsplit
  have HM := Lib.hid hm
  have HX := Lib.hid hx
  clear hm hx hsplit hp
  go_enter Tryd.func21, Tryd.ntmps21
  go_wp2_with fail
  refine HS.out.mono ?_
  rintro e w1 ⟨g, cap, rfl, hcap, _, _, _, hb⟩
  have hI1 : Inv w w1 := Inv.step (Inv.made HM.out _) hb
  have hz1 : w1.heap[w.heap.size]? = some (.cells #[.string ⟨#[]⟩, .string ⟨#[]⟩, .int .i64 0, .int .i64 0, .int .i64 0, .int .i64 0, .slice none 0 0, .int .i64 0, .int .i64 0, .bool false] 37 (0, 0)) := (hb.block _ (by simp)).trans (heap_alloc_new w _)
  obtain ⟨z0, z1, z2, z3, z4, z5, z6, z7, z8, z9, zf⟩ := ten hz1
  have HI1 := Lib.hid hI1; have HZ1 := Lib.hid hz1
  clear hI1 hz1 hb
  go_wp2_with fail
  refine bodyPost_ret (v := .tuple #[.agg (tCells ⟨#[]⟩ ⟨#[]⟩ 0 0 0 0 (.slice none 0 0) 0 0 false), .int .i64 3]) (res_taker Tryd.results21 _ _ w.heap.size rfl rfl (set10 _ _ _ _ _ _ _ _ _ _ HZ1.out)) rfl ?_
  have hb := below10 (.string ⟨#[]⟩) (.string ⟨#[]⟩) (.int .i64 0) (.int .i64 0) (.int .i64 0) (.int .i64 0) (.slice none 0 0) (.int .i64 0) (.int .i64 0) (.bool false) HI1.out.2 (Nat.le_refl _)
  exact parseT_ret 3 HX.out ⟨HM.out.below hb, hb⟩

theorem readT_any (s : ByteArray) (w : World) (hs : s.size ≤ maxLen) (hm : ML w) :
    Calls Tryd.prog 21 #[.string s] w (ParseTPost w (parseT s.data.toList)) := by
  unfold parseT
  have hl : s.data.toList.length = s.size := by simp
  rw [hl]
  by_cases h : 1024 < s.size
  · rw [if_pos h]; exact readT_long s w hs h hm _ rfl
  · rw [if_neg h]
    rcases hp : piecesC 32 s.data.toList with _ | ⟨n, _ | ⟨f, r⟩⟩
    · exact absurd hp (piecesC_ne 32 _)
    · exact readT_one s w (by omega) hm n hp _ rfl
    · exact readT_words s w (by omega) hm n f r hp

theorem equal_ints (va vb : Value) (zs : List Int) (w : World) (ha : Ints w va zs) (hb : Ints w vb zs) (hl : zs.length ≤ 9223372036854775807) :
    Calls Tryd.prog 64 #[va, vb] w fun e w' => e = .returned (.bool true) ∧ ∃ q, w' = w.drewN q := by
  obtain ⟨ao, ca, rfl, _, h1⟩ := ha
  obtain ⟨bo, cb, rfl, _, h2⟩ := hb
  by_cases hn : zs = []
  · subst hn
    refine (Tryd.slices_Equal_int_empty ao bo ca 0 cb w (by omega)).mono fun e w' ⟨a, b⟩ => ⟨by rw [a]; rfl, 0, by rw [b]; rfl⟩
  · obtain ⟨g, off, rfl, s1⟩ := h1 hn
    obtain ⟨g', off', rfl, s2⟩ := h2 hn
    exact (Tryd.slices_Equal_int g off zs.length ca g' off' zs.length cb zs zs w (Nat.le_refl _) (Nat.le_refl _) hl hl s1 s2).mono fun e w' ⟨a, b⟩ => ⟨by rw [a]; simp, b⟩

set_option maxHeartbeats 4000000 in
set_option maxRecDepth 100000 in
theorem sameT_true (name filt : ByteArray) (src start ack wait : Int) (va vb : Value) (most pend : Int) (push : Bool) (back : List Int) (w : World) (hl : back.length ≤ 9223372036854775807) (ha : Ints w va back) (hb : Ints w vb back) (hm : ML w) :
    Calls Tryd.prog 22 #[.agg (tCells name filt src start ack wait va most pend push), .agg (tCells name filt src start ack wait vb most pend push)] w (IsRet w true) := by
  obtain ⟨w1, hw1⟩ : ∃ w1, w1 = (w.alloc (.cells (tCells name filt src start ack wait va most pend push) 37)).alloc (.cells (tCells name filt src start ack wait vb most pend push) 37) := ⟨_, rfl⟩
  have hI1 : Inv w w1 := by rw [hw1]; exact (Inv.refl hm).step (((Below.refl _ _).alloc (Nat.le_refl _) _).alloc (by simp) _)
  have hA : w1.heap[w.heap.size]? = some (.cells (tCells name filt src start ack wait va most pend push) 37 (0, 0)) := by
    rw [hw1, Below.heap_alloc _ _ _ (by simp)]; exact heap_alloc_new _ _
  have hB : w1.heap[w.heap.size + 1]? = some (.cells (tCells name filt src start ack wait vb most pend push) 37 (0, 0)) := by
    rw [hw1]
    have := heap_alloc_new (w.alloc (.cells (tCells name filt src start ack wait va most pend push) 37)) (.cells (tCells name filt src start ack wait vb most pend push) 37)
    rw [show (w.alloc (.cells (tCells name filt src start ack wait va most pend push) 37)).heap.size = w.heap.size + 1 from by simp] at this
    exact this
  have HEQ := Lib.hid (equal_ints va vb back w1 (ha.below hI1.2) (hb.below hI1.2) hl)
  have HI1 := Lib.hid hI1
  obtain ⟨y0, y1, y2, y3, y4, y5, y6, y7, y8, y9, yf⟩ := ten hA
  obtain ⟨z0, z1, z2, z3, z4, z5, z6, z7, z8, z9, zf⟩ := ten hB
  obtain ⟨ao, ca, rfl, -⟩ := ha
  obtain ⟨bo, cb, rfl, -⟩ := hb
  clear hI1 hA hB hm hl
  go_enter Tryd.func22, Tryd.ntmps22
  go_wp2_with fail
  rw [← hw1]
  clear hw1
  refine HEQ.out.mono ?_
  rintro e w' ⟨rfl, q, rfl⟩
  go_wp2
  go_ret
  exact ⟨by simp, HI1.out.step (below_drewN (Below.refl _ _) _)⟩

theorem bytes_eqT {a b : ByteArray} (h : a.data.toList = b.data.toList) : a = b := by
  apply ByteArray.ext; exact Array.ext' h

def takerOf (x : Option TakerP × Nat) : TakerP := x.1.getD ⟨[], [], 0, 0, 0, 0, [], 0, 0, false⟩

theorem ParseTPost.taker {W w : World} {x : Option TakerP × Nat} {e : Ending} (h : ParseTPost W x e w) :
    Inv W w ∧ ∃ (nm ft : ByteArray) (src start ack wait : Int) (vb : Value) (most pend : Int) (push : Bool), e = .returned (.tuple #[.agg (tCells nm ft src start ack wait vb most pend push), .int .i64 x.2]) ∧
      nm.data.toList = (takerOf x).name ∧ ft.data.toList = (takerOf x).filt ∧ src = (takerOf x).src ∧ start = (takerOf x).start ∧ ack = (takerOf x).ack ∧ wait = (takerOf x).wait ∧ Ints w vb (takerOf x).back ∧ most = (takerOf x).most ∧ pend = (takerOf x).pend ∧ push = (takerOf x).push := by
  obtain ⟨hI, nm, ft, src, start, ack, wait, vb, most, pend, push, he, hx⟩ := h
  refine ⟨hI, nm, ft, src, start, ack, wait, vb, most, pend, push, he, ?_⟩
  unfold takerOf
  cases hx1 : x.1 with
  | some p => rw [hx1] at hx; exact hx
  | none =>
    rw [hx1] at hx
    obtain ⟨rfl, rfl, rfl, rfl, rfl, rfl, rfl, rfl, rfl, rfl⟩ := hx
    exact ⟨rfl, rfl, rfl, rfl, rfl, rfl, ⟨none, 0, rfl, Nat.le_refl _, fun h => absurd rfl h⟩, rfl, rfl, rfl⟩

theorem ansT_few (E : Option TakerP) : (takerOf (ansT E)).back.length ≤ 5 := by
  unfold ansT
  split
  · split
    · rename_i t h
      unfold errT takerErr at h
      split at h
      · split at h
        · split at h
          · cases h
          · show t.back.length ≤ 5; omega
        · contradiction
      · cases h
    · simp [takerOf]
  · simp [takerOf]

theorem takerOf_few (s : List UInt8) : (takerOf (parseT s)).back.length ≤ 5 := by
  unfold parseT
  split
  · simp [takerOf]
  · split
    · exact ansT_few _
    · simp [takerOf]

set_option maxHeartbeats 4000000 in
set_option maxRecDepth 100000 in
theorem takerReads_walkM (s : ByteArray) (w : World) (hs' : s.size ≤ maxLen) (hm : ML w) :
    Calls Tryd.prog 5 #[.string s] w (IsRet w true) := by
  have HP := Lib.hid (parseT_any s w hs' hm)
  have HR := Lib.hid (fun w1 (h : Inv w w1) => readT_any s w1 hs' h.1)
  have HFEW := Lib.hid (takerOf_few s.data.toList)
  clear hs' hm
  generalize parseT s.data.toList = x at *
  go_enter Tryd.func5, Tryd.ntmps5
  go_wp2_with fail
  refine HP.out.mono ?_
  intro e w1 hpost
  obtain ⟨hI1, nm, ft, src, start, ack, wait, vb, most, pend, push, rfl, e1, e2, e3, e4, e5, e6, hS, e7, e8, e9⟩ := hpost.taker
  have hbk : Below w1.heap.size w1 (w1.alloc (.cells (tCells nm ft src start ack wait vb most pend push) 37)) := (Below.refl _ _).alloc (Nat.le_refl _) _
  obtain ⟨w2, hw2⟩ : ∃ w2, w2 = w1.alloc (.cells (tCells nm ft src start ack wait vb most pend push) 37) := ⟨_, rfl⟩
  have hA := ten_alloc w1 37 (.string nm) (.string ft) (.int .i64 src) (.int .i64 start) (.int .i64 ack) (.int .i64 wait) vb (.int .i64 most) (.int .i64 pend) (.bool push)
  rw [← hw2] at hbk hA
  have HI2 := Lib.hid (hI1.step hbk); have HA := Lib.hid hA; have HS2 := Lib.hid (hS.below hbk)
  have HEQ := Lib.hid (⟨e1, e2, e3, e4, e5, e6, e7, e8, e9⟩ : nm.data.toList = (takerOf x).name ∧ ft.data.toList = (takerOf x).filt ∧ src = (takerOf x).src ∧ start = (takerOf x).start ∧ ack = (takerOf x).ack ∧ wait = (takerOf x).wait ∧ most = (takerOf x).most ∧ pend = (takerOf x).pend ∧ push = (takerOf x).push)
  obtain ⟨ao, cap, rfl, -⟩ := id hS
  clear hI1 hA hS e1 e2 e3 e4 e5 e6 e7 e8 e9 hpost HP hbk
  go_upto_region 2 with fail
  rw [← hw2]
  clear hw2
  go_wp2_with fail
  refine (HR.out _ HI2.out).mono ?_
  intro e w3 hpost
  obtain ⟨hI3, nm', ft', src', start', ack', wait', vb', most', pend', push', rfl, f1, f2, f3, f4, f5, f6, hS', f7, f8, f9⟩ := hpost.taker
  obtain ⟨e1, e2, e3, e4, e5, e6, e7, e8, e9⟩ := HEQ.out
  obtain rfl : nm = nm' := bytes_eqT (e1.trans f1.symm)
  obtain rfl : ft = ft' := bytes_eqT (e2.trans f2.symm)
  obtain rfl : src = src' := e3.trans f3.symm
  obtain rfl : start = start' := e4.trans f4.symm
  obtain rfl : ack = ack' := e5.trans f5.symm
  obtain rfl : wait = wait' := e6.trans f6.symm
  obtain rfl : most = most' := e7.trans f7.symm
  obtain rfl : pend = pend' := e8.trans f8.symm
  obtain rfl : push = push' := e9.trans f9.symm
  have hbk : Below w3.heap.size w3 (w3.alloc (.cells (tCells nm ft src start ack wait vb' most pend push) 37)) := (Below.refl _ _).alloc (Nat.le_refl _) _
  obtain ⟨w4, hw4⟩ : ∃ w4, w4 = w3.alloc (.cells (tCells nm ft src start ack wait vb' most pend push) 37) := ⟨_, rfl⟩
  have hB := ten_alloc w3 37 (.string nm) (.string ft) (.int .i64 src) (.int .i64 start) (.int .i64 ack) (.int .i64 wait) vb' (.int .i64 most) (.int .i64 pend) (.bool push)
  rw [← hw4] at hbk hB
  have hA4 := (hI3.step hbk).blk HA.out
  have HSA := Lib.hid (HS2.out.below (hI3.step hbk).2); have HSB := Lib.hid (hS'.below hbk)
  have HI4 := Lib.hid (HI2.out.thru (hI3.step hbk))
  obtain ⟨q0, q1, q2, q3, q4, q5, q6, q7, q8, q9, qf⟩ := ten hA4
  obtain ⟨z0, z1, z2, z3, z4, z5, z6, z7, z8, z9, zf⟩ := ten hB
  obtain ⟨bo, cap', rfl, -⟩ := id hS'
  have HFEW2 := Lib.hid (show (takerOf x).back.length ≤ 9223372036854775807 from by have := HFEW.out; omega)
  clear e1 e2 e3 e4 e5 e6 e7 e8 e9 f1 f2 f3 f4 f5 f6 f7 f8 f9 hS' hbk hA4 hB hI3 hpost HR HA HS2 HI2 HFEW HEQ
  go_upto_region 3 with fail
  rw [← hw4]
  clear hw4
  go_wp2_with fail
  refine (sameT_true _ _ _ _ _ _ _ _ _ _ _ _ _ HFEW2.out HSA.out HSB.out HI4.out.1).mono ?_
  rintro e w5 ⟨rfl, hI5⟩
  have HI5 := Lib.hid (HI4.out.thru hI5)
  clear hI5 HI4 HSA HSB q0 q1 q2 q3 q4 q5 q6 q7 q8 q9 z0 z1 z2 z3 z4 z5 z6 z7 z8 z9 qf zf
  go_wp2
  go_ret
  exact ⟨by simp, HI5.out⟩

theorem takerReads_walk (s : ByteArray) (w : World) (hs : s.size ≤ 1048576) (hm : ML w) :
    Calls Tryd.prog 5 #[.string s] w (IsRet w true) := takerReads_walkM s w (by unfold maxLen; omega) hm

end Go.Proofs.YtglgbidcmkncgaaDoor.Subj
