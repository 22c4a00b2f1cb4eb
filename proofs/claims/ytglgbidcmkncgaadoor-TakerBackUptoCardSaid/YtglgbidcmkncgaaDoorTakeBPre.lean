/- taker.Parse whatever it is handed; two consumers' plans that are the same: for TakerBack. -/
import Derived.Test.YtglgbidcmkncgaaDoorTakeParse
namespace Go.Proofs.YtglgbidcmkncgaaDoor.Subj
open Go.RowKit

theorem parseT_ret {w w' : World} {x : Option TakerP × Nat} (k : Nat) (hx : x = (none, k)) (hI : Inv w w') :
    ParseTPost w x (.returned (.tuple #[.agg (tCells ⟨#[]⟩ ⟨#[]⟩ 0 0 0 0 (.slice none 0 0) 0 0 false), .int .i64 k])) w' := by
  subst hx
  exact ⟨hI, ⟨#[]⟩, ⟨#[]⟩, 0, 0, 0, 0, .slice none 0 0, 0, 0, false, rfl, rfl, rfl, rfl, rfl, rfl, rfl, rfl, rfl, rfl, rfl⟩

set_option maxHeartbeats 1000000 in
set_option maxRecDepth 100000 in
theorem parseT_long (s : ByteArray) (w : World) (hs : s.size ≤ maxLen) (h : 1024 < s.size) (hm : ML w) (x : Option TakerP × Nat) (hx : x = (none, 2)) :
    Calls Tryd.prog 20 #[.string s] w (ParseTPost w x) := by
  have HM := Lib.hid hm
  have HX := Lib.hid hx
  clear hm hx
  unfold maxLen at hs
  go_enter Tryd.func20, Tryd.ntmps20
  go_wp2_with fail
  refine bodyPost_ret (v := .tuple #[.agg (tCells ⟨#[]⟩ ⟨#[]⟩ 0 0 0 0 (.slice none 0 0) 0 0 false), .int .i64 2]) (by simp [results, Tryd.results20, go_sem]) rfl ?_
  exact parseT_ret 2 HX.out (Inv.made HM.out _)

set_option maxHeartbeats 1000000 in
set_option maxRecDepth 100000 in
theorem parseT_one (s : ByteArray) (w : World) (h : s.size ≤ 1024) (hm : ML w) (t : Tok) (hp : piecesC 32 s.data.toList = [t]) (x : Option TakerP × Nat) (hx : x = (none, 3)) :
    Calls Tryd.prog 20 #[.string s] w (ParseTPost w x) := by
  have hsplit := split_c 32 s (w.alloc (.cells zeroT 37)) (by omega) ((Inv.made hm _).1)
  rw [hp] at hsplit
  have HS := Lib.hid hsplit
  have HM := Lib.hid hm
  have HX := Lib.hid hx
  clear hm hx hsplit hp
  go_enter Tryd.func20, Tryd.ntmps20
  go_wp2_with fail
  refine HS.out.mono ?_
  rintro e w1 ⟨rfl, hst, hb⟩
  have hI1 : Inv w w1 := Inv.step (Inv.made HM.out _) hb
  have hz1 : w1.heap[w.heap.size]? = some (.cells #[.string ⟨#[]⟩, .string ⟨#[]⟩, .int .i64 0, .int .i64 0, .int .i64 0, .int .i64 0, .slice none 0 0, .int .i64 0, .int .i64 0, .bool false] 37 (0, 0)) := (hb.block _ (by simp)).trans (heap_alloc_new w _)
  obtain ⟨z0, z1, z2, z3, z4, z5, z6, z7, z8, z9, zf⟩ := ten hz1
  have HI1 := Lib.hid hI1; have HZ1 := Lib.hid hz1
  clear hI1 hz1 hb
  go_wp2_with fail
  refine bodyPost_ret (v := .tuple #[.agg (tCells ⟨#[]⟩ ⟨#[]⟩ 0 0 0 0 (.slice none 0 0) 0 0 false), .int .i64 3]) (res_taker Tryd.results20 _ _ w.heap.size rfl rfl (set10 _ _ _ _ _ _ _ _ _ _ HZ1.out)) rfl ?_
  have hb := below10 (.string ⟨#[]⟩) (.string ⟨#[]⟩) (.int .i64 0) (.int .i64 0) (.int .i64 0) (.int .i64 0) (.slice none 0 0) (.int .i64 0) (.int .i64 0) (.bool false) HI1.out.2 (Nat.le_refl _)
  exact parseT_ret 3 HX.out ⟨HM.out.below hb, hb⟩

theorem parseT_any (s : ByteArray) (w : World) (hs : s.size ≤ maxLen) (hm : ML w) :
    Calls Tryd.prog 20 #[.string s] w (ParseTPost w (parseT s.data.toList)) := by
  unfold parseT
  have hl : s.data.toList.length = s.size := by simp
  rw [hl]
  by_cases h : 1024 < s.size
  · rw [if_pos h]; exact parseT_long s w hs h hm _ rfl
  · rw [if_neg h]
    rcases hp : piecesC 32 s.data.toList with _ | ⟨n, _ | ⟨f, r⟩⟩
    · exact absurd hp (piecesC_ne 32 _)
    · exact parseT_one s w (by omega) hm n hp _ rfl
    · exact parseT_words s w (by omega) hm n f r hp

theorem equal_ints (va vb : Value) (zs : List Int) (w : World) (ha : Ints w va zs) (hb : Ints w vb zs) (hl : zs.length ≤ 9223372036854775807) :
    Calls Tryd.prog 64 #[va, vb] w fun e w' => e = .returned (.bool true) ∧ ∃ q, w' = w.drewN q := by
  obtain ⟨ao, ca, rfl, _, h1⟩ := ha
  obtain ⟨bo, cb, rfl, _, h2⟩ := hb
  by_cases hn : zs = []
  · subst hn
    refine (Tryd.slices_Equal_int_empty ao bo ca 0 cb w (by omega)).mono fun e w' ⟨a, b⟩ => ⟨by rw [a]; rfl, 0, by rw [b]; rfl⟩
  · obtain ⟨g, off, rfl, s1⟩ := h1 hn
    obtain ⟨g', off', rfl, s2⟩ := h2 hn
    exact (Tryd.slices_Equal_int g off zs.length ca g' off' zs.length cb zs zs w (Nat.le_refl _) (Nat.le_refl _) hl hl s1 s2).mono fun e w' ⟨a, b⟩ => ⟨by rw [a]; simp, b⟩

set_option maxHeartbeats 4000000 in
set_option maxRecDepth 100000 in
theorem sameT_true (name filt : ByteArray) (src start ack wait : Int) (va vb : Value) (most pend : Int) (push : Bool) (back : List Int) (w : World) (hl : back.length ≤ 9223372036854775807) (ha : Ints w va back) (hb : Ints w vb back) (hm : ML w) :
    Calls Tryd.prog 22 #[.agg (tCells name filt src start ack wait va most pend push), .agg (tCells name filt src start ack wait vb most pend push)] w (IsRet w true) := by
  obtain ⟨w1, hw1⟩ : ∃ w1, w1 = (w.alloc (.cells (tCells name filt src start ack wait va most pend push) 37)).alloc (.cells (tCells name filt src start ack wait vb most pend push) 37) := ⟨_, rfl⟩
  have hI1 : Inv w w1 := by rw [hw1]; exact (Inv.refl hm).step (((Below.refl _ _).alloc (Nat.le_refl _) _).alloc (by simp) _)
  have hA : w1.heap[w.heap.size]? = some (.cells (tCells name filt src start ack wait va most pend push) 37 (0, 0)) := by
    rw [hw1, Below.heap_alloc _ _ _ (by simp)]; exact heap_alloc_new _ _
  have hB : w1.heap[w.heap.size + 1]? = some (.cells (tCells name filt src start ack wait vb most pend push) 37 (0, 0)) := by
    rw [hw1]
    have := heap_alloc_new (w.alloc (.cells (tCells name filt src start ack wait va most pend push) 37)) (.cells (tCells name filt src start ack wait vb most pend push) 37)
    rw [show (w.alloc (.cells (tCells name filt src start ack wait va most pend push) 37)).heap.size = w.heap.size + 1 from by simp] at this
    exact this
  have HEQ := Lib.hid (equal_ints va vb back w1 (ha.below hI1.2) (hb.below hI1.2) hl)
  have HI1 := Lib.hid hI1
  obtain ⟨y0, y1, y2, y3, y4, y5, y6, y7, y8, y9, yf⟩ := ten hA
  obtain ⟨z0, z1, z2, z3, z4, z5, z6, z7, z8, z9, zf⟩ := ten hB
  obtain ⟨ao, ca, rfl, -⟩ := ha
  obtain ⟨bo, cb, rfl, -⟩ := hb
  clear hI1 hA hB hm hl
  go_enter Tryd.func22, Tryd.ntmps22
  go_wp2_with fail
  rw [← hw1]
  clear hw1
  refine HEQ.out.mono ?_
  rintro e w' ⟨rfl, q, rfl⟩
  go_wp2
  go_ret
  exact ⟨by simp, HI1.out.step (below_drewN (Below.refl _ _) _)⟩

theorem bytes_eqT {a b : ByteArray} (h : a.data.toList = b.data.toList) : a = b := by
  apply ByteArray.ext; exact Array.ext' h
end Go.Proofs.YtglgbidcmkncgaaDoor.Subj
