/- rillref.front, rillref.SamePlan and rillref.ReadPlan, walked. -/
import Derived.Test.YtglgbidcmkncgaaDoorPlanRef
import Derived.Test.YtglgbidcmkncgaaDoorPlanEnds
namespace Go.Proofs.YtglgbidcmkncgaaDoor.Subj
open Go.RowKit

theorem pre_len {p t : List UInt8} (h : p.isPrefixOf t = true) : p.length ≤ t.length := by
  rw [List.isPrefixOf_iff_prefix] at h
  exact h.length_le

theorem pre_take {p t : List UInt8} : p.isPrefixOf t = (t.take p.length == p) := by
  rw [Bool.eq_iff_iff, List.isPrefixOf_iff_prefix, beq_iff_eq, List.prefix_iff_eq_take]
  exact ⟨fun h => h.symm, fun h => h.symm⟩

theorem ext_front (t : ByteArray) (n : Nat) : (t.extract 0 n).toList = t.data.toList.take n := by
  rw [ByteArray.toList_eq]
  simp

theorem ext_back (t : ByteArray) (n : Nat) : t.extract n t.size = ⟨(t.data.toList.drop n).toArray⟩ := by
  apply ByteArray.ext
  apply Array.ext'
  simp
  exact List.take_of_length_le (by simp)

set_option maxRecDepth 100000 in
theorem front_yes (t p : ByteArray) (w : World) (ht : t.size ≤ maxLen) (h : p.data.toList.isPrefixOf t.data.toList = true) :
    Calls Tryd.prog 60 #[.string t, .string p] w fun e w' => e = .returned (.tuple #[.string ⟨(t.data.toList.drop p.data.toList.length).toArray⟩, .bool true]) ∧ w' = w := by
  have hl := pre_len h
  have hp : p.data.toList.length = p.size := by simp
  have hq : t.data.toList.length = t.size := by simp
  rw [hp, hq] at hl
  rw [pre_take, hp] at h
  rw [hp]
  have d1 : (!(t.extract 0 p.size).toList == p.toList) = false := by
    rw [ext_front, ByteArray.toList_eq, h]; rfl
  have d2 : decide (t.size < p.size) = false := by simp; omega
  unfold maxLen at ht
  clear h hp hq
  go_enter Tryd.func60, Tryd.ntmps60
  go_wp2
  go_ret2
  exact ⟨by rw [← ext_back]; rfl, rfl⟩

set_option maxRecDepth 100000 in
theorem front_no (t p : ByteArray) (w : World) (ht : t.size ≤ maxLen) (h : p.data.toList.isPrefixOf t.data.toList = false) :
    Calls Tryd.prog 60 #[.string t, .string p] w fun e w' => e = .returned (.tuple #[.string ⟨#[]⟩, .bool false]) ∧ w' = w := by
  have hp : p.data.toList.length = p.size := by simp
  rw [pre_take, hp] at h
  by_cases hl : p.size ≤ t.size
  · have d1 : (!(t.extract 0 p.size).toList == p.toList) = true := by
      rw [ext_front, ByteArray.toList_eq, h]; rfl
    have d2 : decide (t.size < p.size) = false := by simp; omega
    unfold maxLen at ht
    clear h hp
    go_enter Tryd.func60, Tryd.ntmps60
    go_wp2
    go_ret2
    exact ⟨rfl, rfl⟩
  · have d2 : decide (t.size < p.size) = true := by simp; omega
    have d3 : t.size < p.size := by omega
    unfold maxLen at ht
    clear h hp hl
    go_enter Tryd.func60, Tryd.ntmps60
    go_wp2
    go_ret2
    exact ⟨rfl, rfl⟩

/-! ### Are two the same? -/
theorem equal_strs (va vb : Value) (fs : List Tok) (w : World) (ha : Strs w va fs) (hb : Strs w vb fs) (hl : fs.length ≤ 9223372036854775807) :
    Calls Tryd.prog 63 #[va, vb] w fun e w' => e = .returned (.bool true) ∧ ∃ q, w' = w.drewN q := by
  obtain ⟨ao, ca, rfl, _, h1⟩ := ha
  obtain ⟨bo, cb, rfl, _, h2⟩ := hb
  by_cases hn : fs = []
  · subst hn
    refine (Tryd.slices_Equal_string_empty ao bo ca 0 cb w (by omega)).mono fun e w' ⟨a, b⟩ => ⟨by rw [a]; rfl, 0, by rw [b]; rfl⟩
  · obtain ⟨g, off, rfl, s1⟩ := h1 hn
    obtain ⟨g', off', rfl, s2⟩ := h2 hn
    have hlen : (fs.map fun t => (⟨t.toArray⟩ : ByteArray)).length = fs.length := by simp
    have hget : ∀ j, j < fs.length → (fs.map fun t => (⟨t.toArray⟩ : ByteArray)).getD j ByteArray.empty = strAt fs j := fun j hj => by
      unfold strAt; simp [List.getD, hj]
    refine (Tryd.slices_Equal_string g off fs.length ca g' off' fs.length cb (fs.map fun t => ⟨t.toArray⟩) (fs.map fun t => ⟨t.toArray⟩) w (by omega) (by omega) hl hl ?_ ?_).mono fun e w' ⟨a, b⟩ => ⟨by rw [a]; simp, b⟩
    · intro j hj
      rw [hlen] at hj
      rw [hget j hj]; exact s1 j hj
    · intro j hj
      rw [hlen] at hj
      rw [hget j hj]; exact s2 j hj

theorem equal_nums (g1 g2 : Nat) (vs : List Int) (hv : vs.length = 8) (w : World) (h1 : NumsAt g1 vs w) (h2 : NumsAt g2 vs w) :
    Calls Tryd.prog 64 #[.slice (some ⟨g1, 0, none⟩) 8 8, .slice (some ⟨g2, 0, none⟩) 8 8] w fun e w' => e = .returned (.bool true) ∧ ∃ q, w' = w.drewN q := by
  refine (Tryd.slices_Equal_int g1 0 8 8 g2 0 8 8 vs vs w (by omega) (by omega) (by omega) (by omega) ?_ ?_).mono fun e w' ⟨a, b⟩ => ⟨by rw [a]; simp, b⟩
  · intro j hj; rw [Nat.zero_add]; exact h1 j (by omega)
  · intro j hj; rw [Nat.zero_add]; exact h2 j (by omega)

set_option maxHeartbeats 4000000 in
set_option maxRecDepth 100000 in
theorem same_true (name : ByteArray) (va vb : Value) (fs : List Tok) (x0 x1 x2 x3 x4 x5 x6 x7 : Int) (w : World) (hl : fs.length ≤ 9223372036854775807) (ha : Strs w va fs) (hb : Strs w vb fs) (hm : ML w) :
    Calls Tryd.prog 19 #[.agg #[.string name, va, .int .i64 x0, .int .i64 x1, .int .i64 x2, .int .i64 x3, .int .i64 x4, .int .i64 x5, .int .i64 x6, .int .i64 x7],
      .agg #[.string name, vb, .int .i64 x0, .int .i64 x1, .int .i64 x2, .int .i64 x3, .int .i64 x4, .int .i64 x5, .int .i64 x6, .int .i64 x7]] w (IsRet w true) := by
  obtain ⟨w1, hw1⟩ : ∃ w1, w1 = (w.alloc (.cells #[.string name, va, .int .i64 x0, .int .i64 x1, .int .i64 x2, .int .i64 x3, .int .i64 x4, .int .i64 x5, .int .i64 x6, .int .i64 x7] 29)).alloc
    (.cells #[.string name, vb, .int .i64 x0, .int .i64 x1, .int .i64 x2, .int .i64 x3, .int .i64 x4, .int .i64 x5, .int .i64 x6, .int .i64 x7] 29) := ⟨_, rfl⟩
  have hI1 : Inv w w1 := by rw [hw1]; exact (Inv.refl hm).step (by go_grown)
  have hA : w1.heap[w.heap.size]? = some (.cells #[.string name, va, .int .i64 x0, .int .i64 x1, .int .i64 x2, .int .i64 x3, .int .i64 x4, .int .i64 x5, .int .i64 x6, .int .i64 x7] 29 (0, 0)) := by
    rw [hw1, Below.heap_alloc _ _ _ (by simp)]; exact heap_alloc_new _ _
  have hB : w1.heap[w.heap.size + 1]? = some (.cells #[.string name, vb, .int .i64 x0, .int .i64 x1, .int .i64 x2, .int .i64 x3, .int .i64 x4, .int .i64 x5, .int .i64 x6, .int .i64 x7] 29 (0, 0)) := by
    rw [hw1]
    have := heap_alloc_new (w.alloc (.cells #[.string name, va, .int .i64 x0, .int .i64 x1, .int .i64 x2, .int .i64 x3, .int .i64 x4, .int .i64 x5, .int .i64 x6, .int .i64 x7] 29)) (.cells #[.string name, vb, .int .i64 x0, .int .i64 x1, .int .i64 x2, .int .i64 x3, .int .i64 x4, .int .i64 x5, .int .i64 x6, .int .i64 x7] 29)
    rw [show (w.alloc (.cells #[.string name, va, .int .i64 x0, .int .i64 x1, .int .i64 x2, .int .i64 x3, .int .i64 x4, .int .i64 x5, .int .i64 x6, .int .i64 x7] 29)).heap.size = w.heap.size + 1 from by simp] at this
    exact this
  have HSA := Lib.hid (ha.below hI1.2)
  have HSB := Lib.hid (hb.below hI1.2)
  have HI1 := Lib.hid hI1; have HA := Lib.hid hA; have HB := Lib.hid hB; have HL := Lib.hid hl
  clear hI1 hA hB ha hb hm hl
  go_enter Tryd.func19, Tryd.ntmps19
  go_wp2_with fail
  rw [← hw1]
  have HW1 := Lib.hid hw1
  clear hw1
  have e1 := ten HA.out
  obtain ⟨y0, y1, y2, y3, y4, y5, y6, y7, y8, y9, yf⟩ := e1
  go_wp2_with fail
  refine (values_any _ _ _ _ _ _ _ _ _ _ _).mono ?_
  rintro e w2 ⟨g1, g2, rfl, hn1, _, hb2⟩
  have hB2 := (hb2.block _ (Array.getElem?_eq_some_iff.1 HB.out).1).trans HB.out
  have hA2 := (hb2.block _ (Array.getElem?_eq_some_iff.1 HA.out).1).trans HA.out
  have HI2 := Lib.hid (HI1.out.step hb2)
  have HSA2 := Lib.hid (HSA.out.below hb2)
  have HSB2 := Lib.hid (HSB.out.below hb2)
  have HN1 := Lib.hid hn1
  have HA2 := Lib.hid hA2; have HB2 := Lib.hid hB2
  clear hn1 hb2 y0 y1 y2 y3 y4 y5 y6 y7 y8 y9 yf hA2 hB2 HSA HSB HI1
  have e1 := ten HB2.out
  obtain ⟨y0, y1, y2, y3, y4, y5, y6, y7, y8, y9, yf⟩ := e1
  go_wp2_with fail
  refine (values_any _ _ _ _ _ _ _ _ _ _ _).mono ?_
  rintro e w3 ⟨g3, g4, rfl, hn3, _, hb3⟩
  have hB3 := (hb3.block _ (Array.getElem?_eq_some_iff.1 HB2.out).1).trans HB2.out
  have hA3 := (hb3.block _ (Array.getElem?_eq_some_iff.1 HA2.out).1).trans HA2.out
  have HI3 := Lib.hid (HI2.out.step hb3)
  have HSA3 := Lib.hid (HSA2.out.below hb3)
  have HSB3 := Lib.hid (HSB2.out.below hb3)
  have HN2 := Lib.hid (HN1.out.below hb3)
  have HN3 := Lib.hid hn3
  clear hn3 hb3 y0 y1 y2 y3 y4 y5 y6 y7 y8 y9 yf HSA2 HSB2 HI2 HN1 HA2 HB2
  have e1 := ten hA3
  obtain ⟨y0, y1, y2, y3, y4, y5, y6, y7, y8, y9, yf⟩ := e1
  have e1 := ten hB3
  obtain ⟨z0, z1, z2, z3, z4, z5, z6, z7, z8, z9, zf⟩ := e1
  clear hA3 hB3
  go_wp2_with fail
  refine (equal_strs va vb fs _ HSA3.out HSB3.out HL.out).mono ?_
  rintro e w4 ⟨rfl, q, rfl⟩
  go_wp2_with fail
  refine (equal_nums g1 g3 [x0, x1, x2, x3, x4, x5, x6, x7] rfl _ (HN2.out.below (below_drewN (Below.refl _ _) _)) (HN3.out.below (below_drewN (Below.refl _ _) _))).mono ?_
  rintro e w5 ⟨rfl, q', rfl⟩
  go_wp2
  go_ret
  exact ⟨rfl, HI3.out.step (below_drewN (Below.refl _ _) _)⟩

end Go.Proofs.YtglgbidcmkncgaaDoor.Subj
