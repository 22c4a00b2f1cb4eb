/- Parts of the proof, joined: rillref.front, rillref.SamePlan and rillref.ReadPlan, walked.; rillref.SameTaker of two like ones, walked. -/
import Derived.Test.YtbgchhgdlceceaaGreatDoorPlansOwnUptoM44
namespace Go.Proofs.YtbgchhgdlceceaaGreatDoor.Subj
open Go.RowKit

/-! ### Are two the same? -/
theorem equal_strs (va vb : Value) (fs : List Tok) (w : World) (ha : Strs w va fs) (hb : Strs w vb fs) (hl : fs.length ≤ 9223372036854775807) :
    Calls Tryz.prog 99 #[va, vb] w fun e w' => e = .returned (.bool true) ∧ ∃ q, w' = w.drewN q := by
  obtain ⟨ao, ca, rfl, _, h1⟩ := ha
  obtain ⟨bo, cb, rfl, _, h2⟩ := hb
  by_cases hn : fs = []
  · subst hn
    refine (Tryz.slices_Equal_string_empty ao bo ca 0 cb w (by omega)).mono fun e w' ⟨a, b⟩ => ⟨by rw [a]; rfl, 0, by rw [b]; rfl⟩
  · obtain ⟨g, off, rfl, s1⟩ := h1 hn
    obtain ⟨g', off', rfl, s2⟩ := h2 hn
    have hlen : (fs.map fun t => (⟨t.toArray⟩ : ByteArray)).length = fs.length := by simp
    have hget : ∀ j, j < fs.length → (fs.map fun t => (⟨t.toArray⟩ : ByteArray)).getD j ByteArray.empty = strAt fs j := fun j hj => by
      unfold strAt; simp [List.getD, hj]
    refine (Tryz.slices_Equal_string g off fs.length ca g' off' fs.length cb (fs.map fun t => ⟨t.toArray⟩) (fs.map fun t => ⟨t.toArray⟩) w (by omega) (by omega) hl hl ?_ ?_).mono fun e w' ⟨a, b⟩ => ⟨by rw [a]; simp, b⟩
    · intro j hj
      rw [hlen] at hj
      rw [hget j hj]; exact s1 j hj
    · intro j hj
      rw [hlen] at hj
      rw [hget j hj]; exact s2 j hj

theorem equal_nums (g1 g2 : Nat) (vs : List Int) (hv : vs.length = 8) (w : World) (h1 : NumsAt g1 vs w) (h2 : NumsAt g2 vs w) :
    Calls Tryz.prog 56 #[.slice (some ⟨g1, 0, none⟩) 8 8, .slice (some ⟨g2, 0, none⟩) 8 8] w fun e w' => e = .returned (.bool true) ∧ ∃ q, w' = w.drewN q := by
  refine (Tryz.slices_Equal_int g1 0 8 8 g2 0 8 8 vs vs w (by omega) (by omega) (by omega) (by omega) ?_ ?_).mono fun e w' ⟨a, b⟩ => ⟨by rw [a]; simp, b⟩
  · intro j hj; rw [Nat.zero_add]; exact h1 j (by omega)
  · intro j hj; rw [Nat.zero_add]; exact h2 j (by omega)

set_option maxHeartbeats 4000000 in
set_option maxRecDepth 100000 in
theorem same_true (name : ByteArray) (va vb : Value) (fs : List Tok) (x0 x1 x2 x3 x4 x5 x6 x7 : Int) (w : World) (hl : fs.length ≤ 9223372036854775807) (ha : Strs w va fs) (hb : Strs w vb fs) (hm : ML w) :
    Calls Tryz.prog 35 #[.agg #[.string name, va, .int .i64 x0, .int .i64 x1, .int .i64 x2, .int .i64 x3, .int .i64 x4, .int .i64 x5, .int .i64 x6, .int .i64 x7],
      .agg #[.string name, vb, .int .i64 x0, .int .i64 x1, .int .i64 x2, .int .i64 x3, .int .i64 x4, .int .i64 x5, .int .i64 x6, .int .i64 x7]] w (IsRet w true) := by
  obtain ⟨w1, hw1⟩ : ∃ w1, w1 = (w.alloc (.cells #[.string name, va, .int .i64 x0, .int .i64 x1, .int .i64 x2, .int .i64 x3, .int .i64 x4, .int .i64 x5, .int .i64 x6, .int .i64 x7] 62)).alloc
    (.cells #[.string name, vb, .int .i64 x0, .int .i64 x1, .int .i64 x2, .int .i64 x3, .int .i64 x4, .int .i64 x5, .int .i64 x6, .int .i64 x7] 62) := ⟨_, rfl⟩
  have hI1 : Inv w w1 := by rw [hw1]; exact (Inv.refl hm).step (by go_grown)
  have hA : w1.heap[w.heap.size]? = some (.cells #[.string name, va, .int .i64 x0, .int .i64 x1, .int .i64 x2, .int .i64 x3, .int .i64 x4, .int .i64 x5, .int .i64 x6, .int .i64 x7] 62 (0, 0)) := by
    rw [hw1, Below.heap_alloc _ _ _ (by simp)]; exact heap_alloc_new _ _
  have hB : w1.heap[w.heap.size + 1]? = some (.cells #[.string name, vb, .int .i64 x0, .int .i64 x1, .int .i64 x2, .int .i64 x3, .int .i64 x4, .int .i64 x5, .int .i64 x6, .int .i64 x7] 62 (0, 0)) := by
    rw [hw1]
    have := heap_alloc_new (w.alloc (.cells #[.string name, va, .int .i64 x0, .int .i64 x1, .int .i64 x2, .int .i64 x3, .int .i64 x4, .int .i64 x5, .int .i64 x6, .int .i64 x7] 62)) (.cells #[.string name, vb, .int .i64 x0, .int .i64 x1, .int .i64 x2, .int .i64 x3, .int .i64 x4, .int .i64 x5, .int .i64 x6, .int .i64 x7] 62)
    rw [show (w.alloc (.cells #[.string name, va, .int .i64 x0, .int .i64 x1, .int .i64 x2, .int .i64 x3, .int .i64 x4, .int .i64 x5, .int .i64 x6, .int .i64 x7] 62)).heap.size = w.heap.size + 1 from by simp] at this
    exact this
  have HSA := Lib.hid (ha.below hI1.2)
  have HSB := Lib.hid (hb.below hI1.2)
  have HI1 := Lib.hid hI1; have HA := Lib.hid hA; have HB := Lib.hid hB; have HL := Lib.hid hl
  clear hI1 hA hB ha hb hm hl
  go_enter Tryz.func35, Tryz.ntmps35
  go_wp2_with fail
  rw [← hw1]
  have HW1 := Lib.hid hw1
  clear hw1
  have e1 := ten HA.out
  obtain ⟨y0, y1, y2, y3, y4, y5, y6, y7, y8, y9, yf⟩ := e1
  go_wp2_with fail
  refine (values_any _ _ _ _ _ _ _ _ _ _ _).mono ?_
  rintro e w2 ⟨g1, g2, rfl, hn1, _, hb2⟩
  have hB2 := (hb2.block _ (Array.getElem?_eq_some_iff.1 HB.out).1).trans HB.out
  have hA2 := (hb2.block _ (Array.getElem?_eq_some_iff.1 HA.out).1).trans HA.out
  have HI2 := Lib.hid (HI1.out.step hb2)
  have HSA2 := Lib.hid (HSA.out.below hb2)
  have HSB2 := Lib.hid (HSB.out.below hb2)
  have HN1 := Lib.hid hn1
  have HA2 := Lib.hid hA2; have HB2 := Lib.hid hB2
  clear hn1 hb2 y0 y1 y2 y3 y4 y5 y6 y7 y8 y9 yf hA2 hB2 HSA HSB HI1
  have e1 := ten HB2.out
  obtain ⟨y0, y1, y2, y3, y4, y5, y6, y7, y8, y9, yf⟩ := e1
  go_wp2_with fail
  refine (values_any _ _ _ _ _ _ _ _ _ _ _).mono ?_
  rintro e w3 ⟨g3, g4, rfl, hn3, _, hb3⟩
  have hB3 := (hb3.block _ (Array.getElem?_eq_some_iff.1 HB2.out).1).trans HB2.out
  have hA3 := (hb3.block _ (Array.getElem?_eq_some_iff.1 HA2.out).1).trans HA2.out
  have HI3 := Lib.hid (HI2.out.step hb3)
  have HSA3 := Lib.hid (HSA2.out.below hb3)
  have HSB3 := Lib.hid (HSB2.out.below hb3)
  have HN2 := Lib.hid (HN1.out.below hb3)
  have HN3 := Lib.hid hn3
  clear hn3 hb3 y0 y1 y2 y3 y4 y5 y6 y7 y8 y9 yf HSA2 HSB2 HI2 HN1 HA2 HB2
  have e1 := ten hA3
  obtain ⟨y0, y1, y2, y3, y4, y5, y6, y7, y8, y9, yf⟩ := e1
  have e1 := ten hB3
  obtain ⟨z0, z1, z2, z3, z4, z5, z6, z7, z8, z9, zf⟩ := e1
  clear hA3 hB3
  go_wp2_with fail
  refine (equal_strs va vb fs _ HSA3.out HSB3.out HL.out).mono ?_
  rintro e w4 ⟨rfl, q, rfl⟩
  go_wp2_with fail
  refine (equal_nums g1 g3 [x0, x1, x2, x3, x4, x5, x6, x7] rfl _ (HN2.out.below (below_drewN (Below.refl _ _) _)) (HN3.out.below (below_drewN (Below.refl _ _) _))).mono ?_
  rintro e w5 ⟨rfl, q', rfl⟩
  go_wp2
  go_ret
  exact ⟨rfl, HI3.out.step (below_drewN (Below.refl _ _) _)⟩

end Go.Proofs.YtbgchhgdlceceaaGreatDoor.Subj

namespace Go.Proofs.YtbgchhgdlceceaaGreatDoor.Subj
open Go.RowKit

abbrev tCellsS (name filt : ByteArray) (src start ack wait : Int) (v : Value) (most pend : Int) (push : Bool) : Array Value := #[.string name, .string filt, .int .i64 src, .int .i64 start, .int .i64 ack, .int .i64 wait, v, .int .i64 most, .int .i64 pend, .bool push]

theorem equal_intsS (va vb : Value) (zs : List Int) (w : World) (ha : Ints w va zs) (hb : Ints w vb zs) (hl : zs.length ≤ 9223372036854775807) :
    Calls Tryz.prog 56 #[va, vb] w fun e w' => e = .returned (.bool true) ∧ ∃ q, w' = w.drewN q := by
  obtain ⟨ao, ca, rfl, _, h1⟩ := ha
  obtain ⟨bo, cb, rfl, _, h2⟩ := hb
  by_cases hn : zs = []
  · subst hn
    refine (Tryz.slices_Equal_int_empty ao bo ca 0 cb w (by omega)).mono fun e w' ⟨a, b⟩ => ⟨by rw [a]; rfl, 0, by rw [b]; rfl⟩
  · obtain ⟨g, off, rfl, s1⟩ := h1 hn
    obtain ⟨g', off', rfl, s2⟩ := h2 hn
    exact (Tryz.slices_Equal_int g off zs.length ca g' off' zs.length cb zs zs w (Nat.le_refl _) (Nat.le_refl _) hl hl s1 s2).mono fun e w' ⟨a, b⟩ => ⟨by rw [a]; simp, b⟩

set_option maxHeartbeats 4000000 in
set_option maxRecDepth 100000 in
theorem sameT_true (name filt : ByteArray) (src start ack wait : Int) (va vb : Value) (most pend : Int) (push : Bool) (back : List Int) (w : World) (hl : back.length ≤ 9223372036854775807) (ha : Ints w va back) (hb : Ints w vb back) (hm : ML w) :
    Calls Tryz.prog 28 #[.agg (tCellsS name filt src start ack wait va most pend push), .agg (tCellsS name filt src start ack wait vb most pend push)] w (IsRet w true) := by
  obtain ⟨w1, hw1⟩ : ∃ w1, w1 = (w.alloc (.cells (tCellsS name filt src start ack wait va most pend push) 24)).alloc (.cells (tCellsS name filt src start ack wait vb most pend push) 24) := ⟨_, rfl⟩
  have hI1 : Inv w w1 := by rw [hw1]; exact (Inv.refl hm).step (((Below.refl _ _).alloc (Nat.le_refl _) _).alloc (by simp) _)
  have hA : w1.heap[w.heap.size]? = some (.cells (tCellsS name filt src start ack wait va most pend push) 24 (0, 0)) := by
    rw [hw1, Below.heap_alloc _ _ _ (by simp)]; exact heap_alloc_new _ _
  have hB : w1.heap[w.heap.size + 1]? = some (.cells (tCellsS name filt src start ack wait vb most pend push) 24 (0, 0)) := by
    rw [hw1]
    have := heap_alloc_new (w.alloc (.cells (tCellsS name filt src start ack wait va most pend push) 24)) (.cells (tCellsS name filt src start ack wait vb most pend push) 24)
    rw [show (w.alloc (.cells (tCellsS name filt src start ack wait va most pend push) 24)).heap.size = w.heap.size + 1 from by simp] at this
    exact this
  have HEQ := Lib.hid (equal_intsS va vb back w1 (ha.below hI1.2) (hb.below hI1.2) hl)
  have HI1 := Lib.hid hI1
  obtain ⟨y0, y1, y2, y3, y4, y5, y6, y7, y8, y9, yf⟩ := ten hA
  obtain ⟨z0, z1, z2, z3, z4, z5, z6, z7, z8, z9, zf⟩ := ten hB
  obtain ⟨ao, ca, rfl, -⟩ := ha
  obtain ⟨bo, cb, rfl, -⟩ := hb
  clear hI1 hA hB hm hl
  go_enter Tryz.func28, Tryz.ntmps28
  go_wp2_with fail
  rw [← hw1]
  clear hw1
  refine HEQ.out.mono ?_
  rintro e w' ⟨rfl, q, rfl⟩
  go_wp2
  go_ret
  exact ⟨by simp, HI1.out.step (below_drewN (Below.refl _ _) _)⟩

end Go.Proofs.YtbgchhgdlceceaaGreatDoor.Subj
