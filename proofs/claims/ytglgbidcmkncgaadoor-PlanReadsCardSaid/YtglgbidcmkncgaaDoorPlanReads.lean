/- The law PlanReads, walked: it returns true. -/
import Derived.Test.YtglgbidcmkncgaaDoorPlanRead2
namespace Go.Proofs.YtglgbidcmkncgaaDoor.Subj
open Go.RowKit

set_option maxHeartbeats 1000000 in
set_option maxRecDepth 100000 in
theorem readPlan_long (s : ByteArray) (w : World) (hs : s.size ≤ maxLen) (h : 1024 < s.size) (hm : ML w) (x : Option PlanP × Nat) (hx : x = (none, 2)) :
    Calls Tryd.prog 18 #[.string s] w (ParsePost w x) := by
  have HM := Lib.hid hm
  have HX := Lib.hid hx
  clear hm hx
  unfold maxLen at hs
  go_enter Tryd.func18, Tryd.ntmps18
  go_wp2_with fail
  refine bodyPost_ret (v := .tuple #[.agg #[.string ⟨#[]⟩, .slice none 0 0, .int .i64 0, .int .i64 0, .int .i64 0, .int .i64 0, .int .i64 0, .int .i64 0, .int .i64 0, .int .i64 0], .int .i64 2]) (by simp [results, Tryd.results18, go_sem]) rfl ?_
  exact parse_ret 2 HX.out (Inv.made HM.out _)

set_option maxHeartbeats 1000000 in
set_option maxRecDepth 100000 in
theorem readPlan_one (s : ByteArray) (w : World) (h : s.size ≤ 1024) (hm : ML w) (t : Tok) (hp : piecesC 32 s.data.toList = [t]) (x : Option PlanP × Nat) (hx : x = (none, 3)) :
    Calls Tryd.prog 18 #[.string s] w (ParsePost w x) := by
  have hsplit := pcs_any 32 s (w.alloc (.cells zeroArr 29)) (by omega)
  rw [hp] at hsplit
  have HS := Lib.hid hsplit
  have HM := Lib.hid hm
  have HX := Lib.hid hx
  clear hm hx hsplit hp
  go_enter Tryd.func18, Tryd.ntmps18
  go_wp2_with fail
  refine HS.out.mono ?_
  rintro e w1 ⟨g, cap, rfl, hcap, _, _, _, hb⟩
  have hI1 : Inv w w1 := Inv.step (Inv.made HM.out _) hb
  have hz1 : w1.heap[w.heap.size]? = some (.cells zeroArr 29 (0, 0)) := (hb.block _ (by simp)).trans (heap_alloc_new w _)
  rw [zeroArr_eq] at hz1
  obtain ⟨z0, z1, z2, z3, z4, z5, z6, z7, z8, z9, zf⟩ := ten hz1
  have HI1 := Lib.hid hI1; have HZ1 := Lib.hid hz1
  clear hI1 hz1 hb
  go_wp2_with fail
  refine bodyPost_ret (v := .tuple #[.agg #[.string ⟨#[]⟩, .slice none 0 0, .int .i64 0, .int .i64 0, .int .i64 0, .int .i64 0, .int .i64 0, .int .i64 0, .int .i64 0, .int .i64 0], .int .i64 3]) (res_plan Tryd.results18 _ _ w.heap.size rfl rfl (set10 _ _ _ _ _ _ _ _ _ _ HZ1.out)) rfl ?_
  have hb := below10 (.string ⟨#[]⟩) (.slice none 0 0) (.int .i64 0) (.int .i64 0) (.int .i64 0) (.int .i64 0) (.int .i64 0) (.int .i64 0) (.int .i64 0) (.int .i64 0) HI1.out.2 (Nat.le_refl _)
  exact parse_ret 3 HX.out ⟨HM.out.below hb, hb⟩

theorem readPlan_any (s : ByteArray) (w : World) (hs : s.size ≤ maxLen) (hm : ML w) (hwl : WordsLaid w) :
    Calls Tryd.prog 18 #[.string s] w (ParsePost w (parseP s.data.toList)) := by
  rw [parseP_ends]
  have hl : s.data.toList.length = s.size := by simp
  rw [hl]
  by_cases h : 1024 < s.size
  · rw [if_pos h]; exact readPlan_long s w hs h hm _ rfl
  · rw [if_neg h]
    rcases hp : piecesC 32 s.data.toList with _ | ⟨n, _ | ⟨f, r⟩⟩
    · exact absurd hp (piecesC_ne 32 _)
    · exact readPlan_one s w (by omega) hm n hp _ rfl
    · have := readPlan_words s w (by omega) hm hwl n f r hp
      unfold ansP at this
      exact this

def planOf (x : Option PlanP × Nat) : PlanP := x.1.getD ⟨[], [], List.replicate 8 0⟩

theorem ParsePost.plan {W w : World} {x : Option PlanP × Nat} {e : Ending} (h : ParsePost W x e w) :
    Inv W w ∧ ∃ (name : ByteArray) (v : Value) (x0 x1 x2 x3 x4 x5 x6 x7 : Int), e = .returned (.tuple #[.agg #[.string name, v, .int .i64 x0, .int .i64 x1, .int .i64 x2, .int .i64 x3, .int .i64 x4, .int .i64 x5, .int .i64 x6, .int .i64 x7], .int .i64 x.2]) ∧
      name.data.toList = (planOf x).name ∧ Strs w v (planOf x).fs ∧ [x0, x1, x2, x3, x4, x5, x6, x7] = (planOf x).vs := by
  obtain ⟨hI, name, v, x0, x1, x2, x3, x4, x5, x6, x7, he, hx⟩ := h
  refine ⟨hI, name, v, x0, x1, x2, x3, x4, x5, x6, x7, he, ?_⟩
  unfold planOf
  cases hx1 : x.1 with
  | some p => rw [hx1] at hx; exact ⟨hx.1, hx.2.1, hx.2.2.symm⟩
  | none =>
    rw [hx1] at hx
    obtain ⟨rfl, rfl, h3⟩ := hx
    exact ⟨rfl, ⟨none, 0, rfl, Nat.le_refl _, fun h => absurd rfl h⟩, h3⟩

theorem planOf_few (s : List UInt8) : (planOf (parseP s)).fs.length ≤ 4 := by
  rw [parseP_ends]
  split
  · simp [planOf]
  · split
    · split
      · split
        · rename_i h
          unfold planErr at h
          show (piecesC 44 _).length ≤ 4
          split at h
          · split at h
            · rename_i h2
              unfold filtersErr at h2
              split at h2
              · cases h2
              · omega
            · contradiction
          · cases h
        · simp [planOf]
      · simp [planOf]
    · simp [planOf]

theorem bytes_eq {a b : ByteArray} (h : a.data.toList = b.data.toList) : a = b := by
  apply ByteArray.ext; exact Array.ext' h

set_option maxHeartbeats 4000000 in
set_option maxRecDepth 100000 in
theorem planReads_walkM (s : ByteArray) (w : World) (hs' : s.size ≤ maxLen) (hm : ML w) (hwl : WordsLaid w) :
    Calls Tryd.prog 4 #[.string s] w (IsRet w true) := by
  have HP := Lib.hid (parse_any s w hs' hm)
  have HR := Lib.hid (fun w1 (h : Inv w w1) => readPlan_any s w1 hs' h.1 (hwl.inv h))
  have HFEW := Lib.hid (planOf_few s.data.toList)
  clear hs' hm hwl
  generalize parseP s.data.toList = x at *
  go_enter Tryd.func4, Tryd.ntmps4
  go_wp2_with fail
  refine HP.out.mono ?_
  intro e w1 hpost
  obtain ⟨hI1, name, v, x0, x1, x2, x3, x4, x5, x6, x7, rfl, hn, hS, hv⟩ := hpost.plan
  obtain ⟨ao, cap, rfl, _⟩ := id hS
  have hI2 : Inv w (w1.alloc (.cells #[.string name, .slice ao (planOf x).fs.length cap, .int .i64 x0, .int .i64 x1, .int .i64 x2, .int .i64 x3, .int .i64 x4, .int .i64 x5, .int .i64 x6, .int .i64 x7] 29)) := hI1.step (by go_grown)
  have hA := ten_alloc w1 29 (.string name) (.slice ao (planOf x).fs.length cap) (.int .i64 x0) (.int .i64 x1) (.int .i64 x2) (.int .i64 x3) (.int .i64 x4) (.int .i64 x5) (.int .i64 x6) (.int .i64 x7)
  have hS2 := hS.below (show Below w1.heap.size w1 (w1.alloc (.cells #[.string name, .slice ao (planOf x).fs.length cap, .int .i64 x0, .int .i64 x1, .int .i64 x2, .int .i64 x3, .int .i64 x4, .int .i64 x5, .int .i64 x6, .int .i64 x7] 29)) by go_grown)
  have HI2 := Lib.hid hI2; have HA := Lib.hid hA; have HS2 := Lib.hid hS2; have HN := Lib.hid hn; have HV := Lib.hid hv
  clear hI1 hI2 hA hS2 hS hn hv hpost HP
  go_wp2_with fail
  refine (HR.out _ HI2.out).mono ?_
  intro e w2 hpost
  obtain ⟨hI3, name', v', y0, y1, y2, y3, y4, y5, y6, y7, rfl, hn', hS', hv'⟩ := hpost.plan
  obtain rfl : name = name' := bytes_eq (HN.out.trans hn'.symm)
  have hvv := HV.out.trans hv'.symm
  simp only [List.cons.injEq, and_true] at hvv
  obtain ⟨rfl, rfl, rfl, rfl, rfl, rfl, rfl, rfl⟩ := hvv
  obtain ⟨bo, cap', rfl, _⟩ := id hS'
  have hA3 := hI3.blk HA.out
  have hS3 := HS2.out.below hI3.2
  obtain ⟨w3, hw3⟩ : ∃ w3, w3 = w2.alloc (.cells #[.string name, .slice bo (planOf x).fs.length cap', .int .i64 x0, .int .i64 x1, .int .i64 x2, .int .i64 x3, .int .i64 x4, .int .i64 x5, .int .i64 x6, .int .i64 x7] 29) := ⟨_, rfl⟩
  have hB3 := ten_alloc w2 29 (.string name) (.slice bo (planOf x).fs.length cap') (.int .i64 x0) (.int .i64 x1) (.int .i64 x2) (.int .i64 x3) (.int .i64 x4) (.int .i64 x5) (.int .i64 x6) (.int .i64 x7)
  rw [← hw3] at hB3
  have hb3 : Below w2.heap.size w2 w3 := by rw [hw3]; go_grown
  have hA4 := (hb3.block _ (Array.getElem?_eq_some_iff.1 hA3).1).trans hA3
  have HSA := Lib.hid (hS3.below hb3); have HSB := Lib.hid (hS'.below hb3)
  have HI4 := Lib.hid ((HI2.out.thru hI3).step hb3)
  obtain ⟨q0, q1, q2, q3, q4, q5, q6, q7, q8, q9, qf⟩ := ten hA4
  obtain ⟨z0, z1, z2, z3, z4, z5, z6, z7, z8, z9, zf⟩ := ten hB3
  clear hn' hS' hv' hA3 hS3 hB3 hb3 hA4 hI3 hpost HR HA HS2 HI2 HN HV
  have HFEW2 := Lib.hid (show (planOf x).fs.length ≤ 9223372036854775807 from by have := HFEW.out; omega)
  clear HFEW
  go_upto_region 3 with fail
  rw [← hw3]
  clear hw3
  go_wp2_with fail
  refine (same_true _ _ _ _ _ _ _ _ _ _ _ _ _ HFEW2.out HSA.out HSB.out HI4.out.1).mono ?_
  rintro e w4 ⟨rfl, hI5⟩
  have HI5 := Lib.hid (HI4.out.thru hI5)
  clear hI5 HI4 HSA HSB q0 q1 q2 q3 q4 q5 q6 q7 q8 q9 z0 z1 z2 z3 z4 z5 z6 z7 z8 z9 qf zf
  go_wp2
  go_ret
  exact ⟨by simp, HI5.out⟩

theorem planReads_walk (s : ByteArray) (w : World) (hs : s.size ≤ 1048576) (hm : ML w) (hwl : WordsLaid w) :
    Calls Tryd.prog 4 #[.string s] w (IsRet w true) := planReads_walkM s w (by unfold maxLen; omega) hm hwl

end Go.Proofs.YtglgbidcmkncgaaDoor.Subj
