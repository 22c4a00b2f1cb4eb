/- rilllaw.at: a stop; anything else; whatever is asked. -/
import Derived.Test.YtglgbidcmkncgaaDrawAt
namespace Go.Proofs.Ytglgbidcmkncgaa.Drw
open Go.RowKit Heap Dsk

section
variable {W w w' : World} {F G : Nat → Prop} {D E : Nat} {room : Int} {A : List FileP}

set_option maxHeartbeats 2000000 in
set_option maxRecDepth 100000 in
theorem at_crash (hP : Pair W F G D E room A A w) (file num : Int) (text : ByteArray) (hnu : -9223372036854775808 ≤ num ∧ num ≤ 9223372036854775807) :
    Calls Try.prog 25 #[.pointer (some ⟨D, 0, none⟩), .pointer (some ⟨E, 0, none⟩), .agg #[.int .i64 4, .int .i64 file, .int .i64 num, .string text]] w fun e w' => e = .returned (.bool true) ∧ Both W D E room w' := by
  obtain ⟨w1, hw1⟩ : ∃ w1, w1 = w.alloc (.cells #[.int .i64 4, .int .i64 file, .int .i64 num, .string text] 61) := ⟨_, rfl⟩
  have hb1 : Below w.heap.size w w1 := by rw [hw1]; exact (Below.refl _ _).alloc (Nat.le_refl _) _
  have hbx : w1.heap[w.heap.size]? = some (.cells #[.int .i64 4, .int .i64 file, .int .i64 num, .string text] 61 (0, 0)) := by rw [hw1]; exact heap_alloc_new w _
  have hP0 : Pair W F G D E room A A w1 := hP.next hb1
  have hnF : ¬ F w.heap.size := fun h => by have := hP.bF _ h; omega
  have hnG : ¬ G w.heap.size := fun h => by have := hP.bG _ h; omega
  obtain ⟨q0, q1, q2, q3⟩ := fourC hbx
  have HD := Lib.hid (crash_any hP0.disk num)
  have HP0 := Lib.hid hP0; have HBX := Lib.hid hbx; have HNF := Lib.hid hnF; have HNG := Lib.hid hnG; have HNU := Lib.hid hnu
  clear hP hb1 hbx hP0 hnF hnG hnu
  go_enter Try.func25, Try.ntmps25
  go_upto_region 1 with fail
  rw [← hw1]
  clear hw1
  go_wp2_with fail
  refine HD.out.mono ?_
  rintro e w2 ⟨rfl, h2, t2⟩
  have hp2 := HP0.out.diskStep (h2.mono (fun _ hk => .inl hk) (Dsk.Grow.new HP0.out.disk)) t2
  have hbx2 := touch_cells HBX.out t2 HNF.out
  clear q0 q1 q2 q3
  obtain ⟨q0, q1, q2, q3⟩ := fourC hbx2
  have HP2 := Lib.hid hp2; have HBX2 := Lib.hid hbx2
  have HX := Lib.hid (crash_drw hp2.drawer num HNU.out)
  clear h2 t2 hp2 hbx2
  go_wp2_with fail
  refine HX.out.mono ?_
  rintro e w3 ⟨rfl, h3, t3⟩
  have hp3 := HP2.out.drawStep (h3.mono (fun _ hk => .inl hk) HP2.out.drawer.grow.newG) t3
  have HP3 := Lib.hid hp3
  clear h3 t3 hp3 q0 q1 q2 q3
  have HSM := Lib.hid (same_true HP3.out.disk HP3.out.drawer)
  go_wp2_with fail
  refine HSM.out.mono ?_
  rintro e w4 ⟨rfl, hb4⟩
  have HF := Lib.hid (HP3.out.next hb4)
  clear hb4 HSM
  go_wp2
  go_ret
  exact ⟨rfl, _, _, _, HF.out⟩

set_option maxHeartbeats 2000000 in
set_option maxRecDepth 100000 in
theorem at_other (hP : Pair W F G D E room A A w) (kind file num : Int) (text : ByteArray) (h0 : (kind == 0) = false) (h1 : (kind == 1) = false) (h2 : (kind == 2) = false) (h3 : (kind == 3) = false) (h4 : (kind == 4) = false) :
    Calls Try.prog 25 #[.pointer (some ⟨D, 0, none⟩), .pointer (some ⟨E, 0, none⟩), .agg #[.int .i64 kind, .int .i64 file, .int .i64 num, .string text]] w fun e w' => e = .returned (.bool true) ∧ Both W D E room w' := by
  obtain ⟨w1, hw1⟩ : ∃ w1, w1 = w.alloc (.cells #[.int .i64 kind, .int .i64 file, .int .i64 num, .string text] 61) := ⟨_, rfl⟩
  have hb1 : Below w.heap.size w w1 := by rw [hw1]; exact (Below.refl _ _).alloc (Nat.le_refl _) _
  have hbx : w1.heap[w.heap.size]? = some (.cells #[.int .i64 kind, .int .i64 file, .int .i64 num, .string text] 61 (0, 0)) := by rw [hw1]; exact heap_alloc_new w _
  have hP0 : Pair W F G D E room A A w1 := hP.next hb1
  obtain ⟨q0, q1, q2, q3⟩ := fourC hbx
  have HP0 := Lib.hid hP0
  have HSM := Lib.hid (same_true hP0.disk hP0.drawer)
  clear hP hb1 hbx hP0
  go_enter Try.func25, Try.ntmps25
  go_upto_region 1 with fail
  rw [← hw1]
  clear hw1
  go_wp2_with fail
  refine HSM.out.mono ?_
  rintro e w4 ⟨rfl, hb4⟩
  have HF := Lib.hid (HP0.out.next hb4)
  clear hb4 HSM
  go_wp2
  go_ret
  exact ⟨rfl, _, _, _, HF.out⟩

theorem at_true (hP : Both W D E room w) (kind file num : Int) (text : ByteArray) (hf : -9223372036854775808 ≤ file ∧ file ≤ 9223372036854775807) (hnu : -9223372036854775808 ≤ num ∧ num ≤ 9223372036854775807) (htx : text.size ≤ 4611686018427387904) :
    Calls Try.prog 25 #[.pointer (some ⟨D, 0, none⟩), .pointer (some ⟨E, 0, none⟩), .agg #[.int .i64 kind, .int .i64 file, .int .i64 num, .string text]] w fun e w' => e = .returned (.bool true) ∧ Both W D E room w' := by
  obtain ⟨F, G, A, hP⟩ := hP
  by_cases k0 : kind = 0
  · subst k0; exact at_append hP file num text hf hnu htx
  · by_cases k1 : kind = 1
    · subst k1; exact at_cut hP file num text hf hnu htx
    · by_cases k2 : kind = 2
      · subst k2; exact at_sync hP file num text hf hnu htx
      · by_cases k3 : kind = 3
        · subst k3; exact at_remove hP file num text hf hnu htx
        · by_cases k4 : kind = 4
          · subst k4; exact at_crash hP file num text hnu
          · exact at_other hP kind file num text (by simpa using k0) (by simpa using k1) (by simpa using k2) (by simpa using k3) (by simpa using k4)
end
end Go.Proofs.Ytglgbidcmkncgaa.Drw
