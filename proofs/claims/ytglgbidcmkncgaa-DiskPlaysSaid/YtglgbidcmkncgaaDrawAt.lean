/- rilllaw.at: the same is done at both disks. -/
import Derived.Test.YtglgbidcmkncgaaDrawSame
import Derived.Deep.RegionHeld3
namespace Go.Proofs.Ytglgbidcmkncgaa.Drw
open Go.RowKit Heap Dsk

/-- Both disks, of blocks of their own. -/
structure Pair (W : World) (F G : Nat → Prop) (D E : Nat) (room : Int) (A B : List FileP) (w : World) : Prop where
  disk : DiskAt W F D room A w
  drawer : DrawAt W G E room B w
  bF : ∀ k, F k → k < w.heap.size
  bG : ∀ k, G k → k < w.heap.size
  apart : ∀ k, F k → ¬ G k

def Both (W : World) (D E : Nat) (room : Int) (w : World) : Prop := ∃ F G A, Pair W F G D E room A A w

section
variable {W w w' : World} {F G : Nat → Prop} {D E : Nat} {room : Int} {A B A1 : List FileP}

theorem Pair.next (h : Pair W F G D E room A B w) (hb : Below w.heap.size w w') : Pair W F G D E room A B w' :=
  ⟨h.disk.kept (hb.mono h.disk.below.size) (fun k _ hk => hb.block k hk), h.drawer.next hb, fun k hk => Nat.lt_of_lt_of_le (h.bF k hk) hb.size, fun k hk => Nat.lt_of_lt_of_le (h.bG k hk) hb.size, h.apart⟩

theorem Pair.diskStep (h : Pair W F G D E room A B w) (hd : DiskAt W (Dsk.Grow F w) D room A1 w') (ht : Heap.Touch F w w') : Pair W (fun k => Dsk.Grow F w k ∧ k < w'.heap.size) G D E room A1 B w' := by
  refine ⟨hd.shrink, h.drawer.kept (h.drawer.below.trans (ht.below h.drawer.below.size h.disk.newF)) (ht.same fun k hk hf => h.apart k hf hk), fun k hk => hk.2, fun k hk => Nat.lt_of_lt_of_le (h.bG k hk) ht.size, fun k hk hg => ?_⟩
  rcases hk.1 with hk | hk
  · exact h.apart k hk hg
  · have := h.bG k hg; omega

theorem DrawAt.shrink (h : DrawAt W G E room A w) : DrawAt W (fun k => G k ∧ k < w.heap.size) E room A w := by
  obtain ⟨v, h1, h2, h3⟩ := h.mem
  exact ⟨h.right, h.below, fun k hk => h.newG k hk.1, ⟨h.gE, heap_lt h1⟩, v, h1, h2, fun k hk => ⟨h3 k hk, h2.lt k hk⟩⟩

theorem Pair.drawStep (h : Pair W F G D E room A B w) (hd : DrawAt W (Dsk.Grow G w) E room A w') (ht : Heap.Touch G w w') : Pair W F (fun k => Dsk.Grow G w k ∧ k < w'.heap.size) D E room A A w' := by
  refine ⟨h.disk.kept (ht.below h.disk.below.size h.drawer.newG) (ht.same fun k hk hg => h.apart k hk hg), hd.shrink, fun k hk => Nat.lt_of_lt_of_le (h.bF k hk) ht.size, fun k hk => hk.2, fun k hk hg => ?_⟩
  rcases hg.1 with hg | hg
  · exact h.apart k hk hg
  · have := h.bF k hk; omega

theorem touch_cells {bx : Nat} {a0 a1 a2 a3 : Value} {t : TypeId} {H : Nat → Prop} (h : w.heap[bx]? = some (.cells #[a0, a1, a2, a3] t (0, 0))) (ht : Heap.Touch H w w') (hn : ¬ H bx) : w'.heap[bx]? = some (.cells #[a0, a1, a2, a3] t (0, 0)) := (ht.block bx (heap_lt h) hn).trans h

theorem fourC {bx : Nat} {a0 a1 a2 a3 : Value} {t : TypeId} (h : w.heap[bx]? = some (.cells #[a0, a1, a2, a3] t (0, 0))) :
    w.cell? ⟨bx, 0, none⟩ = some a0 ∧ w.cell? ⟨bx, 1, none⟩ = some a1 ∧ w.cell? ⟨bx, 2, none⟩ = some a2 ∧ w.cell? ⟨bx, 3, none⟩ = some a3 := by
  refine ⟨?_, ?_, ?_, ?_⟩
  · rw [cell_of_row w bx 0 _ _ _ h]; rfl
  · rw [cell_of_row w bx 1 _ _ _ h]; rfl
  · rw [cell_of_row w bx 2 _ _ _ h]; rfl
  · rw [cell_of_row w bx 3 _ _ _ h]; rfl

set_option maxHeartbeats 2000000 in
set_option maxRecDepth 100000 in
theorem at_append (hP : Pair W F G D E room A A w) (file num : Int) (text : ByteArray) (hf : -9223372036854775808 ≤ file ∧ file ≤ 9223372036854775807) (hnu : -9223372036854775808 ≤ num ∧ num ≤ 9223372036854775807) (htx : text.size ≤ 4611686018427387904) :
    Calls Try.prog 25 #[.pointer (some ⟨D, 0, none⟩), .pointer (some ⟨E, 0, none⟩), .agg #[.int .i64 0, .int .i64 file, .int .i64 num, .string text]] w fun e w' => e = .returned (.bool true) ∧ Both W D E room w' := by
  obtain ⟨w1, hw1⟩ : ∃ w1, w1 = w.alloc (.cells #[.int .i64 0, .int .i64 file, .int .i64 num, .string text] 61) := ⟨_, rfl⟩
  have hb1 : Below w.heap.size w w1 := by rw [hw1]; exact (Below.refl _ _).alloc (Nat.le_refl _) _
  have hbx : w1.heap[w.heap.size]? = some (.cells #[.int .i64 0, .int .i64 file, .int .i64 num, .string text] 61 (0, 0)) := by rw [hw1]; exact heap_alloc_new w _
  have hP0 : Pair W F G D E room A A w1.drew := (hP.next hb1).next (Below.refl _ _).drew
  have hnF : ¬ F w.heap.size := fun h => by have := hP.bF _ h; omega
  have hnG : ¬ G w.heap.size := fun h => by have := hP.bG _ h; omega
  obtain ⟨q0, q1, q2, q3⟩ := fourC hbx
  have HD := Lib.hid (append_any hP0.disk file text hf (by omega))
  have HP0 := Lib.hid hP0; have HBX := Lib.hid hbx; have HNF := Lib.hid hnF; have HNG := Lib.hid hnG; have HTX := Lib.hid htx
  clear hP hb1 hbx hP0 hnF hnG hf hnu htx
  go_enter Try.func25, Try.ntmps25
  go_upto_region 1 with fail
  rw [← hw1]
  clear hw1
  go_upto_region 4 with fail
  go_region_held3 (fun w' => w'.cell? ⟨w.heap.size, 0, none⟩ = some (.int .i64 0) ∧ w'.cell? ⟨w.heap.size, 1, none⟩ = some (.int .i64 file) ∧ w'.cell? ⟨w.heap.size, 2, none⟩ = some (.int .i64 num) ∧ w'.cell? ⟨w.heap.size, 3, none⟩ = some (.string text)) (first | (with_reducible exact ⟨k0, k1, k2, k3⟩) | (with_reducible exact ⟨q0, q1, q2, q3⟩) | go_keep)
    (first
      | (go_at_call 18; ((with_reducible refine HD.out.mono ?_); rintro e w2 ⟨rfl, h2, t2⟩; have hp2 := HP0.out.diskStep (h2) t2; have hbx2 := touch_cells (w := w1.drew) HBX.out t2 HNF.out; obtain ⟨k0, k1, k2, k3⟩ := fourC hbx2; have HP2 := Lib.hid hp2; have HBX2 := Lib.hid hbx2; clear h2 t2 hp2 hbx2))
      | (go_at_call 33; ((refine (append_drw HP2.out.drawer file text HTX.out).mono ?_); rintro e w3 ⟨rfl, h3, t3⟩; have hp3 := HP2.out.drawStep (h3) t3; have hbx3 := touch_cells HBX2.out t3 HNG.out; obtain ⟨k0, k1, k2, k3⟩ := fourC hbx3; have HP3 := Lib.hid hp3; clear h3 t3 hp3 hbx3)))
  have HSM := Lib.hid (same_true HP3.out.disk HP3.out.drawer)
  go_wp2_with fail
  refine HSM.out.mono ?_
  rintro e w4 ⟨rfl, hb4⟩
  have HF := Lib.hid (HP3.out.next hb4)
  clear hb4 HSM
  go_wp2
  go_ret
  exact ⟨rfl, _, _, _, HF.out⟩

set_option maxHeartbeats 2000000 in
set_option maxRecDepth 100000 in
theorem at_cut (hP : Pair W F G D E room A A w) (file num : Int) (text : ByteArray) (hf : -9223372036854775808 ≤ file ∧ file ≤ 9223372036854775807) (hnu : -9223372036854775808 ≤ num ∧ num ≤ 9223372036854775807) (htx : text.size ≤ 4611686018427387904) :
    Calls Try.prog 25 #[.pointer (some ⟨D, 0, none⟩), .pointer (some ⟨E, 0, none⟩), .agg #[.int .i64 1, .int .i64 file, .int .i64 num, .string text]] w fun e w' => e = .returned (.bool true) ∧ Both W D E room w' := by
  obtain ⟨w1, hw1⟩ : ∃ w1, w1 = w.alloc (.cells #[.int .i64 1, .int .i64 file, .int .i64 num, .string text] 61) := ⟨_, rfl⟩
  have hb1 : Below w.heap.size w w1 := by rw [hw1]; exact (Below.refl _ _).alloc (Nat.le_refl _) _
  have hbx : w1.heap[w.heap.size]? = some (.cells #[.int .i64 1, .int .i64 file, .int .i64 num, .string text] 61 (0, 0)) := by rw [hw1]; exact heap_alloc_new w _
  have hP0 : Pair W F G D E room A A w1.drew := (hP.next hb1).next (Below.refl _ _).drew
  have hnF : ¬ F w.heap.size := fun h => by have := hP.bF _ h; omega
  have hnG : ¬ G w.heap.size := fun h => by have := hP.bG _ h; omega
  obtain ⟨q0, q1, q2, q3⟩ := fourC hbx
  have HD := Lib.hid (cut_any hP0.disk file num hf)
  have HP0 := Lib.hid hP0; have HBX := Lib.hid hbx; have HNF := Lib.hid hnF; have HNG := Lib.hid hnG; have HTX := Lib.hid htx
  clear hP hb1 hbx hP0 hnF hnG hf hnu htx
  go_enter Try.func25, Try.ntmps25
  go_upto_region 1 with fail
  rw [← hw1]
  clear hw1
  go_upto_region 6 with fail
  go_region_held3 (fun w' => w'.cell? ⟨w.heap.size, 0, none⟩ = some (.int .i64 1) ∧ w'.cell? ⟨w.heap.size, 1, none⟩ = some (.int .i64 file) ∧ w'.cell? ⟨w.heap.size, 2, none⟩ = some (.int .i64 num) ∧ w'.cell? ⟨w.heap.size, 3, none⟩ = some (.string text)) (first | (with_reducible exact ⟨k0, k1, k2, k3⟩) | (with_reducible exact ⟨q0, q1, q2, q3⟩) | go_keep)
    (first
      | (go_at_call 32; ((with_reducible refine HD.out.mono ?_); rintro e w2 ⟨rfl, h2, t2⟩; have hp2 := HP0.out.diskStep (h2.mono (fun _ hk => .inl hk) (Dsk.Grow.new HP0.out.disk)) t2; have hbx2 := touch_cells (w := w1.drew) HBX.out t2 HNF.out; obtain ⟨k0, k1, k2, k3⟩ := fourC hbx2; have HP2 := Lib.hid hp2; have HBX2 := Lib.hid hbx2; clear h2 t2 hp2 hbx2))
      | (go_at_call 34; ((refine (cut_drw HP2.out.drawer file num).mono ?_); rintro e w3 ⟨rfl, h3, t3⟩; have hp3 := HP2.out.drawStep (h3.mono (fun _ hk => .inl hk) HP2.out.drawer.grow.newG) t3; have hbx3 := touch_cells HBX2.out t3 HNG.out; obtain ⟨k0, k1, k2, k3⟩ := fourC hbx3; have HP3 := Lib.hid hp3; clear h3 t3 hp3 hbx3)))
  have HSM := Lib.hid (same_true HP3.out.disk HP3.out.drawer)
  go_wp2_with fail
  refine HSM.out.mono ?_
  rintro e w4 ⟨rfl, hb4⟩
  have HF := Lib.hid (HP3.out.next hb4)
  clear hb4 HSM
  go_wp2
  go_ret
  exact ⟨rfl, _, _, _, HF.out⟩

set_option maxHeartbeats 2000000 in
set_option maxRecDepth 100000 in
theorem at_sync (hP : Pair W F G D E room A A w) (file num : Int) (text : ByteArray) (hf : -9223372036854775808 ≤ file ∧ file ≤ 9223372036854775807) (hnu : -9223372036854775808 ≤ num ∧ num ≤ 9223372036854775807) (htx : text.size ≤ 4611686018427387904) :
    Calls Try.prog 25 #[.pointer (some ⟨D, 0, none⟩), .pointer (some ⟨E, 0, none⟩), .agg #[.int .i64 2, .int .i64 file, .int .i64 num, .string text]] w fun e w' => e = .returned (.bool true) ∧ Both W D E room w' := by
  obtain ⟨w1, hw1⟩ : ∃ w1, w1 = w.alloc (.cells #[.int .i64 2, .int .i64 file, .int .i64 num, .string text] 61) := ⟨_, rfl⟩
  have hb1 : Below w.heap.size w w1 := by rw [hw1]; exact (Below.refl _ _).alloc (Nat.le_refl _) _
  have hbx : w1.heap[w.heap.size]? = some (.cells #[.int .i64 2, .int .i64 file, .int .i64 num, .string text] 61 (0, 0)) := by rw [hw1]; exact heap_alloc_new w _
  have hP0 : Pair W F G D E room A A w1.drew := (hP.next hb1).next (Below.refl _ _).drew
  have hnF : ¬ F w.heap.size := fun h => by have := hP.bF _ h; omega
  have hnG : ¬ G w.heap.size := fun h => by have := hP.bG _ h; omega
  obtain ⟨q0, q1, q2, q3⟩ := fourC hbx
  have HD := Lib.hid (sync_any hP0.disk file hf)
  have HP0 := Lib.hid hP0; have HBX := Lib.hid hbx; have HNF := Lib.hid hnF; have HNG := Lib.hid hnG; have HTX := Lib.hid htx
  clear hP hb1 hbx hP0 hnF hnG hf hnu htx
  go_enter Try.func25, Try.ntmps25
  go_upto_region 1 with fail
  rw [← hw1]
  clear hw1
  go_upto_region 8 with fail
  go_region_held3 (fun w' => w'.cell? ⟨w.heap.size, 0, none⟩ = some (.int .i64 2) ∧ w'.cell? ⟨w.heap.size, 1, none⟩ = some (.int .i64 file) ∧ w'.cell? ⟨w.heap.size, 2, none⟩ = some (.int .i64 num) ∧ w'.cell? ⟨w.heap.size, 3, none⟩ = some (.string text)) (first | (with_reducible exact ⟨k0, k1, k2, k3⟩) | (with_reducible exact ⟨q0, q1, q2, q3⟩) | go_keep)
    (first
      | (go_at_call 21; ((with_reducible refine HD.out.mono ?_); rintro e w2 ⟨rfl, h2, t2⟩; have hp2 := HP0.out.diskStep (h2.mono (fun _ hk => .inl hk) (Dsk.Grow.new HP0.out.disk)) t2; have hbx2 := touch_cells (w := w1.drew) HBX.out t2 HNF.out; obtain ⟨k0, k1, k2, k3⟩ := fourC hbx2; have HP2 := Lib.hid hp2; have HBX2 := Lib.hid hbx2; clear h2 t2 hp2 hbx2))
      | (go_at_call 35; ((refine (sync_drw HP2.out.drawer file).mono ?_); rintro e w3 ⟨rfl, h3, t3⟩; have hp3 := HP2.out.drawStep (h3.mono (fun _ hk => .inl hk) HP2.out.drawer.grow.newG) t3; have hbx3 := touch_cells HBX2.out t3 HNG.out; obtain ⟨k0, k1, k2, k3⟩ := fourC hbx3; have HP3 := Lib.hid hp3; clear h3 t3 hp3 hbx3)))
  have HSM := Lib.hid (same_true HP3.out.disk HP3.out.drawer)
  go_wp2_with fail
  refine HSM.out.mono ?_
  rintro e w4 ⟨rfl, hb4⟩
  have HF := Lib.hid (HP3.out.next hb4)
  clear hb4 HSM
  go_wp2
  go_ret
  exact ⟨rfl, _, _, _, HF.out⟩

set_option maxHeartbeats 2000000 in
set_option maxRecDepth 100000 in
theorem at_remove (hP : Pair W F G D E room A A w) (file num : Int) (text : ByteArray) (hf : -9223372036854775808 ≤ file ∧ file ≤ 9223372036854775807) (hnu : -9223372036854775808 ≤ num ∧ num ≤ 9223372036854775807) (htx : text.size ≤ 4611686018427387904) :
    Calls Try.prog 25 #[.pointer (some ⟨D, 0, none⟩), .pointer (some ⟨E, 0, none⟩), .agg #[.int .i64 3, .int .i64 file, .int .i64 num, .string text]] w fun e w' => e = .returned (.bool true) ∧ Both W D E room w' := by
  obtain ⟨w1, hw1⟩ : ∃ w1, w1 = w.alloc (.cells #[.int .i64 3, .int .i64 file, .int .i64 num, .string text] 61) := ⟨_, rfl⟩
  have hb1 : Below w.heap.size w w1 := by rw [hw1]; exact (Below.refl _ _).alloc (Nat.le_refl _) _
  have hbx : w1.heap[w.heap.size]? = some (.cells #[.int .i64 3, .int .i64 file, .int .i64 num, .string text] 61 (0, 0)) := by rw [hw1]; exact heap_alloc_new w _
  have hP0 : Pair W F G D E room A A w1.drew := (hP.next hb1).next (Below.refl _ _).drew
  have hnF : ¬ F w.heap.size := fun h => by have := hP.bF _ h; omega
  have hnG : ¬ G w.heap.size := fun h => by have := hP.bG _ h; omega
  obtain ⟨q0, q1, q2, q3⟩ := fourC hbx
  have HD := Lib.hid (remove_any hP0.disk file hf)
  have HP0 := Lib.hid hP0; have HBX := Lib.hid hbx; have HNF := Lib.hid hnF; have HNG := Lib.hid hnG; have HTX := Lib.hid htx
  clear hP hb1 hbx hP0 hnF hnG hf hnu htx
  go_enter Try.func25, Try.ntmps25
  go_upto_region 1 with fail
  rw [← hw1]
  clear hw1
  go_upto_region 10 with fail
  go_region_held3 (fun w' => w'.cell? ⟨w.heap.size, 0, none⟩ = some (.int .i64 3) ∧ w'.cell? ⟨w.heap.size, 1, none⟩ = some (.int .i64 file) ∧ w'.cell? ⟨w.heap.size, 2, none⟩ = some (.int .i64 num) ∧ w'.cell? ⟨w.heap.size, 3, none⟩ = some (.string text)) (first | (with_reducible exact ⟨k0, k1, k2, k3⟩) | (with_reducible exact ⟨q0, q1, q2, q3⟩) | go_keep)
    (first
      | (go_at_call 20; ((with_reducible refine HD.out.mono ?_); rintro e w2 ⟨rfl, h2, t2⟩; have hp2 := HP0.out.diskStep (h2.mono (fun _ hk => .inl hk) (Dsk.Grow.new HP0.out.disk)) t2; have hbx2 := touch_cells (w := w1.drew) HBX.out t2 HNF.out; obtain ⟨k0, k1, k2, k3⟩ := fourC hbx2; have HP2 := Lib.hid hp2; have HBX2 := Lib.hid hbx2; clear h2 t2 hp2 hbx2))
      | (go_at_call 36; ((refine (remove_drw HP2.out.drawer file).mono ?_); rintro e w3 ⟨rfl, h3, t3⟩; have hp3 := HP2.out.drawStep (h3) t3; have hbx3 := touch_cells HBX2.out t3 HNG.out; obtain ⟨k0, k1, k2, k3⟩ := fourC hbx3; have HP3 := Lib.hid hp3; clear h3 t3 hp3 hbx3)))
  have HSM := Lib.hid (same_true HP3.out.disk HP3.out.drawer)
  go_wp2_with fail
  refine HSM.out.mono ?_
  rintro e w4 ⟨rfl, hb4⟩
  have HF := Lib.hid (HP3.out.next hb4)
  clear hb4 HSM
  go_wp2
  go_ret
  exact ⟨rfl, _, _, _, HF.out⟩

end
end Go.Proofs.Ytglgbidcmkncgaa.Drw
