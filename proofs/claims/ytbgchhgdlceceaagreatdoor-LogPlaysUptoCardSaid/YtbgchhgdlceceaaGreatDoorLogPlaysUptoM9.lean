/- Parts of the proof, joined: rilllaw.at: the same is done at both disks.; rilllaw.at: a stop; anything else; whatever is asked.; The law DiskPlays, walked: it returns true.; Numbers as bytes: how a number is written, how it is read, and that the two fit. Plain lists of bytes; no program here. -/
import Derived.Test.YtbgchhgdlceceaaGreatDoorLogPlaysUptoM8
import Derived.Deep.RegionHeld3
namespace Go.Proofs.YtbgchhgdlceceaaGreatDoor.Drw
open Go.RowKit Heap Dsk

/-- Both disks, of blocks of their own. -/
structure Pair (W : World) (F G : Nat → Prop) (D E : Nat) (room : Int) (A B : List FileP) (w : World) : Prop where
  disk : DiskAt W F D room A w
  drawer : DrawAt W G E room B w
  bF : ∀ k, F k → k < w.heap.size
  bG : ∀ k, G k → k < w.heap.size
  apart : ∀ k, F k → ¬ G k

def Both (W : World) (D E : Nat) (room : Int) (w : World) : Prop := ∃ F G A, Pair W F G D E room A A w

section
variable {W w w' : World} {F G : Nat → Prop} {D E : Nat} {room : Int} {A B A1 : List FileP}

theorem Pair.next (h : Pair W F G D E room A B w) (hb : Below w.heap.size w w') : Pair W F G D E room A B w' :=
  ⟨h.disk.kept (hb.mono h.disk.below.size) (fun k _ hk => hb.block k hk), h.drawer.next hb, fun k hk => Nat.lt_of_lt_of_le (h.bF k hk) hb.size, fun k hk => Nat.lt_of_lt_of_le (h.bG k hk) hb.size, h.apart⟩

theorem Pair.diskStep (h : Pair W F G D E room A B w) (hd : DiskAt W (Dsk.Grow F w) D room A1 w') (ht : Heap.Touch F w w') : Pair W (fun k => Dsk.Grow F w k ∧ k < w'.heap.size) G D E room A1 B w' := by
  refine ⟨hd.shrink, h.drawer.kept (h.drawer.below.trans (ht.below h.drawer.below.size h.disk.newF)) (ht.same fun k hk hf => h.apart k hf hk), fun k hk => hk.2, fun k hk => Nat.lt_of_lt_of_le (h.bG k hk) ht.size, fun k hk hg => ?_⟩
  rcases hk.1 with hk | hk
  · exact h.apart k hk hg
  · have := h.bG k hg; omega

theorem DrawAt.shrink (h : DrawAt W G E room A w) : DrawAt W (fun k => G k ∧ k < w.heap.size) E room A w := by
  obtain ⟨v, h1, h2, h3⟩ := h.mem
  exact ⟨h.right, h.below, fun k hk => h.newG k hk.1, ⟨h.gE, heap_lt h1⟩, v, h1, h2, fun k hk => ⟨h3 k hk, h2.lt k hk⟩⟩

theorem Pair.drawStep (h : Pair W F G D E room A B w) (hd : DrawAt W (Dsk.Grow G w) E room A w') (ht : Heap.Touch G w w') : Pair W F (fun k => Dsk.Grow G w k ∧ k < w'.heap.size) D E room A A w' := by
  refine ⟨h.disk.kept (ht.below h.disk.below.size h.drawer.newG) (ht.same fun k hk hg => h.apart k hk hg), hd.shrink, fun k hk => Nat.lt_of_lt_of_le (h.bF k hk) ht.size, fun k hk => hk.2, fun k hk hg => ?_⟩
  rcases hg.1 with hg | hg
  · exact h.apart k hk hg
  · have := h.bF k hk; omega

theorem touch_cells {bx : Nat} {a0 a1 a2 a3 : Value} {t : TypeId} {H : Nat → Prop} (h : w.heap[bx]? = some (.cells #[a0, a1, a2, a3] t (0, 0))) (ht : Heap.Touch H w w') (hn : ¬ H bx) : w'.heap[bx]? = some (.cells #[a0, a1, a2, a3] t (0, 0)) := (ht.block bx (heap_lt h) hn).trans h

theorem fourC {bx : Nat} {a0 a1 a2 a3 : Value} {t : TypeId} (h : w.heap[bx]? = some (.cells #[a0, a1, a2, a3] t (0, 0))) :
    w.cell? ⟨bx, 0, none⟩ = some a0 ∧ w.cell? ⟨bx, 1, none⟩ = some a1 ∧ w.cell? ⟨bx, 2, none⟩ = some a2 ∧ w.cell? ⟨bx, 3, none⟩ = some a3 := by
  refine ⟨?_, ?_, ?_, ?_⟩
  · rw [cell_of_row w bx 0 _ _ _ h]; rfl
  · rw [cell_of_row w bx 1 _ _ _ h]; rfl
  · rw [cell_of_row w bx 2 _ _ _ h]; rfl
  · rw [cell_of_row w bx 3 _ _ _ h]; rfl

set_option maxHeartbeats 2000000 in
set_option maxRecDepth 100000 in
theorem at_append (hP : Pair W F G D E room A A w) (file num : Int) (text : ByteArray) (hf : -9223372036854775808 ≤ file ∧ file ≤ 9223372036854775807) (hnu : -9223372036854775808 ≤ num ∧ num ≤ 9223372036854775807) (htx : text.size ≤ 4611686018427387904) :
    Calls Tryz.prog 41 #[.pointer (some ⟨D, 0, none⟩), .pointer (some ⟨E, 0, none⟩), .agg #[.int .i64 0, .int .i64 file, .int .i64 num, .string text]] w fun e w' => e = .returned (.bool true) ∧ Both W D E room w' := by
  obtain ⟨w1, hw1⟩ : ∃ w1, w1 = w.alloc (.cells #[.int .i64 0, .int .i64 file, .int .i64 num, .string text] 86) := ⟨_, rfl⟩
  have hb1 : Below w.heap.size w w1 := by rw [hw1]; exact (Below.refl _ _).alloc (Nat.le_refl _) _
  have hbx : w1.heap[w.heap.size]? = some (.cells #[.int .i64 0, .int .i64 file, .int .i64 num, .string text] 86 (0, 0)) := by rw [hw1]; exact heap_alloc_new w _
  have hP0 : Pair W F G D E room A A w1.drew := (hP.next hb1).next (Below.refl _ _).drew
  have hnF : ¬ F w.heap.size := fun h => by have := hP.bF _ h; omega
  have hnG : ¬ G w.heap.size := fun h => by have := hP.bG _ h; omega
  obtain ⟨q0, q1, q2, q3⟩ := fourC hbx
  have HD := Lib.hid (append_any hP0.disk file text hf (by omega))
  have HP0 := Lib.hid hP0; have HBX := Lib.hid hbx; have HNF := Lib.hid hnF; have HNG := Lib.hid hnG; have HTX := Lib.hid htx
  clear hP hb1 hbx hP0 hnF hnG hf hnu htx
  go_enter Tryz.func41, Tryz.ntmps41
  go_upto_region 1 with fail
  rw [← hw1]
  clear hw1
  go_upto_region 4 with fail
  go_region_held3 (fun w' => w'.cell? ⟨w.heap.size, 0, none⟩ = some (.int .i64 0) ∧ w'.cell? ⟨w.heap.size, 1, none⟩ = some (.int .i64 file) ∧ w'.cell? ⟨w.heap.size, 2, none⟩ = some (.int .i64 num) ∧ w'.cell? ⟨w.heap.size, 3, none⟩ = some (.string text)) (first | (with_reducible exact ⟨k0, k1, k2, k3⟩) | (with_reducible exact ⟨q0, q1, q2, q3⟩) | go_keep)
    (first
      | (go_at_call 100; ((with_reducible refine HD.out.mono ?_); rintro e w2 ⟨rfl, h2, t2⟩; have hp2 := HP0.out.diskStep (h2) t2; have hbx2 := touch_cells (w := w1.drew) HBX.out t2 HNF.out; obtain ⟨k0, k1, k2, k3⟩ := fourC hbx2; have HP2 := Lib.hid hp2; have HBX2 := Lib.hid hbx2; clear h2 t2 hp2 hbx2))
      | (go_at_call 101; ((refine (append_drw HP2.out.drawer file text HTX.out).mono ?_); rintro e w3 ⟨rfl, h3, t3⟩; have hp3 := HP2.out.drawStep (h3) t3; have hbx3 := touch_cells HBX2.out t3 HNG.out; obtain ⟨k0, k1, k2, k3⟩ := fourC hbx3; have HP3 := Lib.hid hp3; clear h3 t3 hp3 hbx3)))
  have HSM := Lib.hid (same_true HP3.out.disk HP3.out.drawer)
  go_wp2_with fail
  refine HSM.out.mono ?_
  rintro e w4 ⟨rfl, hb4⟩
  have HF := Lib.hid (HP3.out.next hb4)
  clear hb4 HSM
  go_wp2
  go_ret
  exact ⟨rfl, _, _, _, HF.out⟩

set_option maxHeartbeats 2000000 in
set_option maxRecDepth 100000 in
theorem at_cut (hP : Pair W F G D E room A A w) (file num : Int) (text : ByteArray) (hf : -9223372036854775808 ≤ file ∧ file ≤ 9223372036854775807) (hnu : -9223372036854775808 ≤ num ∧ num ≤ 9223372036854775807) (htx : text.size ≤ 4611686018427387904) :
    Calls Tryz.prog 41 #[.pointer (some ⟨D, 0, none⟩), .pointer (some ⟨E, 0, none⟩), .agg #[.int .i64 1, .int .i64 file, .int .i64 num, .string text]] w fun e w' => e = .returned (.bool true) ∧ Both W D E room w' := by
  obtain ⟨w1, hw1⟩ : ∃ w1, w1 = w.alloc (.cells #[.int .i64 1, .int .i64 file, .int .i64 num, .string text] 86) := ⟨_, rfl⟩
  have hb1 : Below w.heap.size w w1 := by rw [hw1]; exact (Below.refl _ _).alloc (Nat.le_refl _) _
  have hbx : w1.heap[w.heap.size]? = some (.cells #[.int .i64 1, .int .i64 file, .int .i64 num, .string text] 86 (0, 0)) := by rw [hw1]; exact heap_alloc_new w _
  have hP0 : Pair W F G D E room A A w1.drew := (hP.next hb1).next (Below.refl _ _).drew
  have hnF : ¬ F w.heap.size := fun h => by have := hP.bF _ h; omega
  have hnG : ¬ G w.heap.size := fun h => by have := hP.bG _ h; omega
  obtain ⟨q0, q1, q2, q3⟩ := fourC hbx
  have HD := Lib.hid (cut_any hP0.disk file num hf)
  have HP0 := Lib.hid hP0; have HBX := Lib.hid hbx; have HNF := Lib.hid hnF; have HNG := Lib.hid hnG; have HTX := Lib.hid htx
  clear hP hb1 hbx hP0 hnF hnG hf hnu htx
  go_enter Tryz.func41, Tryz.ntmps41
  go_upto_region 1 with fail
  rw [← hw1]
  clear hw1
  go_upto_region 6 with fail
  go_region_held3 (fun w' => w'.cell? ⟨w.heap.size, 0, none⟩ = some (.int .i64 1) ∧ w'.cell? ⟨w.heap.size, 1, none⟩ = some (.int .i64 file) ∧ w'.cell? ⟨w.heap.size, 2, none⟩ = some (.int .i64 num) ∧ w'.cell? ⟨w.heap.size, 3, none⟩ = some (.string text)) (first | (with_reducible exact ⟨k0, k1, k2, k3⟩) | (with_reducible exact ⟨q0, q1, q2, q3⟩) | go_keep)
    (first
      | (go_at_call 102; ((with_reducible refine HD.out.mono ?_); rintro e w2 ⟨rfl, h2, t2⟩; have hp2 := HP0.out.diskStep (h2.mono (fun _ hk => .inl hk) (Dsk.Grow.new HP0.out.disk)) t2; have hbx2 := touch_cells (w := w1.drew) HBX.out t2 HNF.out; obtain ⟨k0, k1, k2, k3⟩ := fourC hbx2; have HP2 := Lib.hid hp2; have HBX2 := Lib.hid hbx2; clear h2 t2 hp2 hbx2))
      | (go_at_call 103; ((refine (cut_drw HP2.out.drawer file num).mono ?_); rintro e w3 ⟨rfl, h3, t3⟩; have hp3 := HP2.out.drawStep (h3.mono (fun _ hk => .inl hk) HP2.out.drawer.grow.newG) t3; have hbx3 := touch_cells HBX2.out t3 HNG.out; obtain ⟨k0, k1, k2, k3⟩ := fourC hbx3; have HP3 := Lib.hid hp3; clear h3 t3 hp3 hbx3)))
  have HSM := Lib.hid (same_true HP3.out.disk HP3.out.drawer)
  go_wp2_with fail
  refine HSM.out.mono ?_
  rintro e w4 ⟨rfl, hb4⟩
  have HF := Lib.hid (HP3.out.next hb4)
  clear hb4 HSM
  go_wp2
  go_ret
  exact ⟨rfl, _, _, _, HF.out⟩

set_option maxHeartbeats 2000000 in
set_option maxRecDepth 100000 in
theorem at_sync (hP : Pair W F G D E room A A w) (file num : Int) (text : ByteArray) (hf : -9223372036854775808 ≤ file ∧ file ≤ 9223372036854775807) (hnu : -9223372036854775808 ≤ num ∧ num ≤ 9223372036854775807) (htx : text.size ≤ 4611686018427387904) :
    Calls Tryz.prog 41 #[.pointer (some ⟨D, 0, none⟩), .pointer (some ⟨E, 0, none⟩), .agg #[.int .i64 2, .int .i64 file, .int .i64 num, .string text]] w fun e w' => e = .returned (.bool true) ∧ Both W D E room w' := by
  obtain ⟨w1, hw1⟩ : ∃ w1, w1 = w.alloc (.cells #[.int .i64 2, .int .i64 file, .int .i64 num, .string text] 86) := ⟨_, rfl⟩
  have hb1 : Below w.heap.size w w1 := by rw [hw1]; exact (Below.refl _ _).alloc (Nat.le_refl _) _
  have hbx : w1.heap[w.heap.size]? = some (.cells #[.int .i64 2, .int .i64 file, .int .i64 num, .string text] 86 (0, 0)) := by rw [hw1]; exact heap_alloc_new w _
  have hP0 : Pair W F G D E room A A w1.drew := (hP.next hb1).next (Below.refl _ _).drew
  have hnF : ¬ F w.heap.size := fun h => by have := hP.bF _ h; omega
  have hnG : ¬ G w.heap.size := fun h => by have := hP.bG _ h; omega
  obtain ⟨q0, q1, q2, q3⟩ := fourC hbx
  have HD := Lib.hid (sync_any hP0.disk file hf)
  have HP0 := Lib.hid hP0; have HBX := Lib.hid hbx; have HNF := Lib.hid hnF; have HNG := Lib.hid hnG; have HTX := Lib.hid htx
  clear hP hb1 hbx hP0 hnF hnG hf hnu htx
  go_enter Tryz.func41, Tryz.ntmps41
  go_upto_region 1 with fail
  rw [← hw1]
  clear hw1
  go_upto_region 8 with fail
  go_region_held3 (fun w' => w'.cell? ⟨w.heap.size, 0, none⟩ = some (.int .i64 2) ∧ w'.cell? ⟨w.heap.size, 1, none⟩ = some (.int .i64 file) ∧ w'.cell? ⟨w.heap.size, 2, none⟩ = some (.int .i64 num) ∧ w'.cell? ⟨w.heap.size, 3, none⟩ = some (.string text)) (first | (with_reducible exact ⟨k0, k1, k2, k3⟩) | (with_reducible exact ⟨q0, q1, q2, q3⟩) | go_keep)
    (first
      | (go_at_call 104; ((with_reducible refine HD.out.mono ?_); rintro e w2 ⟨rfl, h2, t2⟩; have hp2 := HP0.out.diskStep (h2.mono (fun _ hk => .inl hk) (Dsk.Grow.new HP0.out.disk)) t2; have hbx2 := touch_cells (w := w1.drew) HBX.out t2 HNF.out; obtain ⟨k0, k1, k2, k3⟩ := fourC hbx2; have HP2 := Lib.hid hp2; have HBX2 := Lib.hid hbx2; clear h2 t2 hp2 hbx2))
      | (go_at_call 50; ((refine (sync_drw HP2.out.drawer file).mono ?_); rintro e w3 ⟨rfl, h3, t3⟩; have hp3 := HP2.out.drawStep (h3.mono (fun _ hk => .inl hk) HP2.out.drawer.grow.newG) t3; have hbx3 := touch_cells HBX2.out t3 HNG.out; obtain ⟨k0, k1, k2, k3⟩ := fourC hbx3; have HP3 := Lib.hid hp3; clear h3 t3 hp3 hbx3)))
  have HSM := Lib.hid (same_true HP3.out.disk HP3.out.drawer)
  go_wp2_with fail
  refine HSM.out.mono ?_
  rintro e w4 ⟨rfl, hb4⟩
  have HF := Lib.hid (HP3.out.next hb4)
  clear hb4 HSM
  go_wp2
  go_ret
  exact ⟨rfl, _, _, _, HF.out⟩

set_option maxHeartbeats 2000000 in
set_option maxRecDepth 100000 in
theorem at_remove (hP : Pair W F G D E room A A w) (file num : Int) (text : ByteArray) (hf : -9223372036854775808 ≤ file ∧ file ≤ 9223372036854775807) (hnu : -9223372036854775808 ≤ num ∧ num ≤ 9223372036854775807) (htx : text.size ≤ 4611686018427387904) :
    Calls Tryz.prog 41 #[.pointer (some ⟨D, 0, none⟩), .pointer (some ⟨E, 0, none⟩), .agg #[.int .i64 3, .int .i64 file, .int .i64 num, .string text]] w fun e w' => e = .returned (.bool true) ∧ Both W D E room w' := by
  obtain ⟨w1, hw1⟩ : ∃ w1, w1 = w.alloc (.cells #[.int .i64 3, .int .i64 file, .int .i64 num, .string text] 86) := ⟨_, rfl⟩
  have hb1 : Below w.heap.size w w1 := by rw [hw1]; exact (Below.refl _ _).alloc (Nat.le_refl _) _
  have hbx : w1.heap[w.heap.size]? = some (.cells #[.int .i64 3, .int .i64 file, .int .i64 num, .string text] 86 (0, 0)) := by rw [hw1]; exact heap_alloc_new w _
  have hP0 : Pair W F G D E room A A w1.drew := (hP.next hb1).next (Below.refl _ _).drew
  have hnF : ¬ F w.heap.size := fun h => by have := hP.bF _ h; omega
  have hnG : ¬ G w.heap.size := fun h => by have := hP.bG _ h; omega
  obtain ⟨q0, q1, q2, q3⟩ := fourC hbx
  have HD := Lib.hid (remove_any hP0.disk file hf)
  have HP0 := Lib.hid hP0; have HBX := Lib.hid hbx; have HNF := Lib.hid hnF; have HNG := Lib.hid hnG; have HTX := Lib.hid htx
  clear hP hb1 hbx hP0 hnF hnG hf hnu htx
  go_enter Tryz.func41, Tryz.ntmps41
  go_upto_region 1 with fail
  rw [← hw1]
  clear hw1
  go_upto_region 10 with fail
  go_region_held3 (fun w' => w'.cell? ⟨w.heap.size, 0, none⟩ = some (.int .i64 3) ∧ w'.cell? ⟨w.heap.size, 1, none⟩ = some (.int .i64 file) ∧ w'.cell? ⟨w.heap.size, 2, none⟩ = some (.int .i64 num) ∧ w'.cell? ⟨w.heap.size, 3, none⟩ = some (.string text)) (first | (with_reducible exact ⟨k0, k1, k2, k3⟩) | (with_reducible exact ⟨q0, q1, q2, q3⟩) | go_keep)
    (first
      | (go_at_call 105; ((with_reducible refine HD.out.mono ?_); rintro e w2 ⟨rfl, h2, t2⟩; have hp2 := HP0.out.diskStep (h2.mono (fun _ hk => .inl hk) (Dsk.Grow.new HP0.out.disk)) t2; have hbx2 := touch_cells (w := w1.drew) HBX.out t2 HNF.out; obtain ⟨k0, k1, k2, k3⟩ := fourC hbx2; have HP2 := Lib.hid hp2; have HBX2 := Lib.hid hbx2; clear h2 t2 hp2 hbx2))
      | (go_at_call 106; ((refine (remove_drw HP2.out.drawer file).mono ?_); rintro e w3 ⟨rfl, h3, t3⟩; have hp3 := HP2.out.drawStep (h3) t3; have hbx3 := touch_cells HBX2.out t3 HNG.out; obtain ⟨k0, k1, k2, k3⟩ := fourC hbx3; have HP3 := Lib.hid hp3; clear h3 t3 hp3 hbx3)))
  have HSM := Lib.hid (same_true HP3.out.disk HP3.out.drawer)
  go_wp2_with fail
  refine HSM.out.mono ?_
  rintro e w4 ⟨rfl, hb4⟩
  have HF := Lib.hid (HP3.out.next hb4)
  clear hb4 HSM
  go_wp2
  go_ret
  exact ⟨rfl, _, _, _, HF.out⟩

end
end Go.Proofs.YtbgchhgdlceceaaGreatDoor.Drw

namespace Go.Proofs.YtbgchhgdlceceaaGreatDoor.Drw
open Go.RowKit Heap Dsk

section
variable {W w w' : World} {F G : Nat → Prop} {D E : Nat} {room : Int} {A : List FileP}

set_option maxHeartbeats 2000000 in
set_option maxRecDepth 100000 in
theorem at_crash (hP : Pair W F G D E room A A w) (file num : Int) (text : ByteArray) (hnu : -9223372036854775808 ≤ num ∧ num ≤ 9223372036854775807) :
    Calls Tryz.prog 41 #[.pointer (some ⟨D, 0, none⟩), .pointer (some ⟨E, 0, none⟩), .agg #[.int .i64 4, .int .i64 file, .int .i64 num, .string text]] w fun e w' => e = .returned (.bool true) ∧ Both W D E room w' := by
  obtain ⟨w1, hw1⟩ : ∃ w1, w1 = w.alloc (.cells #[.int .i64 4, .int .i64 file, .int .i64 num, .string text] 86) := ⟨_, rfl⟩
  have hb1 : Below w.heap.size w w1 := by rw [hw1]; exact (Below.refl _ _).alloc (Nat.le_refl _) _
  have hbx : w1.heap[w.heap.size]? = some (.cells #[.int .i64 4, .int .i64 file, .int .i64 num, .string text] 86 (0, 0)) := by rw [hw1]; exact heap_alloc_new w _
  have hP0 : Pair W F G D E room A A w1 := hP.next hb1
  have hnF : ¬ F w.heap.size := fun h => by have := hP.bF _ h; omega
  have hnG : ¬ G w.heap.size := fun h => by have := hP.bG _ h; omega
  obtain ⟨q0, q1, q2, q3⟩ := fourC hbx
  have HD := Lib.hid (crash_any hP0.disk num)
  have HP0 := Lib.hid hP0; have HBX := Lib.hid hbx; have HNF := Lib.hid hnF; have HNG := Lib.hid hnG; have HNU := Lib.hid hnu
  clear hP hb1 hbx hP0 hnF hnG hnu
  go_enter Tryz.func41, Tryz.ntmps41
  go_upto_region 1 with fail
  rw [← hw1]
  clear hw1
  go_wp2_with fail
  refine HD.out.mono ?_
  rintro e w2 ⟨rfl, h2, t2⟩
  have hp2 := HP0.out.diskStep (h2.mono (fun _ hk => .inl hk) (Dsk.Grow.new HP0.out.disk)) t2
  have hbx2 := touch_cells HBX.out t2 HNF.out
  clear q0 q1 q2 q3
  obtain ⟨q0, q1, q2, q3⟩ := fourC hbx2
  have HP2 := Lib.hid hp2; have HBX2 := Lib.hid hbx2
  have HX := Lib.hid (crash_drw hp2.drawer num HNU.out)
  clear h2 t2 hp2 hbx2
  go_wp2_with fail
  refine HX.out.mono ?_
  rintro e w3 ⟨rfl, h3, t3⟩
  have hp3 := HP2.out.drawStep (h3.mono (fun _ hk => .inl hk) HP2.out.drawer.grow.newG) t3
  have HP3 := Lib.hid hp3
  clear h3 t3 hp3 q0 q1 q2 q3
  have HSM := Lib.hid (same_true HP3.out.disk HP3.out.drawer)
  go_wp2_with fail
  refine HSM.out.mono ?_
  rintro e w4 ⟨rfl, hb4⟩
  have HF := Lib.hid (HP3.out.next hb4)
  clear hb4 HSM
  go_wp2
  go_ret
  exact ⟨rfl, _, _, _, HF.out⟩

set_option maxHeartbeats 2000000 in
set_option maxRecDepth 100000 in
theorem at_other (hP : Pair W F G D E room A A w) (kind file num : Int) (text : ByteArray) (h0 : (kind == 0) = false) (h1 : (kind == 1) = false) (h2 : (kind == 2) = false) (h3 : (kind == 3) = false) (h4 : (kind == 4) = false) :
    Calls Tryz.prog 41 #[.pointer (some ⟨D, 0, none⟩), .pointer (some ⟨E, 0, none⟩), .agg #[.int .i64 kind, .int .i64 file, .int .i64 num, .string text]] w fun e w' => e = .returned (.bool true) ∧ Both W D E room w' := by
  obtain ⟨w1, hw1⟩ : ∃ w1, w1 = w.alloc (.cells #[.int .i64 kind, .int .i64 file, .int .i64 num, .string text] 86) := ⟨_, rfl⟩
  have hb1 : Below w.heap.size w w1 := by rw [hw1]; exact (Below.refl _ _).alloc (Nat.le_refl _) _
  have hbx : w1.heap[w.heap.size]? = some (.cells #[.int .i64 kind, .int .i64 file, .int .i64 num, .string text] 86 (0, 0)) := by rw [hw1]; exact heap_alloc_new w _
  have hP0 : Pair W F G D E room A A w1 := hP.next hb1
  obtain ⟨q0, q1, q2, q3⟩ := fourC hbx
  have HP0 := Lib.hid hP0
  have HSM := Lib.hid (same_true hP0.disk hP0.drawer)
  clear hP hb1 hbx hP0
  go_enter Tryz.func41, Tryz.ntmps41
  go_upto_region 1 with fail
  rw [← hw1]
  clear hw1
  go_wp2_with fail
  refine HSM.out.mono ?_
  rintro e w4 ⟨rfl, hb4⟩
  have HF := Lib.hid (HP0.out.next hb4)
  clear hb4 HSM
  go_wp2
  go_ret
  exact ⟨rfl, _, _, _, HF.out⟩

theorem at_true (hP : Both W D E room w) (kind file num : Int) (text : ByteArray) (hf : -9223372036854775808 ≤ file ∧ file ≤ 9223372036854775807) (hnu : -9223372036854775808 ≤ num ∧ num ≤ 9223372036854775807) (htx : text.size ≤ 4611686018427387904) :
    Calls Tryz.prog 41 #[.pointer (some ⟨D, 0, none⟩), .pointer (some ⟨E, 0, none⟩), .agg #[.int .i64 kind, .int .i64 file, .int .i64 num, .string text]] w fun e w' => e = .returned (.bool true) ∧ Both W D E room w' := by
  obtain ⟨F, G, A, hP⟩ := hP
  by_cases k0 : kind = 0
  · subst k0; exact at_append hP file num text hf hnu htx
  · by_cases k1 : kind = 1
    · subst k1; exact at_cut hP file num text hf hnu htx
    · by_cases k2 : kind = 2
      · subst k2; exact at_sync hP file num text hf hnu htx
      · by_cases k3 : kind = 3
        · subst k3; exact at_remove hP file num text hf hnu htx
        · by_cases k4 : kind = 4
          · subst k4; exact at_crash hP file num text hnu
          · exact at_other hP kind file num text (by simpa using k0) (by simpa using k1) (by simpa using k2) (by simpa using k3) (by simpa using k4)
end
end Go.Proofs.YtbgchhgdlceceaaGreatDoor.Drw

namespace Go.Proofs.YtbgchhgdlceceaaGreatDoor.Drw
open Go.RowKit Heap Dsk

structure ActP where
  kind : Int
  file : Int
  num : Int
  text : ByteArray

/-- A slice of acts. -/
def ActsAt (w : World) (ao : Option Addr) (n : Nat) (f : Nat → ActP) : Prop :=
  0 < n → ∃ g off, ao = some ⟨g, off, none⟩ ∧ ∀ i, i < n →
    w.cell? ⟨g, off + i * 4, none⟩ = some (.int .i64 (f i).kind) ∧ w.cell? ⟨g, off + i * 4 + 1, none⟩ = some (.int .i64 (f i).file) ∧ w.cell? ⟨g, off + i * 4 + 2, none⟩ = some (.int .i64 (f i).num) ∧ w.cell? ⟨g, off + i * 4 + 3, none⟩ = some (.string (f i).text) ∧
    (-9223372036854775808 ≤ (f i).file ∧ (f i).file ≤ 9223372036854775807) ∧ (-9223372036854775808 ≤ (f i).num ∧ (f i).num ≤ 9223372036854775807) ∧ (f i).text.size ≤ 4611686018427387904

theorem Both.below {W w : World} {D E : Nat} {room : Int} (h : Both W D E room w) : Below W.heap.size W w := by
  obtain ⟨F, G, A, hP⟩ := h
  exact hP.disk.below

theorem right_nil {room : Int} (h1 : 1 ≤ room) (h2 : room ≤ 65536) : RightD room [] :=
  ⟨List.Pairwise.nil, by decide, by simp [total]; omega, h2, (fun _ h => by cases h), (fun _ h => by cases h)⟩

section
variable {w : World}
end
end Go.Proofs.YtbgchhgdlceceaaGreatDoor.Drw

namespace Go.Proofs.YtbgchhgdlceceaaGreatDoor.Pack

/-- What is written of n, in at most f bytes. -/
def numF : Nat → Nat → List UInt8
  | 0, _ => []
  | f + 1, n => if n < 128 then [UInt8.ofNat n] else UInt8.ofNat (128 + n % 128) :: numF f (n / 128)

/-- What is written of a number below 2^63. -/
def numL (n : Nat) : List UInt8 := numF 9 n

/-- What is read at byte i, acc read so far: the number, how many bytes, the error. -/
def rdL : Nat → Nat → List UInt8 → Nat × Nat × Nat
  | _, _, [] => (0, 0, 6)
  | i, acc, b :: l =>
    if (128 ≤ b.toNat ∧ i = 8) ∨ (b.toNat = 0 ∧ 0 < i) then (0, 0, 7)
    else if b.toNat < 128 then (acc + b.toNat * 128 ^ i, i + 1, 0)
    else rdL (i + 1) (acc + (b.toNat - 128) * 128 ^ i) l

def rdN (l : List UInt8) : Nat × Nat × Nat := rdL 0 0 l

theorem numF_len (f n : Nat) : (numF f n).length ≤ f := by
  induction f generalizing n with
  | zero => simp [numF]
  | succ f ih => unfold numF; split <;> simp; have := ih (n / 128); omega

theorem numF_pos (f n : Nat) : 0 < (numF (f + 1) n).length := by
  unfold numF; split <;> simp

theorem numL_len (n : Nat) : (numL n).length ≤ 9 := numF_len 9 n

theorem ofNat_toNat_lt (n : Nat) (h : n < 256) : (UInt8.ofNat n).toNat = n := by
  simp [UInt8.toNat_ofNat']; omega

theorem pow_pos' (i : Nat) : 0 < 128 ^ i := Nat.pow_pos (by decide)

theorem rdL_one (f i acc : Nat) (s : List UInt8) (n k : Nat) (hf : i + f = 8) (h : rdL i acc s = (n, k, 0)) :
    ∃ m, n = acc + m * 128 ^ i ∧ m < 128 ^ (f + 1) ∧ i < k ∧ k ≤ i + s.length ∧ numF (f + 1) m = s.take (k - i) ∧ (0 < i → 0 < m) := by
  induction f generalizing i acc s with
  | zero =>
    cases s with
    | nil => simp [rdL] at h
    | cons b l =>
      simp only [rdL] at h
      split at h
      · simp at h
      · rename_i h1
        split at h
        · rename_i h2
          simp only [Prod.mk.injEq, and_true] at h
          obtain ⟨rfl, rfl⟩ := h
          refine ⟨b.toNat, rfl, by omega, by omega, by simp, ?_, by omega⟩
          have e : i + 1 - i = 1 := by omega
          rw [e]
          simp [numF, h2]
        · omega
  | succ f ih =>
    cases s with
    | nil => simp [rdL] at h
    | cons b l =>
      simp only [rdL] at h
      split at h
      · simp at h
      · rename_i h1
        split at h
        · rename_i h2
          simp only [Prod.mk.injEq, and_true] at h
          obtain ⟨rfl, rfl⟩ := h
          refine ⟨b.toNat, rfl, ?_, by omega, by simp, ?_, by omega⟩
          · have : 128 ≤ 128 ^ (f + 1 + 1) := by rw [Nat.pow_succ]; have := pow_pos' (f + 1); omega
            omega
          · have e : i + 1 - i = 1 := by omega
            rw [e]
            simp [numF, h2]
        · rename_i h2
          obtain ⟨m, rfl, hm, hik, hk, hnum, hmp⟩ := ih (i + 1) _ l (by omega) h
          have hb := b.toNat_lt
          have hmp := hmp (by omega)
          refine ⟨b.toNat - 128 + 128 * m, ?_, ?_, by omega, by simp; omega, ?_, by omega⟩
          · rw [Nat.pow_succ, Nat.add_mul]
            generalize 128 ^ i = p
            rw [Nat.mul_comm 128 m, Nat.mul_assoc m 128 p, Nat.mul_comm p 128]
            omega
          · rw [Nat.pow_succ]; omega
          · have e : k - i = (k - (i + 1)) + 1 := by omega
            rw [e, List.take_succ_cons, ← hnum]
            have h3 : ¬ (b.toNat - 128 + 128 * m < 128) := by omega
            conv => lhs; unfold numF
            rw [if_neg h3]
            have e1 : (b.toNat - 128 + 128 * m) % 128 = b.toNat - 128 := by omega
            have e2 : (b.toNat - 128 + 128 * m) / 128 = m := by omega
            rw [e1, e2]
            have e3 : 128 + (b.toNat - 128) = b.toNat := by omega
            rw [e3]
            simp

/-- What is read is written as just those bytes. -/
theorem rdN_one (s : List UInt8) (n k : Nat) (h : rdN s = (n, k, 0)) : n < 2 ^ 63 ∧ 0 < k ∧ k ≤ s.length ∧ numL n = s.take k := by
  obtain ⟨m, h1, h2, h3, h4, h5, _⟩ := rdL_one 8 0 0 s n k rfl h
  simp at h1 h4 h5
  subst h1
  exact ⟨by simpa using h2, h3, h4, h5⟩

theorem rdL_err (s : List UInt8) : ∀ i acc, (rdL i acc s).2.2 = 0 ∨ rdL i acc s = (0, 0, 6) ∨ rdL i acc s = (0, 0, 7) := by
  induction s with
  | nil => intro i acc; right; left; rfl
  | cons b l ih =>
    intro i acc
    simp only [rdL]
    split
    · right; right; rfl
    · split
      · left; rfl
      · exact ih _ _

/-- The three forms that an answer has. -/
theorem rdN_cases (s : List UInt8) : (∃ n k, rdN s = (n, k, 0) ∧ n < 2 ^ 63 ∧ 0 < k ∧ k ≤ s.length ∧ k ≤ 9 ∧ numL n = s.take k) ∨ rdN s = (0, 0, 6) ∨ rdN s = (0, 0, 7) := by
  rcases rdL_err s 0 0 with h | h | h
  · left
    obtain ⟨n, k, e⟩ : ∃ n k, rdN s = (n, k, 0) := ⟨(rdN s).1, (rdN s).2.1, by
      have : rdN s = ((rdN s).1, (rdN s).2.1, (rdN s).2.2) := rfl
      rw [this]; simp only [Prod.mk.injEq, true_and]; exact h⟩
    obtain ⟨a, b, c, d⟩ := rdN_one s n k e
    refine ⟨n, k, e, a, b, c, ?_, d⟩
    have := numL_len n
    rw [d, List.length_take] at this
    omega
  · right; left; exact h
  · right; right; exact h

/-- A text with its length ahead. -/
def textL (t : List UInt8) : List UInt8 := numL t.length ++ t

/-- What is read of a text of at most 'most' bytes: the text, how many bytes, the error. -/
def rdT (l : List UInt8) (most : Int) : List UInt8 × Nat × Nat :=
  if (rdN l).2.2 ≠ 0 then ([], 0, (rdN l).2.2)
  else if most < ((rdN l).1 : Int) then ([], 0, 7)
  else if l.length - (rdN l).2.1 < (rdN l).1 then ([], 0, 6)
  else ((l.drop (rdN l).2.1).take (rdN l).1, (rdN l).2.1 + (rdN l).1, 0)

/-- The three forms that an answer has. -/
theorem rdT_cases (s : List UInt8) (most : Int) : (∃ t k, rdT s most = (t, k, 0) ∧ (t.length : Int) ≤ most ∧ t.length < 2 ^ 63 ∧ k ≤ s.length ∧ textL t = s.take k ∧ k = (textL t).length) ∨ rdT s most = ([], 0, 6) ∨ rdT s most = ([], 0, 7) := by
  rcases rdN_cases s with ⟨n, k, h, h1, h2, h3, h4, h5⟩ | h | h
  · unfold rdT
    rw [h]
    simp only [ne_eq, not_true, if_false]
    split
    · right; right; rfl
    · split
      · right; left; rfl
      · left
        rename_i ha hb
        have hl : ((s.drop k).take n).length = n := by simp; omega
        refine ⟨_, _, rfl, by omega, by omega, by omega, ?_, ?_⟩
        · unfold textL
          rw [hl, h5, List.take_add]
        · unfold textL
          rw [List.length_append, hl, h5, List.length_take]
          omega
  · right; left; unfold rdT; rw [h]; simp
  · right; right; unfold rdT; rw [h]; simp

end Go.Proofs.YtbgchhgdlceceaaGreatDoor.Pack
