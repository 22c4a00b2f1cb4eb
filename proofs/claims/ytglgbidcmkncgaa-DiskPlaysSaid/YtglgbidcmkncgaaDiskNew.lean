/- disk.New. -/
import Derived.Test.YtglgbidcmkncgaaDiskApp
namespace Go.Proofs.Ytglgbidcmkncgaa.Dsk
open Go.RowKit Go.Maps Heap

section
variable {W w : World}

set_option maxRecDepth 100000 in
theorem new_good (hW : Below W.heap.size W w) (room : Int) (h1 : 1 ≤ room) (h2 : room ≤ 65536) : Calls Try.prog 17 #[.int .i64 room] w fun e w' => e = .returned (.tuple #[.pointer (some ⟨w.heap.size + 1, 0, none⟩), .int .i64 0]) ∧ DiskAt W (fun k => w.heap.size ≤ k) (w.heap.size + 1) room [] w' ∧ Below w.heap.size w w' := by
  have hsz := hW.size
  have hend : DiskAt W (fun k => w.heap.size ≤ k) (w.heap.size + 1) room [] ((w.alloc (.map #[] 0)).alloc (.cells #[.int .i64 room, .int .i64 0, .map (some w.heap.size)] 71)) ∧ Below w.heap.size w ((w.alloc (.map #[] 0)).alloc (.cells #[.int .i64 room, .int .i64 0, .map (some w.heap.size)] 71)) := by
    have hb : Below w.heap.size w ((w.alloc (.map #[] 0)).alloc (.cells #[.int .i64 room, .int .i64 0, .map (some w.heap.size)] 71)) := ((Below.refl _ _).alloc (Nat.le_refl _) _).alloc (by simp) _
    refine ⟨⟨⟨List.Pairwise.nil, by decide, by simp [total]; omega, h2, (fun _ h => by cases h), (fun _ h => by cases h)⟩, hW.trans (hb.mono hsz), fun k hk => Nat.le_trans hsz hk, w.heap.size, fun _ => 0, .map [], ?_⟩, hb⟩
    refine ⟨?_, ?_, rfl, fun k => rfl, (fun _ h => by cases h), (fun _ h => by cases h), (fun _ h => by cases h), Nat.le_succ _, Nat.le_refl _, (fun _ h => by cases h)⟩
    · have := heap_alloc_new (w.alloc (.map #[] 0)) (.cells #[.int .i64 room, .int .i64 0, .map (some w.heap.size)] 71)
      rw [show (w.alloc (.map #[] 0)).heap.size = w.heap.size + 1 from by simp] at this
      exact this
    · exact (World.ownsMap_made w Try.prog 3 ptrElem).alloc _
  have HEND := Lib.hid hend
  clear hend hW hsz
  have hmm := @run_makeMap Try.prog
  go_enter Try.func17, Try.ntmps17
  go_wp2
  go_ret2
  exact ⟨rfl, HEND.out⟩

set_option maxRecDepth 100000 in
theorem new_bad (room : Int) (h : ¬ (1 ≤ room ∧ room ≤ 65536)) : Calls Try.prog 17 #[.int .i64 room] w fun e w' => e = .returned (.tuple #[.pointer none, .int .i64 1]) ∧ w = w' := by
  by_cases h1 : room < 1
  · clear h
    go_enter Try.func17, Try.ntmps17
    go_wp2
    go_ret2
    exact ⟨rfl, rfl⟩
  · have h2 : 65536 < room := by omega
    have h1' : ¬ room < 1 := h1
    clear h
    go_enter Try.func17, Try.ntmps17
    go_wp2
    go_ret2
    exact ⟨rfl, rfl⟩
end
end Go.Proofs.Ytglgbidcmkncgaa.Dsk
