/- The law DiskPlays, walked: it returns true. -/
import Derived.Test.YtglgbidcmkncgaaDrawAt2
namespace Go.Proofs.Ytglgbidcmkncgaa.Drw
open Go.RowKit Heap Dsk

structure ActP where
  kind : Int
  file : Int
  num : Int
  text : ByteArray

/-- A slice of acts. -/
def ActsAt (w : World) (ao : Option Addr) (n : Nat) (f : Nat → ActP) : Prop :=
  0 < n → ∃ g off, ao = some ⟨g, off, none⟩ ∧ ∀ i, i < n →
    w.cell? ⟨g, off + i * 4, none⟩ = some (.int .i64 (f i).kind) ∧ w.cell? ⟨g, off + i * 4 + 1, none⟩ = some (.int .i64 (f i).file) ∧ w.cell? ⟨g, off + i * 4 + 2, none⟩ = some (.int .i64 (f i).num) ∧ w.cell? ⟨g, off + i * 4 + 3, none⟩ = some (.string (f i).text) ∧
    (-9223372036854775808 ≤ (f i).file ∧ (f i).file ≤ 9223372036854775807) ∧ (-9223372036854775808 ≤ (f i).num ∧ (f i).num ≤ 9223372036854775807) ∧ (f i).text.size ≤ 4611686018427387904

theorem Both.below {W w : World} {D E : Nat} {room : Int} (h : Both W D E room w) : Below W.heap.size W w := by
  obtain ⟨F, G, A, hP⟩ := h
  exact hP.disk.below

theorem right_nil {room : Int} (h1 : 1 ≤ room) (h2 : room ≤ 65536) : RightD room [] :=
  ⟨List.Pairwise.nil, by decide, by simp [total]; omega, h2, (fun _ h => by cases h), (fun _ h => by cases h)⟩

section
variable {w : World}

set_option maxHeartbeats 1000000 in
set_option maxRecDepth 100000 in
theorem plays_bad (ao : Option Addr) (n cap : Nat) (room num : Int) (h : ¬ (1 ≤ room ∧ room ≤ 65536)) :
    Calls Try.prog 6 #[.int .i64 room, .slice ao n cap, .int .i64 num] w fun e w' => e = .returned (.bool true) ∧ Below w.heap.size w w' := by
  have HN := Lib.hid (new_bad (w := w) room h)
  have HI := Lib.hid (in_no room 1 65536 w h)
  clear h
  go_enter Try.func6, Try.ntmps6
  go_wp2_with fail
  refine HN.out.mono ?_
  rintro e w' ⟨rfl, rfl⟩
  go_wp2_with fail
  refine HI.out.mono ?_
  rintro e w' ⟨rfl, rfl⟩
  go_wp2_with fail
  refine HI.out.mono ?_
  rintro e w' ⟨rfl, rfl⟩
  go_wp2
  go_ret
  exact ⟨rfl, Below.refl _ _⟩

set_option maxHeartbeats 2000000 in
set_option maxRecDepth 100000 in
theorem plays_good (ao : Option Addr) (n cap : Nat) (f : Nat → ActP) (room num : Int) (h1 : 1 ≤ room) (h2 : room ≤ 65536) (hnu : -9223372036854775808 ≤ num ∧ num ≤ 9223372036854775807) (hn : n ≤ 9223372036854775807) (hS : ActsAt w ao n f) :
    Calls Try.prog 6 #[.int .i64 room, .slice ao n cap, .int .i64 num] w fun e w' => e = .returned (.bool true) ∧ Below w.heap.size w w' := by
  have HN := Lib.hid (new_good (W := w) (w := w) (Below.refl _ _) room h1 h2)
  have HIN := Lib.hid (fun w => in_yes room 1 65536 w ⟨h1, h2⟩)
  have HS := Lib.hid hS; have HNU := Lib.hid hnu; have HRN := Lib.hid (right_nil h1 h2)
  clear hS hnu h1 h2
  go_enter Try.func6, Try.ntmps6
  go_wp2_with fail
  refine HN.out.mono ?_
  rintro e w1 ⟨rfl, hD1, hb1⟩
  have HD1 := Lib.hid hD1; have HB1 := Lib.hid hb1
  clear hD1 hb1 HN
  obtain ⟨D, hD⟩ : ∃ D, w.heap.size + 1 = D := ⟨_, rfl⟩
  rw [hD] at HD1 ⊢
  clear hD
  go_wp2_with fail
  refine (HIN.out _).mono ?_
  rintro e w1' ⟨rfl, rfl⟩
  by_cases h100 : 100 < n
  · have h100z : (100 : Int) < n := by omega
    clear HIN
    go_wp2_with fail
    go_ret
    exact ⟨rfl, HB1.out⟩
  · have h100z : ¬ (100 : Int) < n := by omega
    clear HIN
    obtain ⟨w2, hw2⟩ : ∃ w2, w2 = w1.alloc (.cells #[.int .i64 room, .slice none 0 0] 59) := ⟨_, rfl⟩
    have hb2 : Below w1.heap.size w1 w2 := by rw [hw2]; exact (Below.refl _ _).alloc (Nat.le_refl _) _
    have hE : w2.heap[w1.heap.size]? = some (.cells #[.int .i64 room, .slice none 0 0] 59 (0, 0)) := by rw [hw2]; exact heap_alloc_new w1 _
    have hP : Pair w (fun k => w.heap.size ≤ k ∧ k < w1.heap.size) (fun k => k = w1.heap.size) D w1.heap.size room [] [] w2 := by
      have hsz2 : w2.heap.size = w1.heap.size + 1 := by rw [hw2]; simp
      refine ⟨HD1.out.shrink.kept (hb2.mono HB1.out.size) (fun k _ hk => hb2.block k hk), ⟨HRN.out, HB1.out.trans (hb2.mono HB1.out.size), fun k hk => by have := HB1.out.size; omega, rfl, .slice none 0 0, hE, Row.nil _ _ _, fun k hk => by simp [own, Value.ownBlock] at hk⟩, fun k hk => by have := hk.2; omega, fun k hk => by omega, fun k hk e => by have := hk.2; omega⟩
    have HBO := Lib.hid (show Both w D w1.heap.size room w2 from ⟨_, _, _, hP⟩)
    obtain ⟨E, hEE⟩ : ∃ E, w1.heap.size = E := ⟨_, rfl⟩
    rw [hEE] at HBO
    have HEE := Lib.hid hEE
    clear hb2 hE hP HD1 HB1 hEE
    go_upto_region 7 with fail
    rw [← hw2, HEE.out]
    clear hw2
    go_wp2_with fail
    go_loopw [46] (fun i wr => ∃ k : Nat, k ≤ n ∧ i = .int .i64 k ∧ Hid (Both w D E room wr)) (fun i _ => n - (intOf i).toNat)
    case atStart => exact ⟨0, Nat.zero_le _, rfl, HBO⟩
    case round =>
      obtain ⟨k, hk, rfl, HR⟩ := hrel
      clear HBO
      by_cases hlt : k < n
      · have hltz : (k : Int) < n := by omega
        obtain ⟨g, off, rfl, hcs⟩ := HS.out (by omega)
        obtain ⟨d0, d1, d2, d3, r1, r2, r3⟩ := hcs k hlt
        generalize f k = p at d0 d1 d2 d3 r1 r2 r3
        obtain ⟨kind, file, nm, text⟩ := p
        simp only at d0 d1 d2 d3 r1 r2 r3
        have hb := HR.out.below
        have hg : g < w.heap.size := World.block_lt_of_cell? w _ d0
        have hblk := hb.block g hg
        have x0 := (World.cell?_of_block (a := ⟨g, off + k * 4, none⟩) hblk).trans d0
        have x1 := (World.cell?_of_block (a := ⟨g, off + k * 4 + 1, none⟩) hblk).trans d1
        have x2 := (World.cell?_of_block (a := ⟨g, off + k * 4 + 2, none⟩) hblk).trans d2
        have x3 := (World.cell?_of_block (a := ⟨g, off + k * 4 + 3, none⟩) hblk).trans d3
        obtain ⟨wa, hwa⟩ : ∃ wa, wa = wr.alloc (.cells #[.int .i64 kind, .int .i64 file, .int .i64 nm, .string text] 61) := ⟨_, rfl⟩
        have hba : Below wr.heap.size wr wa := by rw [hwa]; exact (Below.refl _ _).alloc (Nat.le_refl _) _
        have hea : wa.heap[wr.heap.size]? = some (.cells #[.int .i64 kind, .int .i64 file, .int .i64 nm, .string text] 61 (0, 0)) := by rw [hwa]; exact heap_alloc_new wr _
        have hboth : Both w D E room wa := by
          obtain ⟨F, G, A, hP⟩ := HR.out
          exact ⟨F, G, A, hP.next hba⟩
        have HAT := Lib.hid (at_true hboth kind file nm text r1 r2 r3)
        obtain ⟨q0, q1, q2, q3⟩ := fourC hea
        clear d0 d1 d2 d3 r1 r2 r3 hcs hb hg hblk hba hea hboth HR
        go_upto_region 10 with fail
        rw [← hwa]
        clear hwa x0 x1 x2 x3
        go_wp2_with fail
        refine HAT.out.mono ?_
        rintro e w5 ⟨rfl, hb5⟩
        have HF := Lib.hid hb5
        clear hb5 HAT q0 q1 q2 q3
        go_wp2_with fail
        exact ⟨⟨k + 1, by omega, by go_num, HF⟩, by simp [intOf]; omega⟩
      · have hltz : ¬ (k : Int) < n := by omega
        obtain ⟨F, G, A, hP⟩ := HR.out
        have HR1 := Lib.hid (read_any hP.disk num HNU.out)
        have HR2 := Lib.hid (read_drw hP.drawer num)
        have HB := Lib.hid hP.disk.below
        obtain ⟨R, hR⟩ : ∃ R, (readD A num) = R := ⟨_, rfl⟩
        obtain ⟨X, hX⟩ : ∃ X : ByteArray, (⟨R.1.toArray⟩ : ByteArray) = X := ⟨_, rfl⟩
        rw [hR, hX] at HR1 HR2
        clear hP HR hR hX
        go_wp2_with fail
        refine HR1.out.mono ?_
        rintro e w6 ⟨rfl, rfl⟩
        go_wp2_with fail
        refine HR2.out.mono ?_
        rintro e w7 ⟨rfl, hb7⟩
        have HF := Lib.hid (HB.out.trans (hb7.mono HB.out.size))
        clear hb7 HR1 HR2
        go_wp2
        go_ret
        exact ⟨by simp, HF.out⟩

theorem diskPlays_walk (ao : Option Addr) (n cap : Nat) (f : Nat → ActP) (room num : Int) (hnu : -9223372036854775808 ≤ num ∧ num ≤ 9223372036854775807) (hn : n ≤ 9223372036854775807) (hS : ActsAt w ao n f) :
    Calls Try.prog 6 #[.int .i64 room, .slice ao n cap, .int .i64 num] w fun e w' => e = .returned (.bool true) ∧ Below w.heap.size w w' := by
  by_cases h : 1 ≤ room ∧ room ≤ 65536
  · exact plays_good ao n cap f room num h.1 h.2 hnu hn hS
  · exact plays_bad ao n cap room num h
end
end Go.Proofs.Ytglgbidcmkncgaa.Drw
