/- The law IndexPlays, walked: it returns true. -/
import Derived.Test.YtpmffneohcbhbaaDoorPlayRel
import Derived.Test.YtpmffneohcbhbaaDoorShfFind
import Derived.Test.YtpmffneohcbhbaaDoorPlayOpen
import Derived.Deep.RegionHeld3
namespace Go.Proofs.YtpmffneohcbhbaaDoor.Shf
open Go.RowKit Heap Idx
open Subj (Tok ML pieces)

theorem threeC {bx : Nat} {a0 a1 a2 : Value} {t : TypeId} {w : World} (h : w.heap[bx]? = some (.cells #[a0, a1, a2] t (0, 0))) :
    w.cell? ⟨bx, 0, none⟩ = some a0 ∧ w.cell? ⟨bx, 1, none⟩ = some a1 ∧ w.cell? ⟨bx, 2, none⟩ = some a2 := by
  refine ⟨?_, ?_, ?_⟩
  · rw [cell_of_row w bx 0 _ _ _ h]; rfl
  · rw [cell_of_row w bx 1 _ _ _ h]; rfl
  · rw [cell_of_row w bx 2 _ _ _ h]; rfl

theorem touch3 {w w' : World} {bx : Nat} {a0 a1 a2 : Value} {t : TypeId} {F : Nat → Prop} (h : w.heap[bx]? = some (.cells #[a0, a1, a2] t (0, 0))) (ht : Heap.Touch F w w') (hn : ¬ F bx) : w'.heap[bx]? = some (.cells #[a0, a1, a2] t (0, 0)) := (ht.block bx (heap_lt h) hn).trans h

theorem findL_len (L : Ents) (f : List UInt8) : (findL L f).length ≤ L.length := by
  unfold findL
  exact List.length_filter_le _ _

/-- Both found the same. -/
theorem find_row {er : Nat} {L : Ents} {w w' : World} {e : Ending} (h : FindPost er L w e w') : ∃ v, e = .returned (.tuple #[v, .int .i64 er]) ∧ Below w.heap.size w w' ∧ ∃ R : Ents, R = (if er = 0 then L else []) ∧ Row w' 40 2 v R.length (entV R) := by
  obtain ⟨hb, ⟨h1, rfl⟩ | ⟨rfl, v, rfl, h2, _⟩⟩ := h
  · exact ⟨_, rfl, hb, [], by rw [if_neg h1], Row.nil _ _ _⟩
  · exact ⟨v, rfl, hb, L, by rw [if_pos rfl], h2⟩

section
variable {W w : World} {M G : Nat → Prop} {x E N : Nat} {L : Ents}

theorem Both.tail (h : Both W x E N w) : ∃ (n : Nat) (a : Option Addr) (c : Nat), (Hid (∀ q, Calls Tryd.prog 20 #[ptrV x] (w.drewN q) fun e w' => e = .returned (.int .i64 n) ∧ w' = w.drewN q)) ∧ w.cell? ⟨E, 0, none⟩ = some (.slice a n c) ∧ E < w.heap.size := by
  obtain ⟨M, G, L, hJ⟩ := h
  obtain ⟨v, h1, h2, _⟩ := hJ.shelf.mem
  obtain ⟨a, c, rfl⟩ := h2.slice
  refine ⟨L.length, a, c, Lib.hid (fun q => (count_x (hJ.idx.next (below_drewN (Below.refl _ _) q))).mono fun _ _ ⟨a, b⟩ => ⟨a, b.symm⟩), (oneC h1).1, heap_lt h1⟩

set_option maxHeartbeats 4000000 in
set_option maxRecDepth 100000 in
theorem indexPlays_walk (hm : ML w) (ao : Option Addr) (n cap : Nat) (f : Nat → PutP) (hn : n ≤ 9223372036854775807) (hS : PutsAt w ao n f) :
    Calls Tryd.prog 3 #[.slice ao n cap] w fun e w' => e = .returned (.bool true) ∧ Below w.heap.size w w' := by
  by_cases h150 : 150 < n
  · have h150z : (150 : Int) < n := by omega
    clear hm hS
    go_enter Tryd.func3, Tryd.ntmps3
    go_wp2_with fail
    go_ret
    exact ⟨rfl, Below.refl _ _⟩
  have h150z : ¬ (150 : Int) < n := by omega
  have HNW := Lib.hid (new_any w)
  obtain ⟨w1, hw1⟩ : ∃ w1, w1 = w.alloc (.cells #[.string ⟨#[]⟩, .slice none 0 0, .bool false, .int .i64 0, .int .i64 0] 84) := ⟨_, rfl⟩
  have hX := x_new (W := w) (w := w) (Below.refl _ _)
  rw [← hw1] at hX HNW
  obtain ⟨w2, hw2⟩ : ∃ w2, w2 = w1.alloc (.cells #[.slice none 0 0] 28) := ⟨_, rfl⟩
  have hb2 : Below w1.heap.size w1 w2 := by rw [hw2]; exact (Below.refl _ _).alloc (Nat.le_refl _) _
  have hE : w2.heap[w1.heap.size]? = some (.cells #[.slice none 0 0] 28 (0, 0)) := by rw [hw2]; exact heap_alloc_new w1 _
  have hsz1 : w1.heap.size = w.heap.size + 1 := by rw [hw1]; simp
  obtain ⟨x, hx⟩ : ∃ x, w.heap.size = x := ⟨_, rfl⟩
  obtain ⟨E, hEE⟩ : ∃ E, w1.heap.size = E := ⟨_, rfl⟩
  rw [hx] at hX HNW
  rw [hEE] at hE
  have HBO := Lib.hid (show Both w x E 0 w2 from both_new (hX.next hb2) hE (by omega) (by omega))
  have HEE := Lib.hid hEE
  have HS := Lib.hid hS; have HML := Lib.hid hm
  clear hX hb2 hE hsz1 hx hEE hS hm hn hw1
  go_enter Tryd.func3, Tryd.ntmps3
  go_wp2_with fail
  refine HNW.out.mono ?_
  rintro e w' ⟨rfl, rfl⟩
  clear HNW
  go_upto_region 4 with fail
  rw [← hw2, HEE.out]
  clear hw2
  go_wp2_with fail
  go_loopw [24] (fun i wr => ∃ k : Nat, k ≤ n ∧ i = .int .i64 k ∧ Hid (Both w x E (8 * k) wr)) (fun i _ => n - (intOf i).toNat)
  case atStart => exact ⟨0, Nat.zero_le _, rfl, HBO⟩
  case round =>
    obtain ⟨k, hk, rfl, HR⟩ := hrel
    clear HBO
    by_cases hlt : k < n
    · have hltz : (k : Int) < n := by omega
      obtain ⟨g, off, rfl, hcs⟩ := HS.out (by omega)
      obtain ⟨d0, d1, d2, r1⟩ := hcs k hlt
      generalize f k = p at d0 d1 d2 r1
      obtain ⟨kind, text, num⟩ := p
      simp only at d0 d1 d2 r1
      have hb := HR.out.below
      have hg : g < w.heap.size := World.block_lt_of_cell? w _ d0
      have hblk := hb.block g hg
      have x0 := (World.cell?_of_block (a := ⟨g, off + k * 3, none⟩) hblk).trans d0
      have x1 := (World.cell?_of_block (a := ⟨g, off + k * 3 + 1, none⟩) hblk).trans d1
      have x2 := (World.cell?_of_block (a := ⟨g, off + k * 3 + 2, none⟩) hblk).trans d2
      obtain ⟨wa, hwa⟩ : ∃ wa, wa = wr.alloc (.cells #[.int .i64 kind, .string text, .int .i64 num] 30) := ⟨_, rfl⟩
      have hba : Below wr.heap.size wr wa := by rw [hwa]; exact (Below.refl _ _).alloc (Nat.le_refl _) _
      have hea : wa.heap[wr.heap.size]? = some (.cells #[.int .i64 kind, .string text, .int .i64 num] 30 (0, 0)) := by rw [hwa]; exact heap_alloc_new wr _
      obtain ⟨M, G, L, hJ0⟩ := HR.out
      have hnM : ¬ M wr.heap.size := fun h => by have := hJ0.idx.bM h; omega
      have hnG : ¬ G wr.heap.size := fun h => by have := hJ0.shelf.bG _ h; omega
      have HJ := Lib.hid (hJ0.next hba); have HJD := Lib.hid ((hJ0.next hba).next (Below.refl _ _).drew)
      have HNM := Lib.hid hnM; have HNG := Lib.hid hnG
      obtain ⟨bx, hbx⟩ : ∃ bx, wr.heap.size = bx := ⟨_, rfl⟩
      have HBX := Lib.hid hbx
      rw [hbx] at hea HNM HNG
      have HEA := Lib.hid hea
      have hbxl : bx < wa.heap.size := heap_lt hea
      have hN8 : 8 * k ≤ 90000 := by omega
      obtain ⟨q0, q1, q2⟩ := threeC hea
      clear d0 d1 d2 hcs hb hg hblk hba hea hJ0 hnM hnG hbx HR
      go_upto_region 7 with fail
      rw [← hwa, HBX.out]
      clear hwa x0 x1 x2
      by_cases k0 : kind = 0
      · subst k0
        have HX := Lib.hid (put_x HJD.out.idx hN8 HML.out text r1 num)
        have HY := Lib.hid (fun w3 (h : ShelfAt w G E L w3) => put_shf h text num r1)
        generalize putL (Subj.err false text.data.toList) L text.data.toList num = R at HX HY
        go_upto_region 10 with fail
        go_region_held3 (fun w' => w'.cell? ⟨bx, 1, none⟩ = some (.string text) ∧ w'.cell? ⟨bx, 2, none⟩ = some (.int .i64 num)) (first | (with_reducible exact ⟨k1, k2⟩) | (with_reducible exact ⟨q1, q2⟩) | go_keep)
          (first
            | (go_at_call 11; ((with_reducible refine HX.out.mono ?_); rintro e w3 ⟨rfl, hn⟩; have hs3 := HJD.out.mid hn; have hbx3 := touch3 (w := wa.drew) HEA.out hn.2 HNM.out; obtain ⟨k0, k1, k2⟩ := threeC hbx3; have HN3 := Lib.hid hn; have HS3 := Lib.hid hs3; clear hn hs3 hbx3))
            | (go_at_call 12; ((with_reducible refine (HY.out _ HS3.out).mono ?_); rintro e w9 ⟨rfl, hn9⟩; have hbo9 := HJD.out.done HN3.out hn9; have HB9 := Lib.hid (hbo9.mono (show _ ≤ 8 * (k + 1) by omega)); have hbx9 := touch3 (touch3 (w := wa.drew) HEA.out HN3.out.2 HNM.out) hn9.2 HNG.out; obtain ⟨k0, k1, k2⟩ := threeC hbx9; clear hn9 hbo9 hbx9)))
        clear HX HY HN3 HS3
        obtain ⟨cn, ca, cc, HC1, c0, hEl⟩ := HB9.out.tail
        have HF := Lib.hid (fun q => HB9.out.next (below_drewN (Below.refl _ _) q))
        clear HB9
        go_wp2_with fail
        go_quiet ((go_at_call 20; exact Calls.quiet_of_same (HC1.out _)))
        clear HC1 c0 hEl
        go_wp2_with fail
        exact ⟨⟨k + 1, by omega, by go_num, Lib.hid (HF.out _)⟩, by simp [intOf]; omega⟩
      by_cases k1 : kind = 1
      · subst k1
        have HX := Lib.hid (drop_x HJD.out.idx hN8 HML.out text r1)
        have HY := Lib.hid (fun w3 (h : ShelfAt w G E L w3) => drop_shf h text r1)
        generalize dropL (Subj.err false text.data.toList) L text.data.toList = R at HX HY
        go_upto_region 12 with fail
        go_region_held3 (fun w' => w'.cell? ⟨bx, 1, none⟩ = some (.string text) ∧ w'.cell? ⟨bx, 2, none⟩ = some (.int .i64 num)) (first | (with_reducible exact ⟨k1, k2⟩) | (with_reducible exact ⟨q1, q2⟩) | go_keep)
          (first
            | (go_at_call 13; ((with_reducible refine HX.out.mono ?_); rintro e w3 ⟨rfl, hn⟩; have hs3 := HJD.out.mid hn; have hbx3 := touch3 (w := wa.drew) HEA.out hn.2 HNM.out; obtain ⟨k0, k1, k2⟩ := threeC hbx3; have HN3 := Lib.hid hn; have HS3 := Lib.hid hs3; clear hn hs3 hbx3))
            | (go_at_call 14; ((with_reducible refine (HY.out _ HS3.out).mono ?_); rintro e w9 ⟨rfl, hn9⟩; have hbo9 := HJD.out.done HN3.out hn9; have HB9 := Lib.hid (hbo9.mono (show _ ≤ 8 * (k + 1) by omega)); have hbx9 := touch3 (touch3 (w := wa.drew) HEA.out HN3.out.2 HNM.out) hn9.2 HNG.out; obtain ⟨k0, k1, k2⟩ := threeC hbx9; clear hn9 hbo9 hbx9)))
        clear HX HY HN3 HS3
        obtain ⟨cn, ca, cc, HC1, c0, hEl⟩ := HB9.out.tail
        have HF := Lib.hid (fun q => HB9.out.next (below_drewN (Below.refl _ _) q))
        clear HB9
        go_wp2_with fail
        go_quiet ((go_at_call 20; exact Calls.quiet_of_same (HC1.out _)))
        clear HC1 c0 hEl
        go_wp2_with fail
        exact ⟨⟨k + 1, by omega, by go_num, Lib.hid (HF.out _)⟩, by simp [intOf]; omega⟩
      by_cases k2 : kind = 2
      · subst k2
        have HX := Lib.hid (get_x HJ.out.idx hN8 HML.out text r1)
        have HY := Lib.hid (fun w3 (h : ShelfAt w G E L w3) => get_shf h text r1)
        generalize getL (Subj.err false text.data.toList) L text.data.toList = R at HX HY
        go_upto_region 14 with fail
        go_wp2_with fail
        refine HX.out.mono ?_
        rintro e w3 ⟨rfl, hb3⟩
        have HB3 := Lib.hid hb3
        have hbx3 := (hb3.block bx hbxl).trans HEA.out
        obtain ⟨y0, y1, y2⟩ := threeC hbx3
        clear hb3 hbx3 HX q0 q1 q2
        go_wp2_with fail
        refine (HY.out _ (HJ.out.shelf.next HB3.out)).mono ?_
        rintro e w9 ⟨rfl, hb9⟩
        have HB9 := Lib.hid (((HJ.out.next HB3.out).next hb9).both.mono (show 8 * k ≤ 8 * (k + 1) by omega))
        clear hb9 HY HB3 y0 y1 y2
        obtain ⟨cn, ca, cc, HC1, c0, hEl⟩ := HB9.out.tail
        have HF := Lib.hid (fun q => HB9.out.next (below_drewN (Below.refl _ _) q))
        clear HB9
        go_wp2_with fail
        go_quiet ((go_at_call 20; exact Calls.quiet_of_same (HC1.out _)))
        clear HC1 c0 hEl
        go_wp2_with fail
        exact ⟨⟨k + 1, by omega, by go_num, Lib.hid (HF.out _)⟩, by simp [intOf]; omega⟩
      by_cases k3 : kind = 3
      · subst k3
        have HX := Lib.hid (find_x HJ.out.idx hN8 HML.out text r1)
        have HY := Lib.hid (fun w3 (h : ShelfAt w G E L w3) => find_shf h text r1)
        generalize Subj.err true text.data.toList = er at HX HY
        generalize hFL : findL L text.data.toList = FL at HX HY
        have hfl : FL.length ≤ 100 := by
          have h5 := findL_len L text.data.toList
          have h6 := HJ.out.idx.few
          rw [← hFL]; omega
        clear hFL
        go_upto_region 18 with fail
        go_wp2_with fail
        refine HX.out.mono ?_
        intro e w3 hp3
        obtain ⟨v3, rfl, hb3, R3, hR3, hr3⟩ := find_row hp3
        have HB3 := Lib.hid hb3; have HR3 := Lib.hid hr3
        have hbx3 := (hb3.block bx hbxl).trans HEA.out
        obtain ⟨y0, y1, y2⟩ := threeC hbx3
        clear hb3 hbx3 hr3 hp3 HX q0 q1 q2
        go_wp2_with fail
        refine (HY.out _ (HJ.out.shelf.next HB3.out)).mono ?_
        intro e w4 hp4
        obtain ⟨v4, rfl, hb4, R4, hR4, hr4⟩ := find_row hp4
        obtain rfl : R4 = R3 := hR4.trans hR3.symm
        have HB9 := Lib.hid (((HJ.out.next HB3.out).next hb4).both.mono (show 8 * k ≤ 8 * (k + 1) by omega))
        have hlen4 : R4.length ≤ 100000 := by
          rw [hR4]
          split
          · omega
          · simp
        have HEQ := Lib.hid (equal_ents (HR3.out.kept fun j _ hj => hb4.block j hj) hr4 hlen4)
        clear hlen4 hb4 hr4 hp4 HY HB3 HR3 y0 y1 y2 hR3 hR4
        go_wp2_with fail
        refine HEQ.out.mono ?_
        rintro e w9 ⟨rfl, q, rfl⟩
        have HB9 := Lib.hid (HB9.out.next (below_drewN (Below.refl _ _) q))
        clear HEQ
        obtain ⟨w9, hw9⟩ : ∃ w9, w9 = w4.drewN q := ⟨_, rfl⟩
        rw [← hw9] at HB9 ⊢
        clear hw9
        obtain ⟨cn, ca, cc, HC1, c0, hEl⟩ := HB9.out.tail
        have HF := Lib.hid (fun q => HB9.out.next (below_drewN (Below.refl _ _) q))
        clear HB9
        go_wp2_with fail
        go_quiet ((go_at_call 20; exact Calls.quiet_of_same (HC1.out _)))
        clear HC1 c0 hEl
        go_wp2_with fail
        exact ⟨⟨k + 1, by omega, by go_num, Lib.hid (HF.out _)⟩, by simp [intOf]; omega⟩
      have HB9 := Lib.hid (HJ.out.both.mono (show 8 * k ≤ 8 * (k + 1) by omega))
      obtain ⟨cn, ca, cc, HC1, c0, hEl⟩ := HB9.out.tail
      have HF := Lib.hid (fun q => HB9.out.next (below_drewN (Below.refl _ _) q))
      clear HB9
      go_wp2_with fail
      go_quiet ((go_at_call 20; exact Calls.quiet_of_same (HC1.out _)))
      clear HC1 c0 hEl
      go_wp2_with fail
      exact ⟨⟨k + 1, by omega, by go_num, Lib.hid (HF.out _)⟩, by simp [intOf]; omega⟩
    · have hltz : ¬ (k : Int) < n := by omega
      have HF := Lib.hid HR.out.below
      clear HR
      go_wp2_with fail
      go_ret
      exact ⟨rfl, HF.out⟩
end
end Go.Proofs.YtpmffneohcbhbaaDoor.Shf
