/- Parts of the proof, joined: The law VaultCompacts, walked: it returns true. -/
import Derived.Test.YtidacfhdhdnidaaGreatDoorVaultSureUptoM39
namespace Go.Proofs.YtidacfhdhdnidaaGreatDoor.Vlt
open Go.RowKit Heap Dsk Log
open Subj (ML)
open Rec (Rc recErr)
open Sto (StoreAt runS RecsAt Fits parts sixC recV recsV fourS all_any sums_any sumsV Copied noteR note_any fits_note row_recs equal_recs Right)

section
variable {W w w1 : World} {F : Nat → Prop} {V D G S B N N' : Nat} {room size : Int} {s s' : Vt}

/-- A call that leaves the messages leaves what is kept aside. -/
theorem Aside.call {v : Value} {bx : Nat} {a b c d : Int} {w2 : World} (h : Aside w F V D G S N B room size s v bx a b c d w1) (hn : NextVA w F V D G S B room size w1 s' w2) (hw : Whole N' s') (hL : s'.L = s.L) (hl : s'.last = s.last) :
    ∃ F', Aside w F' V D G S N' B room size s' v bx a b c d w2 := by
  obtain ⟨⟨F', h1, h2⟩, h3⟩ := hn
  refine ⟨F', h1, hw, fun k hk e => ?_, fun e => ?_, by rw [hL]; exact h.row.kept fun k hk hlt => h3.block k hlt (h.vF k hk), (h3.block bx (heap_lt h.box) h.bF).trans h.box, by rw [hL, hl]; exact h.sums⟩
  · rcases h2 k e with e | e
    · exact h.vF k hk e
    · have := h.row.lt k hk; omega
  · rcases h2 bx e with e | e
    · exact h.bF e
    · have := heap_lt h.box; omega

set_option maxHeartbeats 8000000 in
set_option maxRecDepth 100000 in
theorem vaultCompacts_walk (hm : ML w) {v : Value} {l : List Rc} (hl : RecsAt w v l) (hf : ∀ r ∈ l, Fits r) (room size : Int) :
    Calls Tryz.prog 6 #[.int .i64 room, .int .i64 size, v] w fun e w' => e = .returned (.bool true) ∧ Below w.heap.size w w' := by
  obtain ⟨n, hnL⟩ : ∃ n, l.length = n := ⟨_, rfl⟩
  have HN := Lib.hid hnL
  obtain ⟨ao, cap, rfl, ha⟩ := hl
  have HL := Lib.hid (show RecsAt w (.slice ao l.length cap) l from ⟨ao, cap, rfl, ha⟩); have HF := Lib.hid hf; have HML := Lib.hid hm
  rw [hnL] at HL ⊢
  have HNW := Lib.hid (new_vlt (W := w) (w := w) (Below.refl _ _) hm 100 100 (by omega) (by omega) (by omega))
  clear ha hf hm hnL
  go_enter Tryz.func6, Tryz.ntmps6
  go_wp2_with fail
  refine HNW.out.mono ?_
  rintro e w1 ⟨F, V, D, G, S, rfl, h1, _, _⟩
  have H1 := Lib.hid h1
  clear h1 HNW
  have hc1 := compact_any H1.out HML.out
  rw [show compV 100 100 ⟨[], [], 0⟩ = (u1, 0) from Prod.ext rfl ex_c1] at hc1
  have HC1 := Lib.hid hc1
  clear hc1 H1
  go_wp2_with fail
  refine HC1.out.mono ?_
  rintro e w1a ⟨rfl, ⟨Fa, ha, _⟩, _⟩
  have HA := Lib.hid ha
  clear ha HC1
  go_wp2_with fail
  refine (note_any 1).mono ?_
  rintro e w2 ⟨rfl, hb2⟩
  have hdo := do_any (HA.out.low hb2) (by omega) HML.out (noteR 1) (fits_note 1)
  rw [show doV 100 100 u1 (noteR 1) = (u2, 0) from Prod.ext rfl ex_c2] at hdo
  have HDO := Lib.hid hdo
  clear hb2 hdo HA
  unfold recV at HDO
  unfold recV
  go_wp2_with fail
  refine HDO.out.mono ?_
  rintro e w2a ⟨rfl, ⟨F3, h3, _⟩, _⟩
  have hc3 := compact_any h3 HML.out
  rw [show compV 100 100 u2 = (u3, 0) from Prod.ext rfl ex_c3] at hc3
  have HC3 := Lib.hid hc3
  clear hc3 h3 HDO
  go_wp2_with fail
  refine HC3.out.mono ?_
  rintro e w3 ⟨rfl, ⟨F3, h3, _⟩, _⟩
  have hus := used_vlt h3
  rw [ex_c4] at hus
  have HUS := Lib.hid hus; have H3 := Lib.hid h3.below
  clear hus h3 HC3
  go_wp2_with fail
  refine HUS.out.mono ?_
  rintro e w' ⟨rfl, rfl⟩
  clear HUS
  go_wp2_with fail
  by_cases hok : (1 ≤ room ∧ room ≤ 65536) ∧ 1 ≤ size ∧ size ≤ 4096
  · have HNW := Lib.hid (new_vlt (W := w) H3.out HML.out room size hok.1.1 hok.1.2 hok.2)
    clear hok
    refine HNW.out.mono ?_
    rintro e w4 ⟨F, V, D, G, S, rfl, h4, _, _⟩
    by_cases h100 : 100 < n
    · have h100z : (100 : Int) < n := by omega
      have HB := Lib.hid h4.below
      clear h4 HNW H3
      go_wp2_with fail
      go_ret
      exact ⟨rfl, HB.out⟩
    · have h100z : ¬ (100 : Int) < n := by omega
      have h0 := Lib.hid (show ∃ s, Vw w V 0 (16 * 0) room size s w4 from ⟨_, F, D, G, S, h4, Whole.new⟩)
      clear h4 HNW H3
      go_wp2_with fail
      go_loopw [59] (fun i wr => ∃ k : Nat, k ≤ n ∧ i = .int .i64 k ∧ Hid (∃ s, Vw w V k (16 * k) room size s wr)) (fun i _ => n - (intOf i).toNat)
      case atStart => exact ⟨0, Nat.zero_le _, rfl, h0⟩
      case round =>
        obtain ⟨k, hk, rfl, HR⟩ := hrel
        clear h0
        by_cases hlt : k < n
        · have hltz : (k : Int) < n := by omega
          obtain ⟨s, F, D, G, S, hV, hW⟩ := HR.out
          obtain ⟨p, hp⟩ : ∃ p, l[k]? = some p := ⟨_, List.getElem?_eq_getElem (by rw [HN.out]; exact hlt)⟩
          have hlr := HL.out.below hV.below (Nat.le_refl _)
          obtain ⟨ao', cap', hv, ha⟩ := hlr
          rw [HN.out] at hv
          simp only [Value.slice.injEq, true_and] at hv
          obtain ⟨rfl, rfl⟩ := hv
          obtain ⟨g, off, rfl, hcs⟩ := ha (fun e => by rw [e] at hp; simp at hp)
          obtain ⟨m0, m1, m2, m3, m4, m5⟩ := hcs k p hp
          have hfp := HF.out p (List.mem_of_getElem? hp)
          have hrv : recV p = .agg #[.int .i64 p.kind, .int .i64 p.seq, .int .i64 p.time, .string ⟨p.subj.toArray⟩, .string ⟨p.head.toArray⟩, .string ⟨p.data.toArray⟩] := rfl
          obtain ⟨sb, hd, d, hpp⟩ := parts p
          rw [hpp.s1, hpp.h1, hpp.d1] at hrv
          rw [hpp.s1] at m3
          rw [hpp.h1] at m4
          rw [hpp.d1] at m5
          obtain ⟨wa, hwa⟩ : ∃ wa, wa = wr.alloc (.cells #[.int .i64 p.kind, .int .i64 p.seq, .int .i64 p.time, .string sb, .string hd, .string d] 33) := ⟨_, rfl⟩
          have hba : Below wr.heap.size wr wa := by rw [hwa]; exact (Below.refl _ _).alloc (Nat.le_refl _) _
          have hea : wa.heap[wr.heap.size]? = some (.cells #[.int .i64 p.kind, .int .i64 p.seq, .int .i64 p.time, .string sb, .string hd, .string d] 33 (0, 0)) := by rw [hwa]; exact heap_alloc_new wr _
          obtain ⟨bx, hbx⟩ : ∃ bx, wr.heap.size = bx := ⟨_, rfl⟩
          rw [hbx] at hea
          obtain ⟨q0, q1, q2, q3, q4, q5⟩ := sixC hea
          have hdo := do_any (hV.low hba) (by omega) HML.out p hfp
          rw [hrv] at hdo
          have HDO := Lib.hid hdo; have HBX := Lib.hid hbx; have HW := Lib.hid (hW.do_ (room := room) (size := size) (r := p) hV.sorted)
          clear hp ha hcs hfp hrv hpp hea hbx hdo hV hW hba HR
          go_upto_region 10 with fail
          rw [← hwa, HBX.out]
          clear hwa m0 m1 m2 m3 m4 m5
          go_wp2_with fail
          refine HDO.out.mono ?_
          rintro e w5 ⟨rfl, ⟨F5, h5, _⟩, _⟩
          have HX := Lib.hid (show ∃ s, Vw w V (k + 1) (16 * (k + 1)) room size s w5 from ⟨_, F5, D, G, S, h5.more (by omega), HW.out⟩)
          clear h5 HDO HW q0 q1 q2 q3 q4 q5
          go_wp2_with fail
          exact ⟨⟨k + 1, by omega, by go_num, HX⟩, by simp [intOf]; omega⟩
        · have hltz : ¬ (k : Int) < n := by omega
          obtain rfl : k = n := by omega
          obtain ⟨s, hV⟩ := HR.out
          obtain ⟨F, D, G, S, hV, hW⟩ := hV
          clear HR
          have hW := hW.mono (show k ≤ 201 by omega)
          have hV := hV.more (show 16 * k ≤ 60000 by omega)
          have H6 := Lib.hid (And.intro hV hW)
          obtain ⟨I, hR⟩ := hV.right
          have HCW := Lib.hid (hW.comp (room := room) (size := size) hR)
          clear hV hW hR
          go_wp2_with fail
          refine (store_vlt H6.out.1).mono ?_
          rintro e w' ⟨rfl, rfl⟩
          go_wp2_with fail
          refine (all_vlt H6.out.1).mono ?_
          rintro e w6 ⟨v6, rfl, hr6, hb6, ho6⟩
          have H7 := Lib.hid (H6.out.1.low hb6)
          have HR6 := Lib.hid (And.intro hr6 ho6)
          have HB6 := Lib.hid hb6
          clear hr6 hb6 ho6
          go_wp2_with fail
          refine (store_vlt H7.out).mono ?_
          rintro e w' ⟨rfl, rfl⟩
          go_wp2_with fail
          have hsu := sums_vlt H7.out
          obtain ⟨a1, a2, a3, a4, hsf⟩ := sums_form s.L s.last
          rw [hsf] at hsu
          have HSF := Lib.hid hsf
          refine hsu.mono ?_
          clear hsu hsf
          rintro e w7 ⟨rfl, hb7⟩
          have H8 := Lib.hid (H7.out.low hb7)
          have HB7 := Lib.hid hb7
          clear hb7
          obtain ⟨us, hus⟩ : ∃ us, total s.A = us := ⟨_, rfl⟩
          have HUS := Lib.hid hus
          clear hus
          go_wp2_with fail
          refine (used_vlt H8.out).mono ?_
          rintro e w' ⟨rfl, rfl⟩
          rw [HUS.out]
          obtain ⟨w8, hw8⟩ : ∃ w8, w8 = w7.alloc (.cells #[.int .i64 a1, .int .i64 a2, .int .i64 a3, .int .i64 a4] 115) := ⟨_, rfl⟩
          have h0 := Lib.hid (show ∃ F G S, Aside w F V D G S 201 60000 room size s v6 w7.heap.size a1 a2 a3 a4 w8 from by
            have hb8 : Below w7.heap.size w7 w8 := by rw [hw8]; exact (Below.refl _ _).alloc (Nat.le_refl _) _
            have hb68 := HB7.out.trans (hb8.mono HB7.out.size)
            refine ⟨F, G, S, H8.out.low hb8, H6.out.2, fun k hk e => ?_, fun e => ?_, HR6.out.1.kept fun k _ hk => hb68.block k hk, by rw [hw8]; exact heap_alloc_new w7 _, HSF.out⟩
            · have h1 := HR6.out.2 k hk
              have h2 := H6.out.1.bF k e
              omega
            · have h1 := H6.out.1.bF _ e
              have := HB6.out.size; have := HB7.out.size
              omega)
          obtain ⟨bx, hbx⟩ : ∃ bx, w7.heap.size = bx := ⟨_, rfl⟩
          rw [hbx] at h0
          have HBX := Lib.hid hbx
          clear hbx H6 H7 H8 HR6 HB6 HB7
          obtain ⟨F9, G9, S9, h9⟩ := h0.out
          have H9 := Lib.hid h9
          have HC1 := Lib.hid (compact_any h9.vlt HML.out)
          obtain ⟨er, her⟩ : ∃ er, (compV room size s).2 = er := ⟨_, rfl⟩
          have HER := Lib.hid her
          clear h0 h9 her
          go_upto_region 13 with fail
          rw [← hw8, HBX.out]
          clear hw8
          go_wp2_with fail
          refine HC1.out.mono ?_
          rintro e w10 ⟨rfl, hn10⟩
          rw [HER.out]
          by_cases ec : er = 0
          · subst ec
            obtain ⟨F10, h10⟩ := H9.out.call hn10 HCW.out rfl rfl
            generalize (compV room size s).1 = s2 at *
            obtain ⟨I, hR⟩ := h10.vlt.right
            have HC2 := Lib.hid (compact_any h10.vlt HML.out)
            have HCW2 := Lib.hid (h10.whole.comp (room := room) (size := size) hR)
            have H10 := Lib.hid h10
            clear h10 hR hn10 HC1 H9
            go_wp2_with fail
            refine HC2.out.mono ?_
            rintro e w9 ⟨rfl, hn11⟩
            have h11 := H10.out.call hn11 HCW2.out rfl rfl
            generalize (compV room size s2).2 = er2 at *
            generalize (compV room size s2).1 = s3 at *
            obtain ⟨us3, hus3⟩ : ∃ us3, total s3.A = us3 := ⟨_, rfl⟩
            have hfit : (us3 : Int) ≤ room := by
              obtain ⟨F11, h11⟩ := h11
              have := h11.vlt.fits
              rw [hus3] at this; exact this
            have HA3 := Lib.hid h11; have HU9 := Lib.hid hus3
            clear hn11 h11 hus3 HC2 H10
            go_wp2_with fail
            obtain ⟨F9, h9⟩ := HA3.out
            have HV9 := Lib.hid (show ∀ w', Below w9.heap.size w9 w' → VAt w F9 V D G9 S9 60000 room size s3 w' from fun w' hb => h9.vlt.low hb)
            have HR9 := Lib.hid (show ∀ w', Below w9.heap.size w9 w' → Row w' 33 6 v6 s3.L.length (recsV s3.L) from fun w' hb => (h9.next hb).row)
            have HB9 := Lib.hid (show ∀ w', Below w9.heap.size w9 w' → w'.cell? ⟨bx, 0, none⟩ = some (.int .i64 a1) ∧ w'.cell? ⟨bx, 1, none⟩ = some (.int .i64 a2) ∧ w'.cell? ⟨bx, 2, none⟩ = some (.int .i64 a3) ∧ w'.cell? ⟨bx, 3, none⟩ = some (.int .i64 a4) from fun w' hb => by
              obtain ⟨c0, c1, c2, c3, _⟩ := fourS (h9.next hb).box
              exact ⟨c0, c1, c2, c3⟩)
            have HL9 := Lib.hid (show s3.L.length ≤ 100000 from by
              obtain ⟨I, hR⟩ := h9.vlt.right
              have := hR.few
              omega)
            have HSF9 := Lib.hid h9.sums
            have HFI := Lib.hid h9.vlt.below
            have hbd : Below w9.heap.size w9 w9.drew := (Below.refl _ _).drew
            clear h9 HA3
            refine wp_region_held_drew (S := (fun w' => w'.cell? ⟨bx, 0, none⟩ = some (.int .i64 a1) ∧ w'.cell? ⟨bx, 1, none⟩ = some (.int .i64 a2) ∧ w'.cell? ⟨bx, 2, none⟩ = some (.int .i64 a3) ∧ w'.cell? ⟨bx, 3, none⟩ = some (.int .i64 a4))) (by kernel_rfl) (HB9.out _ hbd) (fun hHeld => ?_)
            refine wpAnyH_take (i := 0) (v := ?_) rfl (by kernel_rfl) (by kernel_rfl) (by kernel_rfl) (fun _ _ _ h => h) (Or.inl ⟨by rfl, ?_⟩) (by assumption) ?_
            rotate_left
            · intro w hSw; (try dsimp only at hSw); first | (go_simp; done) | (go_simp; with_reducible rfl)
            (try simp only [Act.put, List.getElem_toArray, List.getElem_cons_succ, List.getElem_cons_zero, List.setIfInBounds_toArray, List.set_cons_zero, List.set_cons_succ])
            refine wpAnyH_take (i := 3) (v := ?_) rfl (by kernel_rfl) (by kernel_rfl) (by kernel_rfl) (fun _ _ _ h => h) (Or.inl ⟨by rfl, ?_⟩) (by assumption) ?_
            rotate_left
            · intro w hSw; (try dsimp only at hSw); first | (go_simp; done) | (go_simp; with_reducible rfl)
            (try simp only [Act.put, List.getElem_toArray, List.getElem_cons_succ, List.getElem_cons_zero, List.setIfInBounds_toArray, List.set_cons_zero, List.set_cons_succ])
            refine wpAnyH_ready (rs := [1]) (by kernel_rfl) (by simp) ?_
            refine AllReadyH.cons rfl (fun K hK => ?_) AllReadyH.nil
            go_simp
            refine (store_vlt (HV9.out _ hbd)).mono ?_
            rintro e w' ⟨rfl, rfl⟩
            clear hHeld
            go_wp2_with fail
            refine hK.out _ _ (HB9.out _ hbd) (fun hHeld => ?_)
            clear hK K
            (try simp only [Act.put, List.getElem_toArray, List.getElem_cons_succ, List.getElem_cons_zero, List.setIfInBounds_toArray, List.set_cons_zero, List.set_cons_succ])
            refine wpAnyH_ready (rs := [2]) (by kernel_rfl) (by simp) ?_
            refine AllReadyH.cons rfl (fun K hK => ?_) AllReadyH.nil
            go_simp
            refine (all_vlt (HV9.out _ hbd)).mono ?_
            rintro e wA ⟨vA, rfl, hrA, hbA, hoA⟩
            have hbA2 := low_to (w0 := w9) hbd hbA
            clear hbA hoA
            clear hHeld
            go_wp2_with fail
            refine hK.out _ _ (HB9.out _ hbA2) (fun hHeld => ?_)
            clear hK K
            (try simp only [Act.put, List.getElem_toArray, List.getElem_cons_succ, List.getElem_cons_zero, List.setIfInBounds_toArray, List.set_cons_zero, List.set_cons_succ])
            refine wpAnyH_ready (rs := [4]) (by kernel_rfl) (by simp) ?_
            refine AllReadyH.cons rfl (fun K hK => ?_) AllReadyH.nil
            go_simp
            refine (equal_recs (row_recs hrA) (row_recs (HR9.out _ hbA2)) HL9.out).mono ?_
            rintro e wE ⟨rfl, q, rfl⟩
            have hbE := below_drewN hbA2 q
            clear hHeld
            go_wp2_with fail
            refine hK.out _ _ (HB9.out _ hbE) (fun hHeld => ?_)
            clear hK K
            (try simp only [Act.put, List.getElem_toArray, List.getElem_cons_succ, List.getElem_cons_zero, List.setIfInBounds_toArray, List.set_cons_zero, List.set_cons_succ])
            refine wpAnyH_take (i := 5) (v := ?_) rfl (by kernel_rfl) (by kernel_rfl) (by kernel_rfl) (fun _ _ _ h => h) (Or.inl ⟨by rfl, ?_⟩) (by assumption) ?_
            rotate_left
            · intro w hSw; (try dsimp only at hSw); first | (go_simp; done) | (go_simp; with_reducible rfl)
            (try simp only [Act.put, List.getElem_toArray, List.getElem_cons_succ, List.getElem_cons_zero, List.setIfInBounds_toArray, List.set_cons_zero, List.set_cons_succ])
            refine wpAnyH_take (i := 6) (v := ?_) rfl (by kernel_rfl) (by kernel_rfl) (by kernel_rfl) (fun _ _ _ h => h) (Or.inl ⟨by rfl, ?_⟩) (by assumption) ?_
            rotate_left
            · intro w hSw; (try dsimp only at hSw); first | (go_simp; done) | (go_simp; with_reducible rfl)
            (try simp only [Act.put, List.getElem_toArray, List.getElem_cons_succ, List.getElem_cons_zero, List.setIfInBounds_toArray, List.set_cons_zero, List.set_cons_succ])
            refine wpAnyH_take (i := 9) (v := ?_) rfl (by kernel_rfl) (by kernel_rfl) (by kernel_rfl) (fun _ _ _ h => h) (Or.inl ⟨by rfl, ?_⟩) (by assumption) ?_
            rotate_left
            · intro w hSw; (try dsimp only at hSw); first | (go_simp; done) | (go_simp; with_reducible rfl)
            (try simp only [Act.put, List.getElem_toArray, List.getElem_cons_succ, List.getElem_cons_zero, List.setIfInBounds_toArray, List.set_cons_zero, List.set_cons_succ])
            refine wpAnyH_ready (rs := [7]) (by kernel_rfl) (by simp) ?_
            refine AllReadyH.cons rfl (fun K hK => ?_) AllReadyH.nil
            go_simp
            refine (store_vlt (HV9.out _ hbE)).mono ?_
            rintro e w' ⟨rfl, rfl⟩
            clear hHeld
            go_wp2_with fail
            refine hK.out _ _ (HB9.out _ hbE) (fun hHeld => ?_)
            clear hK K
            (try simp only [Act.put, List.getElem_toArray, List.getElem_cons_succ, List.getElem_cons_zero, List.setIfInBounds_toArray, List.set_cons_zero, List.set_cons_succ])
            refine wpAnyH_ready (rs := [8]) (by kernel_rfl) (by simp) ?_
            refine AllReadyH.cons rfl (fun K hK => ?_) AllReadyH.nil
            go_simp
            have hsu := sums_vlt (HV9.out _ hbE)
            rw [HSF9.out] at hsu
            refine hsu.mono ?_
            clear hsu
            rintro e wS ⟨rfl, hbS⟩
            have hbS2 := low_to (w0 := w9) hbE hbS
            clear hbS
            clear hHeld
            go_wp2_with fail
            refine hK.out _ _ (HB9.out _ hbS2) (fun hHeld => ?_)
            clear hK K
            (try simp only [Act.put, List.getElem_toArray, List.getElem_cons_succ, List.getElem_cons_zero, List.setIfInBounds_toArray, List.set_cons_zero, List.set_cons_succ])
            refine wpAnyH_take (i := 10) (v := ?_) rfl (by kernel_rfl) (by kernel_rfl) (by kernel_rfl) (fun _ _ _ h => h) (Or.inl ⟨by rfl, ?_⟩) (by assumption) ?_
            rotate_left
            · intro w hSw; (try dsimp only at hSw); first | (go_simp; done) | (go_simp; with_reducible rfl)
            (try simp only [Act.put, List.getElem_toArray, List.getElem_cons_succ, List.getElem_cons_zero, List.setIfInBounds_toArray, List.set_cons_zero, List.set_cons_succ])
            refine wpAnyH_take (i := 11) (v := ?_) rfl (by kernel_rfl) (by kernel_rfl) (by kernel_rfl) (fun _ _ _ h => h) (Or.inl ⟨by rfl, ?_⟩) (by assumption) ?_
            rotate_left
            · intro w hSw; (try dsimp only at hSw); first | (go_simp; done) | (go_simp; with_reducible rfl)
            (try simp only [Act.put, List.getElem_toArray, List.getElem_cons_succ, List.getElem_cons_zero, List.setIfInBounds_toArray, List.set_cons_zero, List.set_cons_succ])
            refine wpAnyH_take (i := 12) (v := ?_) rfl (by kernel_rfl) (by kernel_rfl) (by kernel_rfl) (fun _ _ _ h => h) (Or.inl ⟨by rfl, ?_⟩) (by assumption) ?_
            rotate_left
            · intro w hSw; (try dsimp only at hSw); first | (go_simp; done) | (go_simp; with_reducible rfl)
            (try simp only [Act.put, List.getElem_toArray, List.getElem_cons_succ, List.getElem_cons_zero, List.setIfInBounds_toArray, List.set_cons_zero, List.set_cons_succ])
            refine wpAnyH_take (i := 13) (v := ?_) rfl (by kernel_rfl) (by kernel_rfl) (by kernel_rfl) (fun _ _ _ h => h) (Or.inl ⟨by rfl, ?_⟩) (by assumption) ?_
            rotate_left
            · intro w hSw; (try dsimp only at hSw); first | (go_simp; done) | (go_simp; with_reducible rfl)
            (try simp only [Act.put, List.getElem_toArray, List.getElem_cons_succ, List.getElem_cons_zero, List.setIfInBounds_toArray, List.set_cons_zero, List.set_cons_succ])
            refine wpAnyH_take (i := 14) (v := ?_) rfl (by kernel_rfl) (by kernel_rfl) (by kernel_rfl) (fun _ _ _ h => h) (Or.inl ⟨by rfl, ?_⟩) (by assumption) ?_
            rotate_left
            · intro w hSw; (try dsimp only at hSw); first | (go_simp; done) | (go_simp; with_reducible rfl)
            (try simp only [Act.put, List.getElem_toArray, List.getElem_cons_succ, List.getElem_cons_zero, List.setIfInBounds_toArray, List.set_cons_zero, List.set_cons_succ])
            refine wpAnyH_take (i := 15) (v := ?_) rfl (by kernel_rfl) (by kernel_rfl) (by kernel_rfl) (fun _ _ _ h => h) (Or.inl ⟨by rfl, ?_⟩) (by assumption) ?_
            rotate_left
            · intro w hSw; (try dsimp only at hSw); first | (go_simp; done) | (go_simp; with_reducible rfl)
            (try simp only [Act.put, List.getElem_toArray, List.getElem_cons_succ, List.getElem_cons_zero, List.setIfInBounds_toArray, List.set_cons_zero, List.set_cons_succ])
            refine wpAnyH_take (i := 16) (v := ?_) rfl (by kernel_rfl) (by kernel_rfl) (by kernel_rfl) (fun _ _ _ h => h) (Or.inl ⟨by rfl, ?_⟩) (by assumption) ?_
            rotate_left
            · intro w hSw; (try dsimp only at hSw); first | (go_simp; done) | (go_simp; with_reducible rfl)
            (try simp only [Act.put, List.getElem_toArray, List.getElem_cons_succ, List.getElem_cons_zero, List.setIfInBounds_toArray, List.set_cons_zero, List.set_cons_succ])
            refine wpAnyH_take (i := 18) (v := ?_) rfl (by kernel_rfl) (by kernel_rfl) (by kernel_rfl) (fun _ _ _ h => h) (Or.inl ⟨by rfl, ?_⟩) (by assumption) ?_
            rotate_left
            · intro w hSw; (try dsimp only at hSw); first | (go_simp; done) | (go_simp; with_reducible rfl)
            (try simp only [Act.put, List.getElem_toArray, List.getElem_cons_succ, List.getElem_cons_zero, List.setIfInBounds_toArray, List.set_cons_zero, List.set_cons_succ])
            refine wpAnyH_ready (rs := [17]) (by kernel_rfl) (by simp) ?_
            refine AllReadyH.cons rfl (fun K hK => ?_) AllReadyH.nil
            go_simp
            have hus := used_vlt (HV9.out _ hbS2)
            rw [HU9.out] at hus
            refine hus.mono ?_
            clear hus
            rintro e w' ⟨rfl, rfl⟩
            clear hHeld
            go_wp2_with fail
            refine hK.out _ _ (HB9.out _ hbS2) (fun hHeld => ?_)
            clear hK K
            (try simp only [Act.put, List.getElem_toArray, List.getElem_cons_succ, List.getElem_cons_zero, List.setIfInBounds_toArray, List.set_cons_zero, List.set_cons_succ])
            refine wpAnyH_take (i := 19) (v := ?_) rfl (by kernel_rfl) (by kernel_rfl) (by kernel_rfl) (fun _ _ _ h => h) (Or.inl ⟨by rfl, ?_⟩) (by assumption) ?_
            rotate_left
            · intro w hSw; (try dsimp only at hSw); first | (go_simp; done) | (go_simp; with_reducible rfl)
            (try simp only [Act.put, List.getElem_toArray, List.getElem_cons_succ, List.getElem_cons_zero, List.setIfInBounds_toArray, List.set_cons_zero, List.set_cons_succ])
            refine wpAnyH_take (i := 20) (v := ?_) rfl (by kernel_rfl) (by kernel_rfl) (by kernel_rfl) (fun _ _ _ h => h) (Or.inl ⟨by rfl, ?_⟩) (by assumption) ?_
            rotate_left
            · intro w hSw; (try dsimp only at hSw); first | (go_simp; done) | (go_simp; with_reducible rfl)
            (try simp only [Act.put, List.getElem_toArray, List.getElem_cons_succ, List.getElem_cons_zero, List.setIfInBounds_toArray, List.set_cons_zero, List.set_cons_succ])
            refine wpAnyH_take (i := 21) (v := ?_) rfl (by kernel_rfl) (by kernel_rfl) (by kernel_rfl) (fun _ _ _ h => h) (Or.inl ⟨by rfl, ?_⟩) (by assumption) ?_
            rotate_left
            · intro w hSw; (try dsimp only at hSw); first | (go_simp; done) | (go_simp; with_reducible rfl)
            (try simp only [Act.put, List.getElem_toArray, List.getElem_cons_succ, List.getElem_cons_zero, List.setIfInBounds_toArray, List.set_cons_zero, List.set_cons_succ])
            refine wpAnyH_take (i := 22) (v := ?_) rfl (by kernel_rfl) (by kernel_rfl) (by kernel_rfl) (fun _ _ _ h => h) (Or.inl ⟨by rfl, ?_⟩) (by assumption) ?_
            rotate_left
            · intro w hSw; (try dsimp only at hSw); first | (go_simp; done) | (go_simp; with_reducible rfl)
            (try simp only [Act.put, List.getElem_toArray, List.getElem_cons_succ, List.getElem_cons_zero, List.setIfInBounds_toArray, List.set_cons_zero, List.set_cons_succ])
            refine wpAnyH_take (i := 23) (v := ?_) rfl (by kernel_rfl) (by kernel_rfl) (by kernel_rfl) (fun _ _ _ h => h) (Or.inl ⟨by rfl, ?_⟩) (by assumption) ?_
            rotate_left
            · intro w hSw; (try dsimp only at hSw); first | (go_simp; done) | (go_simp; with_reducible rfl)
            (try simp only [Act.put, List.getElem_toArray, List.getElem_cons_succ, List.getElem_cons_zero, List.setIfInBounds_toArray, List.set_cons_zero, List.set_cons_succ])
            refine wpAnyH_take (i := 24) (v := ?_) rfl (by kernel_rfl) (by kernel_rfl) (by kernel_rfl) (fun _ _ _ h => h) (Or.inl ⟨by rfl, ?_⟩) (by assumption) ?_
            rotate_left
            · intro w hSw; (try dsimp only at hSw); first | (go_simp; done) | (go_simp; with_reducible rfl)
            (try simp only [Act.put, List.getElem_toArray, List.getElem_cons_succ, List.getElem_cons_zero, List.setIfInBounds_toArray, List.set_cons_zero, List.set_cons_succ])
            refine wpAnyH_take (i := 25) (v := ?_) rfl (by kernel_rfl) (by kernel_rfl) (by kernel_rfl) (fun _ _ _ h => h) (Or.inl ⟨by rfl, ?_⟩) (by assumption) ?_
            rotate_left
            · intro w hSw; (try dsimp only at hSw); first | (go_simp; done) | (go_simp; with_reducible rfl)
            (try simp only [Act.put, List.getElem_toArray, List.getElem_cons_succ, List.getElem_cons_zero, List.setIfInBounds_toArray, List.set_cons_zero, List.set_cons_succ])
            refine wpAnyH_take (i := 26) (v := undef) rfl (by kernel_rfl) (by kernel_rfl) (by kernel_rfl) (fun _ _ _ h => h) (Or.inr ⟨by rfl, rfl⟩) (by assumption) ?_
            (try simp only [Act.put, List.getElem_toArray, List.getElem_cons_succ, List.getElem_cons_zero, List.setIfInBounds_toArray, List.set_cons_zero, List.set_cons_succ])
            refine wpAnyH_take (i := 27) (v := undef) rfl (by kernel_rfl) (by kernel_rfl) (by kernel_rfl) (fun _ _ _ h => h) (Or.inr ⟨by rfl, rfl⟩) (by assumption) ?_
            (try simp only [Act.put, List.getElem_toArray, List.getElem_cons_succ, List.getElem_cons_zero, List.setIfInBounds_toArray, List.set_cons_zero, List.set_cons_succ])
            refine wpAnyH_take (i := 28) (v := undef) rfl (by kernel_rfl) (by kernel_rfl) (by kernel_rfl) (fun _ _ _ h => h) (Or.inr ⟨by rfl, rfl⟩) (by assumption) ?_
            (try simp only [Act.put, List.getElem_toArray, List.getElem_cons_succ, List.getElem_cons_zero, List.setIfInBounds_toArray, List.set_cons_zero, List.set_cons_succ])
            refine wpAnyH_take (i := 29) (v := ?_) rfl (by kernel_rfl) (by kernel_rfl) (by kernel_rfl) (fun _ _ _ h => h) (Or.inl ⟨by rfl, ?_⟩) (by assumption) ?_
            rotate_left
            · intro w hSw; (try dsimp only at hSw); first | (go_simp; done) | (go_simp; with_reducible rfl)
            (try simp only [Act.put, List.getElem_toArray, List.getElem_cons_succ, List.getElem_cons_zero, List.setIfInBounds_toArray, List.set_cons_zero, List.set_cons_succ])
            refine wpAnyH_take (i := 30) (v := ?_) rfl (by kernel_rfl) (by kernel_rfl) (by kernel_rfl) (fun _ _ _ h => h) (Or.inl ⟨by rfl, ?_⟩) (by assumption) ?_
            rotate_left
            · intro w hSw; (try dsimp only at hSw); first | (go_simp; done) | (go_simp; with_reducible rfl)
            (try simp only [Act.put, List.getElem_toArray, List.getElem_cons_succ, List.getElem_cons_zero, List.setIfInBounds_toArray, List.set_cons_zero, List.set_cons_succ])
            refine wpAnyH_take (i := 31) (v := ?_) rfl (by kernel_rfl) (by kernel_rfl) (by kernel_rfl) (fun _ _ _ h => h) (Or.inl ⟨by rfl, ?_⟩) (by assumption) ?_
            rotate_left
            · intro w hSw; (try dsimp only at hSw); first | (go_simp; done) | (go_simp; with_reducible rfl)
            (try simp only [Act.put, List.getElem_toArray, List.getElem_cons_succ, List.getElem_cons_zero, List.setIfInBounds_toArray, List.set_cons_zero, List.set_cons_succ])
            refine wpAnyH_done (by kernel_rfl) ?_ _
            clear HV9 HR9 HB9 hHeld
            go_wp2_with fail
            go_ret
            exact ⟨rfl, low_to HFI.out hbS2⟩
          · have e2 : (compV room size s).1 = s := comp_fail (by rw [HER.out]; exact ec)
            rw [e2] at hn10 HCW
            obtain ⟨F10, h10⟩ := H9.out.call hn10 HCW.out rfl rfl
            obtain ⟨I, hR⟩ := h10.vlt.right
            have hc2 := compact_any h10.vlt HML.out
            have hcv : compV room size s = (s, er) := Prod.ext e2 HER.out
            rw [hcv] at hc2
            have HC2 := Lib.hid hc2
            have HUU := Lib.hid (used_vlt h10.vlt)
            have H10 := Lib.hid h10
            have hez : (er : Int) ≠ 0 := by omega
            have hez1 : ((er : Int) != 0) = true := by simpa using ec
            have hez2 : ((er : Int) == 0) = false := by simpa using ec
            clear h10 hR hn10 HC1 H9 e2 hc2 hcv HCW HER
            go_wp2_with fail
            refine HUU.out.mono ?_
            rintro e w' ⟨rfl, rfl⟩
            rw [HUS.out]
            clear HUU
            go_wp2_with fail
            refine HC2.out.mono ?_
            rintro e w9 ⟨rfl, hn11⟩
            have HA3 := Lib.hid (H10.out.call hn11 H10.out.whole rfl rfl)
            clear hn11 HC2 H10
            go_wp2_with fail
            obtain ⟨F9, h9⟩ := HA3.out
            have HV9 := Lib.hid (show ∀ w', Below w9.heap.size w9 w' → VAt w F9 V D G9 S9 60000 room size s w' from fun w' hb => h9.vlt.low hb)
            have HR9 := Lib.hid (show ∀ w', Below w9.heap.size w9 w' → Row w' 33 6 v6 s.L.length (recsV s.L) from fun w' hb => (h9.next hb).row)
            have HB9 := Lib.hid (show ∀ w', Below w9.heap.size w9 w' → w'.cell? ⟨bx, 0, none⟩ = some (.int .i64 a1) ∧ w'.cell? ⟨bx, 1, none⟩ = some (.int .i64 a2) ∧ w'.cell? ⟨bx, 2, none⟩ = some (.int .i64 a3) ∧ w'.cell? ⟨bx, 3, none⟩ = some (.int .i64 a4) from fun w' hb => by
              obtain ⟨c0, c1, c2, c3, _⟩ := fourS (h9.next hb).box
              exact ⟨c0, c1, c2, c3⟩)
            have HL9 := Lib.hid (show s.L.length ≤ 100000 from by
              obtain ⟨I, hR⟩ := h9.vlt.right
              have := hR.few
              omega)
            have HSF9 := Lib.hid h9.sums
            have HFI := Lib.hid h9.vlt.below
            have hbd : Below w9.heap.size w9 w9.drew := (Below.refl _ _).drew
            clear h9 HA3
            refine wp_region_held_drew (S := (fun w' => w'.cell? ⟨bx, 0, none⟩ = some (.int .i64 a1) ∧ w'.cell? ⟨bx, 1, none⟩ = some (.int .i64 a2) ∧ w'.cell? ⟨bx, 2, none⟩ = some (.int .i64 a3) ∧ w'.cell? ⟨bx, 3, none⟩ = some (.int .i64 a4))) (by kernel_rfl) (HB9.out _ hbd) (fun hHeld => ?_)
            refine wpAnyH_take (i := 0) (v := ?_) rfl (by kernel_rfl) (by kernel_rfl) (by kernel_rfl) (fun _ _ _ h => h) (Or.inl ⟨by rfl, ?_⟩) (by assumption) ?_
            rotate_left
            · intro w hSw; (try dsimp only at hSw); first | (go_simp; done) | (go_simp; with_reducible rfl)
            (try simp only [Act.put, List.getElem_toArray, List.getElem_cons_succ, List.getElem_cons_zero, List.setIfInBounds_toArray, List.set_cons_zero, List.set_cons_succ])
            refine wpAnyH_take (i := 3) (v := ?_) rfl (by kernel_rfl) (by kernel_rfl) (by kernel_rfl) (fun _ _ _ h => h) (Or.inl ⟨by rfl, ?_⟩) (by assumption) ?_
            rotate_left
            · intro w hSw; (try dsimp only at hSw); first | (go_simp; done) | (go_simp; with_reducible rfl)
            (try simp only [Act.put, List.getElem_toArray, List.getElem_cons_succ, List.getElem_cons_zero, List.setIfInBounds_toArray, List.set_cons_zero, List.set_cons_succ])
            refine wpAnyH_ready (rs := [1]) (by kernel_rfl) (by simp) ?_
            refine AllReadyH.cons rfl (fun K hK => ?_) AllReadyH.nil
            go_simp
            refine (store_vlt (HV9.out _ hbd)).mono ?_
            rintro e w' ⟨rfl, rfl⟩
            clear hHeld
            go_wp2_with fail
            refine hK.out _ _ (HB9.out _ hbd) (fun hHeld => ?_)
            clear hK K
            (try simp only [Act.put, List.getElem_toArray, List.getElem_cons_succ, List.getElem_cons_zero, List.setIfInBounds_toArray, List.set_cons_zero, List.set_cons_succ])
            refine wpAnyH_ready (rs := [2]) (by kernel_rfl) (by simp) ?_
            refine AllReadyH.cons rfl (fun K hK => ?_) AllReadyH.nil
            go_simp
            refine (all_vlt (HV9.out _ hbd)).mono ?_
            rintro e wA ⟨vA, rfl, hrA, hbA, hoA⟩
            have hbA2 := low_to (w0 := w9) hbd hbA
            clear hbA hoA
            clear hHeld
            go_wp2_with fail
            refine hK.out _ _ (HB9.out _ hbA2) (fun hHeld => ?_)
            clear hK K
            (try simp only [Act.put, List.getElem_toArray, List.getElem_cons_succ, List.getElem_cons_zero, List.setIfInBounds_toArray, List.set_cons_zero, List.set_cons_succ])
            refine wpAnyH_ready (rs := [4]) (by kernel_rfl) (by simp) ?_
            refine AllReadyH.cons rfl (fun K hK => ?_) AllReadyH.nil
            go_simp
            refine (equal_recs (row_recs hrA) (row_recs (HR9.out _ hbA2)) HL9.out).mono ?_
            rintro e wE ⟨rfl, q, rfl⟩
            have hbE := below_drewN hbA2 q
            clear hHeld
            go_wp2_with fail
            refine hK.out _ _ (HB9.out _ hbE) (fun hHeld => ?_)
            clear hK K
            (try simp only [Act.put, List.getElem_toArray, List.getElem_cons_succ, List.getElem_cons_zero, List.setIfInBounds_toArray, List.set_cons_zero, List.set_cons_succ])
            refine wpAnyH_take (i := 5) (v := ?_) rfl (by kernel_rfl) (by kernel_rfl) (by kernel_rfl) (fun _ _ _ h => h) (Or.inl ⟨by rfl, ?_⟩) (by assumption) ?_
            rotate_left
            · intro w hSw; (try dsimp only at hSw); first | (go_simp; done) | (go_simp; with_reducible rfl)
            (try simp only [Act.put, List.getElem_toArray, List.getElem_cons_succ, List.getElem_cons_zero, List.setIfInBounds_toArray, List.set_cons_zero, List.set_cons_succ])
            refine wpAnyH_take (i := 6) (v := ?_) rfl (by kernel_rfl) (by kernel_rfl) (by kernel_rfl) (fun _ _ _ h => h) (Or.inl ⟨by rfl, ?_⟩) (by assumption) ?_
            rotate_left
            · intro w hSw; (try dsimp only at hSw); first | (go_simp; done) | (go_simp; with_reducible rfl)
            (try simp only [Act.put, List.getElem_toArray, List.getElem_cons_succ, List.getElem_cons_zero, List.setIfInBounds_toArray, List.set_cons_zero, List.set_cons_succ])
            refine wpAnyH_take (i := 9) (v := ?_) rfl (by kernel_rfl) (by kernel_rfl) (by kernel_rfl) (fun _ _ _ h => h) (Or.inl ⟨by rfl, ?_⟩) (by assumption) ?_
            rotate_left
            · intro w hSw; (try dsimp only at hSw); first | (go_simp; done) | (go_simp; with_reducible rfl)
            (try simp only [Act.put, List.getElem_toArray, List.getElem_cons_succ, List.getElem_cons_zero, List.setIfInBounds_toArray, List.set_cons_zero, List.set_cons_succ])
            refine wpAnyH_ready (rs := [7]) (by kernel_rfl) (by simp) ?_
            refine AllReadyH.cons rfl (fun K hK => ?_) AllReadyH.nil
            go_simp
            refine (store_vlt (HV9.out _ hbE)).mono ?_
            rintro e w' ⟨rfl, rfl⟩
            clear hHeld
            go_wp2_with fail
            refine hK.out _ _ (HB9.out _ hbE) (fun hHeld => ?_)
            clear hK K
            (try simp only [Act.put, List.getElem_toArray, List.getElem_cons_succ, List.getElem_cons_zero, List.setIfInBounds_toArray, List.set_cons_zero, List.set_cons_succ])
            refine wpAnyH_ready (rs := [8]) (by kernel_rfl) (by simp) ?_
            refine AllReadyH.cons rfl (fun K hK => ?_) AllReadyH.nil
            go_simp
            have hsu := sums_vlt (HV9.out _ hbE)
            rw [HSF9.out] at hsu
            refine hsu.mono ?_
            clear hsu
            rintro e wS ⟨rfl, hbS⟩
            have hbS2 := low_to (w0 := w9) hbE hbS
            clear hbS
            clear hHeld
            go_wp2_with fail
            refine hK.out _ _ (HB9.out _ hbS2) (fun hHeld => ?_)
            clear hK K
            (try simp only [Act.put, List.getElem_toArray, List.getElem_cons_succ, List.getElem_cons_zero, List.setIfInBounds_toArray, List.set_cons_zero, List.set_cons_succ])
            refine wpAnyH_take (i := 10) (v := ?_) rfl (by kernel_rfl) (by kernel_rfl) (by kernel_rfl) (fun _ _ _ h => h) (Or.inl ⟨by rfl, ?_⟩) (by assumption) ?_
            rotate_left
            · intro w hSw; (try dsimp only at hSw); first | (go_simp; done) | (go_simp; with_reducible rfl)
            (try simp only [Act.put, List.getElem_toArray, List.getElem_cons_succ, List.getElem_cons_zero, List.setIfInBounds_toArray, List.set_cons_zero, List.set_cons_succ])
            refine wpAnyH_take (i := 11) (v := ?_) rfl (by kernel_rfl) (by kernel_rfl) (by kernel_rfl) (fun _ _ _ h => h) (Or.inl ⟨by rfl, ?_⟩) (by assumption) ?_
            rotate_left
            · intro w hSw; (try dsimp only at hSw); first | (go_simp; done) | (go_simp; with_reducible rfl)
            (try simp only [Act.put, List.getElem_toArray, List.getElem_cons_succ, List.getElem_cons_zero, List.setIfInBounds_toArray, List.set_cons_zero, List.set_cons_succ])
            refine wpAnyH_take (i := 12) (v := ?_) rfl (by kernel_rfl) (by kernel_rfl) (by kernel_rfl) (fun _ _ _ h => h) (Or.inl ⟨by rfl, ?_⟩) (by assumption) ?_
            rotate_left
            · intro w hSw; (try dsimp only at hSw); first | (go_simp; done) | (go_simp; with_reducible rfl)
            (try simp only [Act.put, List.getElem_toArray, List.getElem_cons_succ, List.getElem_cons_zero, List.setIfInBounds_toArray, List.set_cons_zero, List.set_cons_succ])
            refine wpAnyH_take (i := 13) (v := ?_) rfl (by kernel_rfl) (by kernel_rfl) (by kernel_rfl) (fun _ _ _ h => h) (Or.inl ⟨by rfl, ?_⟩) (by assumption) ?_
            rotate_left
            · intro w hSw; (try dsimp only at hSw); first | (go_simp; done) | (go_simp; with_reducible rfl)
            (try simp only [Act.put, List.getElem_toArray, List.getElem_cons_succ, List.getElem_cons_zero, List.setIfInBounds_toArray, List.set_cons_zero, List.set_cons_succ])
            refine wpAnyH_take (i := 14) (v := ?_) rfl (by kernel_rfl) (by kernel_rfl) (by kernel_rfl) (fun _ _ _ h => h) (Or.inl ⟨by rfl, ?_⟩) (by assumption) ?_
            rotate_left
            · intro w hSw; (try dsimp only at hSw); first | (go_simp; done) | (go_simp; with_reducible rfl)
            (try simp only [Act.put, List.getElem_toArray, List.getElem_cons_succ, List.getElem_cons_zero, List.setIfInBounds_toArray, List.set_cons_zero, List.set_cons_succ])
            refine wpAnyH_take (i := 15) (v := ?_) rfl (by kernel_rfl) (by kernel_rfl) (by kernel_rfl) (fun _ _ _ h => h) (Or.inl ⟨by rfl, ?_⟩) (by assumption) ?_
            rotate_left
            · intro w hSw; (try dsimp only at hSw); first | (go_simp; done) | (go_simp; with_reducible rfl)
            (try simp only [Act.put, List.getElem_toArray, List.getElem_cons_succ, List.getElem_cons_zero, List.setIfInBounds_toArray, List.set_cons_zero, List.set_cons_succ])
            refine wpAnyH_take (i := 16) (v := undef) rfl (by kernel_rfl) (by kernel_rfl) (by kernel_rfl) (fun _ _ _ h => h) (Or.inr ⟨by rfl, rfl⟩) (by assumption) ?_
            (try simp only [Act.put, List.getElem_toArray, List.getElem_cons_succ, List.getElem_cons_zero, List.setIfInBounds_toArray, List.set_cons_zero, List.set_cons_succ])
            refine wpAnyH_take (i := 17) (v := undef) rfl (by kernel_rfl) (by kernel_rfl) (by kernel_rfl) (fun _ _ _ h => h) (Or.inr ⟨by rfl, rfl⟩) (by assumption) ?_
            (try simp only [Act.put, List.getElem_toArray, List.getElem_cons_succ, List.getElem_cons_zero, List.setIfInBounds_toArray, List.set_cons_zero, List.set_cons_succ])
            refine wpAnyH_take (i := 18) (v := undef) rfl (by kernel_rfl) (by kernel_rfl) (by kernel_rfl) (fun _ _ _ h => h) (Or.inr ⟨by rfl, rfl⟩) (by assumption) ?_
            (try simp only [Act.put, List.getElem_toArray, List.getElem_cons_succ, List.getElem_cons_zero, List.setIfInBounds_toArray, List.set_cons_zero, List.set_cons_succ])
            refine wpAnyH_take (i := 19) (v := undef) rfl (by kernel_rfl) (by kernel_rfl) (by kernel_rfl) (fun _ _ _ h => h) (Or.inr ⟨by rfl, rfl⟩) (by assumption) ?_
            (try simp only [Act.put, List.getElem_toArray, List.getElem_cons_succ, List.getElem_cons_zero, List.setIfInBounds_toArray, List.set_cons_zero, List.set_cons_succ])
            refine wpAnyH_take (i := 20) (v := ?_) rfl (by kernel_rfl) (by kernel_rfl) (by kernel_rfl) (fun _ _ _ h => h) (Or.inl ⟨by rfl, ?_⟩) (by assumption) ?_
            rotate_left
            · intro w hSw; (try dsimp only at hSw); first | (go_simp; done) | (go_simp; with_reducible rfl)
            (try simp only [Act.put, List.getElem_toArray, List.getElem_cons_succ, List.getElem_cons_zero, List.setIfInBounds_toArray, List.set_cons_zero, List.set_cons_succ])
            refine wpAnyH_take (i := 21) (v := ?_) rfl (by kernel_rfl) (by kernel_rfl) (by kernel_rfl) (fun _ _ _ h => h) (Or.inl ⟨by rfl, ?_⟩) (by assumption) ?_
            rotate_left
            · intro w hSw; (try dsimp only at hSw); first | (go_simp; done) | (go_simp; with_reducible rfl)
            (try simp only [Act.put, List.getElem_toArray, List.getElem_cons_succ, List.getElem_cons_zero, List.setIfInBounds_toArray, List.set_cons_zero, List.set_cons_succ])
            refine wpAnyH_take (i := 22) (v := ?_) rfl (by kernel_rfl) (by kernel_rfl) (by kernel_rfl) (fun _ _ _ h => h) (Or.inl ⟨by rfl, ?_⟩) (by assumption) ?_
            rotate_left
            · intro w hSw; (try dsimp only at hSw); first | (go_simp; done) | (go_simp; with_reducible rfl)
            (try simp only [Act.put, List.getElem_toArray, List.getElem_cons_succ, List.getElem_cons_zero, List.setIfInBounds_toArray, List.set_cons_zero, List.set_cons_succ])
            refine wpAnyH_take (i := 23) (v := ?_) rfl (by kernel_rfl) (by kernel_rfl) (by kernel_rfl) (fun _ _ _ h => h) (Or.inl ⟨by rfl, ?_⟩) (by assumption) ?_
            rotate_left
            · intro w hSw; (try dsimp only at hSw); first | (go_simp; done) | (go_simp; with_reducible rfl)
            (try simp only [Act.put, List.getElem_toArray, List.getElem_cons_succ, List.getElem_cons_zero, List.setIfInBounds_toArray, List.set_cons_zero, List.set_cons_succ])
            refine wpAnyH_take (i := 24) (v := ?_) rfl (by kernel_rfl) (by kernel_rfl) (by kernel_rfl) (fun _ _ _ h => h) (Or.inl ⟨by rfl, ?_⟩) (by assumption) ?_
            rotate_left
            · intro w hSw; (try dsimp only at hSw); first | (go_simp; done) | (go_simp; with_reducible rfl)
            (try simp only [Act.put, List.getElem_toArray, List.getElem_cons_succ, List.getElem_cons_zero, List.setIfInBounds_toArray, List.set_cons_zero, List.set_cons_succ])
            refine wpAnyH_take (i := 25) (v := ?_) rfl (by kernel_rfl) (by kernel_rfl) (by kernel_rfl) (fun _ _ _ h => h) (Or.inl ⟨by rfl, ?_⟩) (by assumption) ?_
            rotate_left
            · intro w hSw; (try dsimp only at hSw); first | (go_simp; done) | (go_simp; with_reducible rfl)
            (try simp only [Act.put, List.getElem_toArray, List.getElem_cons_succ, List.getElem_cons_zero, List.setIfInBounds_toArray, List.set_cons_zero, List.set_cons_succ])
            refine wpAnyH_take (i := 26) (v := ?_) rfl (by kernel_rfl) (by kernel_rfl) (by kernel_rfl) (fun _ _ _ h => h) (Or.inl ⟨by rfl, ?_⟩) (by assumption) ?_
            rotate_left
            · intro w hSw; (try dsimp only at hSw); first | (go_simp; done) | (go_simp; with_reducible rfl)
            (try simp only [Act.put, List.getElem_toArray, List.getElem_cons_succ, List.getElem_cons_zero, List.setIfInBounds_toArray, List.set_cons_zero, List.set_cons_succ])
            refine wpAnyH_take (i := 27) (v := ?_) rfl (by kernel_rfl) (by kernel_rfl) (by kernel_rfl) (fun _ _ _ h => h) (Or.inl ⟨by rfl, ?_⟩) (by assumption) ?_
            rotate_left
            · intro w hSw; (try dsimp only at hSw); first | (go_simp; done) | (go_simp; with_reducible rfl)
            (try simp only [Act.put, List.getElem_toArray, List.getElem_cons_succ, List.getElem_cons_zero, List.setIfInBounds_toArray, List.set_cons_zero, List.set_cons_succ])
            refine wpAnyH_take (i := 28) (v := ?_) rfl (by kernel_rfl) (by kernel_rfl) (by kernel_rfl) (fun _ _ _ h => h) (Or.inl ⟨by rfl, ?_⟩) (by assumption) ?_
            rotate_left
            · intro w hSw; (try dsimp only at hSw); first | (go_simp; done) | (go_simp; with_reducible rfl)
            (try simp only [Act.put, List.getElem_toArray, List.getElem_cons_succ, List.getElem_cons_zero, List.setIfInBounds_toArray, List.set_cons_zero, List.set_cons_succ])
            refine wpAnyH_take (i := 29) (v := ?_) rfl (by kernel_rfl) (by kernel_rfl) (by kernel_rfl) (fun _ _ _ h => h) (Or.inl ⟨by rfl, ?_⟩) (by assumption) ?_
            rotate_left
            · intro w hSw; (try dsimp only at hSw); first | (go_simp; done) | (go_simp; with_reducible rfl)
            (try simp only [Act.put, List.getElem_toArray, List.getElem_cons_succ, List.getElem_cons_zero, List.setIfInBounds_toArray, List.set_cons_zero, List.set_cons_succ])
            refine wpAnyH_take (i := 30) (v := ?_) rfl (by kernel_rfl) (by kernel_rfl) (by kernel_rfl) (fun _ _ _ h => h) (Or.inl ⟨by rfl, ?_⟩) (by assumption) ?_
            rotate_left
            · intro w hSw; (try dsimp only at hSw); first | (go_simp; done) | (go_simp; with_reducible rfl)
            (try simp only [Act.put, List.getElem_toArray, List.getElem_cons_succ, List.getElem_cons_zero, List.setIfInBounds_toArray, List.set_cons_zero, List.set_cons_succ])
            refine wpAnyH_take (i := 31) (v := ?_) rfl (by kernel_rfl) (by kernel_rfl) (by kernel_rfl) (fun _ _ _ h => h) (Or.inl ⟨by rfl, ?_⟩) (by assumption) ?_
            rotate_left
            · intro w hSw; (try dsimp only at hSw); first | (go_simp; done) | (go_simp; with_reducible rfl)
            (try simp only [Act.put, List.getElem_toArray, List.getElem_cons_succ, List.getElem_cons_zero, List.setIfInBounds_toArray, List.set_cons_zero, List.set_cons_succ])
            refine wpAnyH_done (by kernel_rfl) ?_ _
            clear HV9 HR9 HB9 hHeld
            go_wp2_with fail
            go_ret
            exact ⟨rfl, low_to HFI.out hbS2⟩
  · have HNB := Lib.hid (new_vlt_bad (W := w) H3.out HML.out room size hok)
    clear hok
    refine HNB.out.mono ?_
    rintro e w4 ⟨rfl, hb4⟩
    have HB := Lib.hid (H3.out.trans (hb4.mono H3.out.size))
    clear hb4 HNB H3
    go_wp2_with fail
    go_ret
    exact ⟨rfl, HB.out⟩
end
end Go.Proofs.YtidacfhdhdnidaaGreatDoor.Vlt
