/- Parts of the proof, joined: rillref.Rewritten, walked.; The reference's Decoded, walked.; The reference's Decoded where the sum is right; Decoded whole. -/
import Derived.Test.YtidacfhdhdnidaaGreatDoorVaultPlaysUptoM43
import Derived.Deep.DeepCutAuto
namespace Go.Proofs.YtidacfhdhdnidaaGreatDoor.Log
open Go.RowKit Heap Dsk Drw
open Subj (ML)
open Rec (Rc recErr recA rcOf codedL refRecord_any coded_any)
open Sto (RecsAt Fits parts sixC recV)

section
variable {W w : World} {G : Nat → Prop} {E : Nat} {room size : Int} {A : List FileP}

theorem total_one (q : FileP) : total [q] = q.text.length := by simp [total]

/-- A disk of one block. -/
theorem right_one {room : Int} {A : List FileP} {q : FileP} (h : RightD room (A ++ [q])) (p : FileP) (hn : p.n = q.n) (ht : p.text = q.text) (hs : p.sure = p.text.length) : RightD room [p] := by
  have hq := h.num q (by simp)
  have hf := h.fits
  have hl := le_total (A := A ++ [q]) (p := q) (by simp)
  refine ⟨List.pairwise_singleton _ _, by simp, ?_, h.small, fun x hx => ?_, fun x hx => ?_⟩
  · rw [total_one, ht]; omega
  · simp at hx; subst hx; omega
  · simp at hx; subst hx; rw [hn]; exact hq

set_option maxHeartbeats 4000000 in
set_option maxRecDepth 100000 in
theorem rewritten_drw (hD : DrawAt W G E room A w) (hlt : ∀ k, G k → k < w.heap.size) {v : Value} {rs : List Rc} (hl : RecsAt w v rs) (hn : rs.length ≤ 100000) (hf : ∀ r ∈ rs, Fits r) :
    Calls Tryz.prog 50 #[.pointer (some ⟨E, 0, none⟩), .int .i64 size, v] w (LogPost W G E room w (rewD room size A rs)) := by
  obtain ⟨n, hnL⟩ : ∃ n, rs.length = n := ⟨_, rfl⟩
  have HN := Lib.hid hnL
  obtain ⟨ao, cap, rfl, ha⟩ := hl
  have HL := Lib.hid (show RecsAt w (.slice ao rs.length cap) rs from ⟨ao, cap, rfl, ha⟩); have HF := Lib.hid hf
  have HDD := Lib.hid hD; have HLT := Lib.hid hlt
  rw [hnL] at hn ⊢
  have h0 := Lib.hid (show R1 w rs 0 ByteArray.empty w from ⟨rfl, rfl, Below.refl _ _⟩)
  clear ha hf hnL hD hlt
  go_enter Tryz.func50, Tryz.ntmps50
  go_wp2_with fail
  go_loopw [7, 8] (fun t i wr => ∃ (k : Nat) (T : ByteArray), k ≤ n ∧ i = .int .i64 k ∧ t = .string T ∧ Hid (R1 w rs k T wr)) (fun _ i _ => n - (intOf i).toNat)
  case atStart => exact ⟨0, _, Nat.zero_le _, rfl, rfl, h0⟩
  case round =>
    obtain ⟨k, T, hk, rfl, rfl, HR⟩ := hrel
    clear h0
    obtain ⟨he0, hT, hbw⟩ := HR.out
    have hTs : T.size = (textsL (rs.take k)).length := by rw [← hT]; show T.data.size = _; simp
    have hTl := textsL_len he0
    have hTl2 : T.size ≤ 1037 * 100000 := by
      rw [hTs]
      have : (rs.take k).length ≤ k := by simp; omega
      omega
    clear hTs hTl
    by_cases hlt : k < n
    · have hltz : (k : Int) < n := by omega
      obtain ⟨p, hp⟩ : ∃ p, rs[k]? = some p := ⟨_, List.getElem?_eq_getElem (by rw [HN.out]; exact hlt)⟩
      obtain ⟨hx1, hx2⟩ := errL_take hp he0
      have hlr := HL.out.below hbw (Nat.le_refl _)
      obtain ⟨ao', cap', hv, ha⟩ := hlr
      simp only [Value.slice.injEq, true_and] at hv
      obtain ⟨rfl, rfl⟩ := hv
      obtain ⟨g, off, rfl, hcs⟩ := ha (fun e => by rw [e] at hp; simp at hp)
      obtain ⟨m0, m1, m2, m3, m4, m5⟩ := hcs k p hp
      have hfp := HF.out p (List.mem_of_getElem? hp)
      have htx := textsL_take hp
      obtain ⟨s, h, d, hpp⟩ := parts p
      have hrc := hpp.rc
      rw [hpp.s1] at m3
      rw [hpp.h1] at m4
      rw [hpp.d1] at m5
      have hss : s.size ≤ 1048576 ∧ h.size ≤ 1048576 ∧ d.size ≤ 1048576 := by
        rw [hpp.s3, hpp.h3, hpp.d3]; exact ⟨hfp.s, hfp.h, hfp.d⟩
      have hre := refRecord_any p.kind p.seq p.time s h d wr hss.1 hss.2.1 hss.2.2
      rw [hrc] at hre
      have HRE := Lib.hid hre
      unfold recA at HRE
      have HBW := Lib.hid hbw
      by_cases her : recErr p = 0
      · have hz := Rec.recErr_sizes her
        have HCO := Lib.hid (fun w : World => (by have := coded_any p.kind p.seq p.time s h d w (by omega) (by omega) (by have := hz.2.2.2.1; unfold Rec.far at this; omega) (by have := hz.2.2.2.2.2.1; unfold Rec.far at this; omega) hss.1 hss.2.1 hss.2.2; rw [hrc] at this; exact this : Calls Tryz.prog 114 #[.agg (recA p.kind p.seq p.time s h d)] w fun e w' => e = .returned (.string ⟨(codedL p).toArray⟩) ∧ Below w.heap.size w w'))
        have hcl := codedL_len her
        obtain ⟨X, hX⟩ : ∃ X : ByteArray, (⟨(codedL p).toArray⟩ : ByteArray) = X := ⟨_, rfl⟩
        have hXs : X.size = (codedL p).length := by rw [← hX]; show (codedL p).toArray.size = _; simp
        have hTE : (T ++ X).data.toList = textsL (rs.take (k + 1)) := by rw [htx, ← hT, ← hX]; simp
        rw [hX] at HCO
        rw [← hXs] at hcl
        unfold recA at HCO
        have hsum : ¬ 9223372036854775807 < T.size + X.size := by omega
        have HTE := Lib.hid hTE; have HE1 := Lib.hid (hx1.trans her)
        have hcells : ∀ w', Below wr.heap.size wr w' → w'.cell? ⟨g, off + k * 6, none⟩ = some (.int .i64 p.kind) ∧ w'.cell? ⟨g, off + k * 6 + 1, none⟩ = some (.int .i64 p.seq) ∧ w'.cell? ⟨g, off + k * 6 + 2, none⟩ = some (.int .i64 p.time) ∧ w'.cell? ⟨g, off + k * 6 + 3, none⟩ = some (.string s) ∧ w'.cell? ⟨g, off + k * 6 + 4, none⟩ = some (.string h) ∧ w'.cell? ⟨g, off + k * 6 + 5, none⟩ = some (.string d) := fun w' hb => by
          have hg : g < wr.heap.size := World.block_lt_of_cell? wr _ m0
          have hblk := hb.block g hg
          exact ⟨(World.cell?_of_block (a := ⟨g, off + k * 6, none⟩) hblk).trans m0, (World.cell?_of_block (a := ⟨g, off + k * 6 + 1, none⟩) hblk).trans m1, (World.cell?_of_block (a := ⟨g, off + k * 6 + 2, none⟩) hblk).trans m2, (World.cell?_of_block (a := ⟨g, off + k * 6 + 3, none⟩) hblk).trans m3, (World.cell?_of_block (a := ⟨g, off + k * 6 + 4, none⟩) hblk).trans m4, (World.cell?_of_block (a := ⟨g, off + k * 6 + 5, none⟩) hblk).trans m5⟩
        have HCELLS := Lib.hid hcells
        rw [her] at HRE
        clear hp hx1 hx2 ha hcs hfp htx hpp hrc hss hre her hX hXs hTE he0 hT hbw HR hz hcells
        go_wp2_with fail
        refine HRE.out.mono ?_
        rintro e w3 ⟨rfl, hb3⟩
        clear m0 m1 m2 m3 m4 m5
        obtain ⟨m0, m1, m2, m3, m4, m5⟩ := HCELLS.out w3 hb3
        have HB3 := Lib.hid (HBW.out.trans (hb3.mono HBW.out.size))
        clear hb3 HRE
        go_wp2_with fail
        refine (HCO.out _).mono ?_
        rintro e w4 ⟨rfl, hb4⟩
        have HNX := Lib.hid (show R1 w rs (k + 1) (T ++ X) w4 from ⟨HE1.out, HTE.out, HB3.out.trans (hb4.mono HB3.out.size)⟩)
        clear hb4 HCO m0 m1 m2 m3 m4 m5
        go_wp2_with fail
        exact ⟨⟨k + 1, T ++ X, by omega, by go_num, rfl, HNX⟩, by simp [intOf]; omega⟩
      · have hrw : rewD room size A rs = (A, recErr p) := by
          unfold rewD
          rw [if_pos (by rw [hx2 her]; exact her), hx2 her]
        rw [hrw]
        generalize recErr p = C at *
        have hC : ¬ (C : Int) = 0 := by omega
        clear hp hx1 hx2 ha hcs hfp htx hpp hrc hss hre her he0 hT hbw HR hrw
        go_wp2_with fail
        refine HRE.out.mono ?_
        rintro e w4 ⟨rfl, hb4⟩
        have HB4 := Lib.hid (HBW.out.trans (hb4.mono HBW.out.size))
        clear hb4 HRE m0 m1 m2 m3 m4 m5
        go_wp2_with fail
        go_ret
        exact ⟨rfl, (HDD.out.next HB4.out).mono (fun k hk => .inl hk) (fun k hk => hk.elim (HDD.out.newG k) fun e => Nat.le_trans HDD.out.below.size e), Heap.Touch.ofBelow HB4.out⟩
    · have hltz : ¬ (k : Int) < n := by omega
      obtain rfl : k = n := by omega
      rw [List.take_of_length_le (by rw [HN.out]; exact Nat.le_refl _)] at he0 hT
      have hTs : T.size = (textsL rs).length := by rw [← hT]; show T.data.size = _; simp
      have HE0 := Lib.hid he0; have HT := Lib.hid hT; have HBW := Lib.hid hbw; have HTS := Lib.hid hTs
      clear he0 hT HR hbw hTs
      by_cases hfull : 1 < rs.length ∧ size < (textsL rs).length
      · have hf1 : (1 : Int) < (k : Nat) := by have := hfull.1; rw [HN.out] at this; omega
        have hf2 : size < (T.size : Nat) := by rw [HTS.out]; exact hfull.2
        have hrw : rewD room size A rs = (A, 8) := by unfold rewD; rw [if_neg (by rw [HE0.out]; simp), if_pos hfull]
        have HRW := Lib.hid hrw
        clear hfull hrw
        go_wp2_with fail
        go_ret
        rw [HRW.out]
        exact ⟨rfl, (HDD.out.next HBW.out).mono (fun k hk => .inl hk) (fun k hk => hk.elim (HDD.out.newG k) fun e => Nat.le_trans HDD.out.below.size e), Heap.Touch.ofBelow HBW.out⟩
      · have hff : ¬ (1 : Int) < (k : Nat) ∨ ((1 : Int) < (k : Nat) ∧ ¬ size < (T.size : Nat)) := by
          rw [HTS.out]
          rw [HN.out] at hfull
          omega
        have hrw : rewD room size A rs = if (appD room A ((lastD A).1 + 1) (textsL rs)).2 ≠ 0 then (A, (appD room A ((lastD A).1 + 1) (textsL rs)).2) else ([⟨(lastD A).1 + 1, textsL rs, (textsL rs).length⟩], 0) := by
          unfold rewD; rw [if_neg (by rw [HE0.out]; simp), if_neg hfull]
        have HRW := Lib.hid hrw
        have HTT := Lib.hid (show (⟨(textsL rs).toArray⟩ : ByteArray) = T by rw [← HT.out])
        clear hfull hrw
        have hd1 := HDD.out.next HBW.out
        obtain ⟨v1, h1, h2, h3⟩ := hd1.mem
        obtain ⟨c0, c1, cf⟩ := drawCells h1
        obtain ⟨L, hL⟩ : ∃ L, A.length = L := ⟨_, rfl⟩
        have hL20 : L ≤ 20 := by rw [← hL]; exact HDD.out.right.few
        rw [hL] at h2
        obtain ⟨va, vc, rfl⟩ := h2.slice
        have hra := rew_app (room := room) (A := A) (T := textsL rs) HDD.out.right.sorted
        have HRA0 := Lib.hid fun h => (hra h).1
        cases hla : A.getLast? with
        | none =>
          have hld : (lastD A).1 + 1 = 0 := by unfold lastD; rw [hla]; rfl
          have hA0 := last_none hla
          have hL0 : L = 0 := by rw [← hL, hA0]; rfl
          subst hL0
          have HRA := HRA0
          rw [hld] at HRA
          have HLD := Lib.hid hld
          have HDW := Lib.hid hd1
          have HBX := HBW
          clear h1 h2 h3 hL hd1 hra hla hld hA0 HRA0
          go_upto_region 9 with fail
          go_cut [41] from 33 to 41 (fun s41 wx => s41 = .bool false ∧ wr = wx)
          case first =>
            rcases hff with h1 | ⟨h1, h2⟩
            · go_wp2_with fail
              go_meet
              exact ⟨rfl, rfl⟩
            · go_wp2_with fail
              go_meet
              exact ⟨rfl, rfl⟩
          case rest =>
          obtain ⟨rfl, rfl⟩ := hcut
          clear hff
          have hap := append_drw HDW.out 0 T (by omega)
          rw [HT.out] at hap
          have HAP := Lib.hid hap
          clear hap
          go_wp2_with fail
          refine HAP.out.mono ?_
          rintro e w3 ⟨rfl, hd3, ht3⟩
          have HT3 := Lib.hid ((Heap.Touch.ofBelow HBX.out).after ht3)
          by_cases hok : (appD room A 0 (textsL rs)).2 = 0
          · have hrw := HRW.out
            rw [HLD.out] at hrw
            rw [if_neg (by show ¬ (appD room A 0 (textsL rs)).2 ≠ 0; simp [hok])] at hrw
            have hap1 := HRA.out hok
            rw [hap1] at hd3
            rw [hok]
            obtain ⟨v3, h1, h2, h3⟩ := hd3.mem
            obtain ⟨e0, e1, ef⟩ := drawCells h1
            have hE3 := heap_lt h1
            obtain ⟨w4, hw4⟩ : ∃ w4, w4 = (w3.setCell ⟨E, 1, none⟩ (.slice (some ⟨w3.heap.size, 0, none⟩) 1 1)).alloc (.cells #[.int .i64 0, .int .i64 (T.size : Nat), .string T] 101) := ⟨_, rfl⟩
            have hHE := HDD.out.gE
            have HF := Lib.hid (show LogPost W G E room w ([⟨0, textsL rs, (textsL rs).length⟩], 0) (.returned (.int .i64 ((0 : Nat) : Int))) w4 from by
              have htS : Heap.Touch (fun k => k = E) w3 (w3.setCell ⟨E, 1, none⟩ (.slice (some ⟨w3.heap.size, 0, none⟩) 1 1)) := Heap.Touch.setCell (F := fun k => k = E) (p := ⟨E, 1, none⟩) (Heap.Touch.refl _ w3) (.inl rfl) _
              have hES := heap_setCell_same w3 E 1 _ _ (.slice (some ⟨w3.heap.size, 0, none⟩) 1 1) h1
              have hzS : (w3.setCell ⟨E, 1, none⟩ (.slice (some ⟨w3.heap.size, 0, none⟩) 1 1)).heap.size = w3.heap.size := by simp [World.setCell]
              have hE4 : w4.heap[E]? = some (.cells #[.int .i64 room, .slice (some ⟨w3.heap.size, 0, none⟩) 1 1] 84 (0, 0)) := by
                rw [hw4, Below.heap_alloc _ _ _ (by rw [hzS]; exact hE3), hES]; rfl
              have hB4 : w4.heap[w3.heap.size]? = some (.cells #[.int .i64 0, .int .i64 (T.size : Nat), .string T] 101 (0, 0)) := by
                have := heap_alloc_new (w3.setCell ⟨E, 1, none⟩ (.slice (some ⟨w3.heap.size, 0, none⟩) 1 1)) (.cells #[.int .i64 0, .int .i64 (T.size : Nat), .string T] 101)
                rw [hzS] at this
                rw [hw4]; exact this
              have ht4 : Heap.Touch (fun k => k = E) w3 w4 := by
                rw [hw4]
                exact htS.alloc _
              have htt : Heap.Touch G w w4 := HT3.out.after (ht4.mono fun k _ e => by subst e; exact hHE)
              have hsz3 := HT3.out.size
              have hWn := HDD.out.below
              refine ⟨rfl, ⟨right_one hd3.right _ rfl rfl rfl, hWn.trans (htt.below hWn.size HDD.out.newG), fun k hk => hk.elim (HDD.out.newG k) fun e => Nat.le_trans hWn.size e, .inl hHE, _, hE4, ?_, fun k hk => ?_⟩, htt⟩
              · refine ⟨rfl, .inr ⟨w3.heap.size, 0, 1, _, rfl, hB4, Nat.le_refl _, by decide, by simp, ?_⟩⟩
                simp [plsV, cells, HTS.out, HTT.out]
              · simp [own, Value.ownBlock] at hk
                exact .inr (by omega))
            have HRW2 := Lib.hid hrw
            clear hd3 ht3 HAP hap1 h1 h2 h3 hrw hHE hok
            go_wp2_with fail
            rw [← hw4]
            go_ret
            rw [HRW2.out]
            exact HF.out
          · have hrw := HRW.out
            rw [HLD.out] at hrw
            rw [if_pos (by exact hok)] at hrw
            have hfa := app_fail hok
            rw [hfa] at hd3
            have HF := Lib.hid (show LogPost W G E room w (A, (appD room A 0 (textsL rs)).2) (.returned (.int .i64 ((appD room A 0 (textsL rs)).2 : Nat))) w3 from LogPost.of (w0 := w) HDD.out (Heap.Touch.ofBelow HBX.out) ⟨rfl, hd3, ht3⟩)
            have HRW2 := Lib.hid hrw
            clear hd3 ht3 HAP hfa hrw
            generalize (appD room A 0 (textsL rs)).2 = C at *
            have hC : ¬ (C : Int) = 0 := by omega
            go_wp2_with fail
            go_ret
            rw [HRW2.out]
            exact HF.out
        | some p =>
          obtain ⟨hmem, hpos, hget⟩ := last_some hla
          have hpn := HDD.out.right.num p hmem
          rw [hL] at hpos hget
          obtain ⟨g, off, rfl⟩ : ∃ g off, va = some ⟨g, off, none⟩ := by
            rcases h2.2 with ⟨_, e0⟩ | ⟨g, off, cap, cur, e, _⟩
            · omega
            · simp only [Value.slice.injEq] at e; exact ⟨g, off, e.1⟩
          obtain ⟨d0, d1, d2⟩ := cells_pull h2 (L - 1) p hget (by omega)
          have hnz : ¬ (L : Int) = 0 := by omega
          have hlz : (0 : Int) < (L : Nat) := by omega
          have hwp : IntKind.i64.wrap (p.n + 1) = p.n + 1 := IntWalk.i64_in _ (by omega)
          have hwl : IntKind.i64.wrap ((L : Int) - 1) = (L : Int) - 1 := IntWalk.i64_in _ (by omega)
          have hld : (lastD A).1 + 1 = p.n + 1 := by unfold lastD; rw [hla]
          have HRA := HRA0
          rw [hld] at HRA
          have HLD := Lib.hid hld
          have HDW0 := Lib.hid hd1
          clear h1 h2 h3 hL hd1 hra hla hld hmem hget d1 d2 HRA0
          go_upto_region 9 with fail
          go_cut [41] from 33 to 41 (fun s41 wx => s41 = .bool false ∧ wr = wx)
          case first =>
            rcases hff with h1 | ⟨h1, h2⟩
            · go_wp2_with fail
              go_meet
              exact ⟨rfl, rfl⟩
            · go_wp2_with fail
              go_meet
              exact ⟨rfl, rfl⟩
          case rest =>
          obtain ⟨rfl, rfl⟩ := hcut
          clear hff
          go_wp2_with fail
          go_quiet (fail)
          have HBX := Lib.hid (below_drewN HBW.out nq)
          have HDW := Lib.hid (HDW0.out.next (below_drewN (Below.refl _ _) nq))
          clear c0 c1 cf d0 hwp hwl
          have hap := append_drw HDW.out (p.n + 1) T (by omega)
          rw [HT.out] at hap
          have HAP := Lib.hid hap
          clear hap
          go_wp2_with fail
          refine HAP.out.mono ?_
          rintro e w3 ⟨rfl, hd3, ht3⟩
          have HT3 := Lib.hid ((Heap.Touch.ofBelow HBX.out).after ht3)
          by_cases hok : (appD room A (p.n + 1) (textsL rs)).2 = 0
          · have hrw := HRW.out
            rw [HLD.out] at hrw
            rw [if_neg (by show ¬ (appD room A (p.n + 1) (textsL rs)).2 ≠ 0; simp [hok])] at hrw
            have hap1 := HRA.out hok
            rw [hap1] at hd3
            rw [hok]
            obtain ⟨v3, h1, h2, h3⟩ := hd3.mem
            obtain ⟨e0, e1, ef⟩ := drawCells h1
            have hE3 := heap_lt h1
            obtain ⟨w4, hw4⟩ : ∃ w4, w4 = (w3.setCell ⟨E, 1, none⟩ (.slice (some ⟨w3.heap.size, 0, none⟩) 1 1)).alloc (.cells #[.int .i64 (p.n + 1), .int .i64 (T.size : Nat), .string T] 101) := ⟨_, rfl⟩
            have hHE := HDD.out.gE
            have HF := Lib.hid (show LogPost W G E room w ([⟨p.n + 1, textsL rs, (textsL rs).length⟩], 0) (.returned (.int .i64 ((0 : Nat) : Int))) w4 from by
              have htS : Heap.Touch (fun k => k = E) w3 (w3.setCell ⟨E, 1, none⟩ (.slice (some ⟨w3.heap.size, 0, none⟩) 1 1)) := Heap.Touch.setCell (F := fun k => k = E) (p := ⟨E, 1, none⟩) (Heap.Touch.refl _ w3) (.inl rfl) _
              have hES := heap_setCell_same w3 E 1 _ _ (.slice (some ⟨w3.heap.size, 0, none⟩) 1 1) h1
              have hzS : (w3.setCell ⟨E, 1, none⟩ (.slice (some ⟨w3.heap.size, 0, none⟩) 1 1)).heap.size = w3.heap.size := by simp [World.setCell]
              have hE4 : w4.heap[E]? = some (.cells #[.int .i64 room, .slice (some ⟨w3.heap.size, 0, none⟩) 1 1] 84 (0, 0)) := by
                rw [hw4, Below.heap_alloc _ _ _ (by rw [hzS]; exact hE3), hES]; rfl
              have hB4 : w4.heap[w3.heap.size]? = some (.cells #[.int .i64 (p.n + 1), .int .i64 (T.size : Nat), .string T] 101 (0, 0)) := by
                have := heap_alloc_new (w3.setCell ⟨E, 1, none⟩ (.slice (some ⟨w3.heap.size, 0, none⟩) 1 1)) (.cells #[.int .i64 (p.n + 1), .int .i64 (T.size : Nat), .string T] 101)
                rw [hzS] at this
                rw [hw4]; exact this
              have ht4 : Heap.Touch (fun k => k = E) w3 w4 := by
                rw [hw4]
                exact htS.alloc _
              have htt : Heap.Touch G w w4 := HT3.out.after (ht4.mono fun k _ e => by subst e; exact hHE)
              have hsz3 := HT3.out.size
              have hWn := HDD.out.below
              refine ⟨rfl, ⟨right_one hd3.right _ rfl rfl rfl, hWn.trans (htt.below hWn.size HDD.out.newG), fun k hk => hk.elim (HDD.out.newG k) fun e => Nat.le_trans hWn.size e, .inl hHE, _, hE4, ?_, fun k hk => ?_⟩, htt⟩
              · refine ⟨rfl, .inr ⟨w3.heap.size, 0, 1, _, rfl, hB4, Nat.le_refl _, by decide, by simp, ?_⟩⟩
                simp [plsV, cells, HTS.out, HTT.out]
              · simp [own, Value.ownBlock] at hk
                exact .inr (by omega))
            have HRW2 := Lib.hid hrw
            clear hd3 ht3 HAP hap1 h1 h2 h3 hrw hHE hok
            go_wp2_with fail
            rw [← hw4]
            go_ret
            rw [HRW2.out]
            exact HF.out
          · have hrw := HRW.out
            rw [HLD.out] at hrw
            rw [if_pos (by exact hok)] at hrw
            have hfa := app_fail hok
            rw [hfa] at hd3
            have HF := Lib.hid (show LogPost W G E room w (A, (appD room A (p.n + 1) (textsL rs)).2) (.returned (.int .i64 ((appD room A (p.n + 1) (textsL rs)).2 : Nat))) w3 from LogPost.of (w0 := w) HDD.out (Heap.Touch.ofBelow HBX.out) ⟨rfl, hd3, ht3⟩)
            have HRW2 := Lib.hid hrw
            clear hd3 ht3 HAP hfa hrw
            generalize (appD room A (p.n + 1) (textsL rs)).2 = C at *
            have hC : ¬ (C : Int) = 0 := by omega
            go_wp2_with fail
            go_ret
            rw [HRW2.out]
            exact HF.out
end
end Go.Proofs.YtidacfhdhdnidaaGreatDoor.Log

namespace Go.Proofs.YtidacfhdhdnidaaGreatDoor.Rec
open Go.RowKit Subj Pack Crc

set_option maxRecDepth 100000 in
theorem decoded_err (s : ByteArray) (n : Nat) (hn : n ≠ 0) (w : World) (hR : ∀ w, Calls Tryz.prog 154 #[.string s, .int .i64 1024] w fun e w' => e = .returned (.tuple #[.string ByteArray.empty, .int .i64 0, .int .i64 n]) ∧ w = w') :
    Calls Tryz.prog 111 #[.string s] w fun e w' => e = .returned (ErrV n) ∧ Below w.heap.size w w' := by
  have HR := Lib.hid hR; clear hR
  have h1 : ((n : Int) != 0) = true := by simp; omega
  go_enter Tryz.func111, Tryz.ntmps111
  go_wp2_with (go_at_call 154; refine (HR.out _).mono ?_; rintro e w' ⟨rfl, rfl⟩)
  go_returns
  exact ⟨errV_eq rfl n, by go_grown⟩

set_option maxRecDepth 100000 in
theorem decoded_short (s B : ByteArray) (k : Nat) (w : World) (hs : s.size ≤ 1048576) (hk : k ≤ s.size) (hlt : s.size < k + 4) (hR : ∀ w, Calls Tryz.prog 154 #[.string s, .int .i64 1024] w fun e w' => e = .returned (.tuple #[.string B, .int .i64 k, .int .i64 0]) ∧ w = w') :
    Calls Tryz.prog 111 #[.string s] w fun e w' => e = .returned (ErrV 6) ∧ Below w.heap.size w w' := by
  have HR := Lib.hid hR; clear hR
  go_enter Tryz.func111, Tryz.ntmps111
  go_wp2_with (go_at_call 154; refine (HR.out _).mono ?_; rintro e w' ⟨rfl, rfl⟩)
  go_returns
  exact ⟨errV_eq rfl 6, by go_grown⟩

theorem num4_horner (a b c d : UInt8) : (((d.toNat : Int) * 256 + c.toNat) * 256 + b.toNat) * 256 + a.toNat = (num4 a b c d : Nat) := by
  unfold num4; omega

theorem num4_lt (a b c d : UInt8) : num4 a b c d < 4294967296 := by
  have := a.toNat_lt; have := b.toNat_lt; have := c.toNat_lt; have := d.toNat_lt
  unfold num4; omega

set_option maxHeartbeats 2000000 in
set_option maxRecDepth 100000 in
theorem decoded_empty (s B : ByteArray) (hB : ((B.size : Int) == 0) = true) (hB2 : B.size ≤ 1024) (k : Nat) (w : World) (hs : s.size ≤ 1048576) (hlen : k + 4 ≤ s.size) (hq : (s.data.toList.drop k).take 4 = sum4 B.data.toList) (hR : ∀ w, Calls Tryz.prog 154 #[.string s, .int .i64 1024] w fun e w' => e = .returned (.tuple #[.string B, .int .i64 k, .int .i64 0]) ∧ w = w') :
    Calls Tryz.prog 111 #[.string s] w fun e w' => e = .returned (ErrV 7) ∧ Below w.heap.size w w' := by
  have HR := Lib.hid hR; clear hR
  have b0 := s[k].toNat_lt
  have b1 := s[k + 1].toNat_lt
  have b2 := s[k + 2].toNat_lt
  have b3 := s[k + 3].toNat_lt
  have hl := num4_lt s[k] s[k + 1] s[k + 2] s[k + 3]
  have HN := Lib.hid (num4_horner s[k] s[k + 1] s[k + 2] s[k + 3])
  have hd : num4 s[k] s[k + 1] s[k + 2] s[k + 3] = (crcL B.data.toList).toNat := (num4_le4 _ _ _ _ _ (crcL B.data.toList).isLt).1 (by rw [← take4 s k hlen]; exact hq)
  clear hq
  generalize num4 s[k] s[k + 1] s[k + 2] s[k + 3] = N at *
  have HS := Lib.hid fun w => rsum_any B w (by unfold maxLen; omega)
  rw [← hd] at HS
  clear hd
  go_enter Tryz.func111, Tryz.ntmps111
  go_wp2_with (go_at_call 154; refine (HR.out _).mono ?_; rintro e w' ⟨rfl, rfl⟩)
  refine wp_loop_rounds 5 ?_
  iterate 4 (rw [rounds_succ]; go_wp2_with fail)
  rw [HN.out]
  clear HN
  rw [rounds_succ]
  go_wp2_with fail
  refine (HS.out _).mono ?_
  rintro e w' ⟨rfl, rfl⟩
  go_wp2_with fail
  go_returns
  exact ⟨errV_eq rfl 7, by go_grown⟩

set_option maxHeartbeats 2000000 in
set_option maxRecDepth 100000 in
theorem decoded_wrong (s B : ByteArray) (k : Nat) (w : World) (hs : s.size ≤ 1048576) (hlen : k + 4 ≤ s.size) (hB : B.size ≤ 1024) (hq : (s.data.toList.drop k).take 4 ≠ sum4 B.data.toList)
    (hR : ∀ w, Calls Tryz.prog 154 #[.string s, .int .i64 1024] w fun e w' => e = .returned (.tuple #[.string B, .int .i64 k, .int .i64 0]) ∧ w = w') :
    Calls Tryz.prog 111 #[.string s] w fun e w' => e = .returned (ErrV 7) ∧ Below w.heap.size w w' := by
  have HR := Lib.hid hR; clear hR
  have b0 := s[k].toNat_lt
  have b1 := s[k + 1].toNat_lt
  have b2 := s[k + 2].toNat_lt
  have b3 := s[k + 3].toNat_lt
  have hl := num4_lt s[k] s[k + 1] s[k + 2] s[k + 3]
  have HN := Lib.hid (num4_horner s[k] s[k + 1] s[k + 2] s[k + 3])
  have HS := Lib.hid fun w => rsum_any B w (by unfold maxLen; omega)
  have hd : ((num4 s[k] s[k + 1] s[k + 2] s[k + 3] : Int) != ((crcL B.data.toList).toNat : Int)) = true := by
    have : ¬ num4 s[k] s[k + 1] s[k + 2] s[k + 3] = (crcL B.data.toList).toNat := fun h => hq (by rw [take4 s k hlen, (num4_le4 _ _ _ _ _ (crcL B.data.toList).isLt).2 h]; rfl)
    simp; omega
  clear hq
  generalize num4 s[k] s[k + 1] s[k + 2] s[k + 3] = N at *
  generalize (crcL B.data.toList).toNat = c at *
  go_enter Tryz.func111, Tryz.ntmps111
  go_wp2_with (go_at_call 154; refine (HR.out _).mono ?_; rintro e w' ⟨rfl, rfl⟩)
  refine wp_loop_rounds 5 ?_
  iterate 4 (rw [rounds_succ]; go_wp2_with fail)
  rw [HN.out]
  clear HN
  rw [rounds_succ]
  go_wp2_with fail
  refine (HS.out _).mono ?_
  rintro e w' ⟨rfl, rfl⟩
  go_wp2_with fail
  go_returns
  exact ⟨errV_eq rfl 7, by go_grown⟩

theorem knum (S S' : ByteArray) (b b' : Bool) (q : Int) (hS : S.size ≤ maxLen) (h1 : afterN S = S') (hc : (b && (rdN S.data.toList).2.2 == 0) = b') (hq : ((rdN S.data.toList).1 : Int) = q) (hb : b = true) :
    ∃ k e : Nat, (∀ w, Calls Tryz.prog 156 #[.string S] w fun r w' => r = .returned (.tuple #[.int .i64 q, .int .i64 k, .int .i64 e]) ∧ w = w') ∧ S.extract k S.size = S' ∧ ((e : Int) == 0) = b' ∧ k ≤ S.size := by
  refine ⟨(rdN S.data.toList).2.1, (rdN S.data.toList).2.2, fun w => ?_, h1, ?_, ?_⟩
  · rw [← hq]; exact rreadNumber_any S w hS
  · rw [beq0, ← hc, hb, Bool.true_and]
  · have := rdN_le S.data.toList
    have hl : S.data.toList.length = S.size := by simp
    omega

theorem ktext (S S' : ByteArray) (b b' : Bool) (T : ByteArray) (hS : S.size ≤ maxLen) (h1 : afterT S = S') (hc : (b && (rdT S.data.toList 1024).2.2 == 0) = b') (hq : (⟨(rdT S.data.toList 1024).1.toArray⟩ : ByteArray) = T) (hb : b = true) :
    ∃ k e : Nat, (∀ w, Calls Tryz.prog 154 #[.string S, .int .i64 1024] w fun r w' => r = .returned (.tuple #[.string T, .int .i64 k, .int .i64 e]) ∧ w = w') ∧ S.extract k S.size = S' ∧ ((e : Int) == 0) = b' ∧ k ≤ S.size := by
  refine ⟨(rdT S.data.toList 1024).2.1, (rdT S.data.toList 1024).2.2, fun w => ?_, h1, ?_, ?_⟩
  · rw [← hq]; exact rreadText_any S 1024 w hS
  · rw [beq0, ← hc, hb, Bool.true_and]
  · have := rdT_le S.data.toList 1024
    have hl : S.data.toList.length = S.size := by simp
    omega
end Go.Proofs.YtidacfhdhdnidaaGreatDoor.Rec

namespace Go.Proofs.YtidacfhdhdnidaaGreatDoor.Rec
open Go.RowKit Subj Pack Crc

theorem Read.down {S0 S1 S2 S3 S4 S5 : ByteArray} {b1 b2 b3 b4 b5 : Bool} {q t : Int} {T1 T2 T3 : ByteArray} (h : Read S0 S1 S2 S3 S4 S5 b1 b2 b3 b4 b5 q t T1 T2 T3) :
    b1 = false ∨ b2 = false ∨ b3 = false ∨ b4 = false → b5 = false := by
  obtain ⟨_, _, _, _, _, _, c2, c3, c4, c5, _⟩ := h
  rintro (h | h | h | h) <;> subst h <;> simp at c2 c3 c4 c5 <;> subst_vars <;> simp_all

set_option maxHeartbeats 8000000 in
set_option maxRecDepth 100000 in
theorem decoded_good (s B : ByteArray) (k : Nat) (w : World) (hs : s.size ≤ 1048576) (hlen : k + 4 ≤ s.size) (hB : B.size ≤ 1024) (hB0 : 0 < B.size) (hq : (s.data.toList.drop k).take 4 = sum4 B.data.toList)
    (hR : ∀ w, Calls Tryz.prog 154 #[.string s, .int .i64 1024] w fun e w' => e = .returned (.tuple #[.string B, .int .i64 k, .int .i64 0]) ∧ w = w') :
    Calls Tryz.prog 111 #[.string s] w fun e w' => e = .returned (decV (bodyV B k s.data.toList)) ∧ Below w.heap.size w w' := by
  have HR := Lib.hid hR; clear hR
  have hB1 : ((B.size : Int) == 0) = false := by rw [beq_eq_false_iff_ne]; omega
  have hBl : B.data.toList = B[0] :: (B.extract 1 B.size).data.toList := by
    have h1 := List.drop_eq_getElem_cons (l := B.data.toList) (i := 0) (by simpa using hB0)
    have h2 : (B.extract 1 B.size).data.toList = B.data.toList.drop 1 := by
      rw [ByteArray.data_extract, Array.toList_extract]
      simp
      exact List.take_of_length_le (by simp)
    rw [h2]
    exact h1
  have hz0 : (B.extract 1 B.size).size ≤ 1024 := by rw [ByteArray.size_extract]; omega
  have hgood : bodyV B k s.data.toList = bodyR B[0] (B.extract 1 B.size).data.toList (k + 4) := by
    unfold bodyV
    rw [if_neg (by simpa using hq)]
    show (match B.data.toList with | [] => _ | x :: rest => _) = _
    rw [hBl]
  have hd : num4 s[k] s[k + 1] s[k + 2] s[k + 3] = (crcL B.data.toList).toNat := (num4_le4 _ _ _ _ _ (crcL B.data.toList).isLt).1 (by rw [← take4 s k hlen]; exact hq)
  have HS := Lib.hid fun w => rsum_any B w (by unfold maxLen; omega)
  rw [← hd] at HS
  clear hd hBl hq
  have HN := Lib.hid (num4_horner s[k] s[k + 1] s[k + 2] s[k + 3])
  have y0 := s[k].toNat_lt
  have y1 := s[k + 1].toNat_lt
  have y2 := s[k + 2].toNat_lt
  have y3 := s[k + 3].toNat_lt
  have hl := num4_lt s[k] s[k + 1] s[k + 2] s[k + 3]
  generalize num4 s[k] s[k + 1] s[k + 2] s[k + 3] = N at *
  obtain ⟨S1, S2, S3, S4, S5, b1, b2, b3, b4, b5, q, t, T1, T2, T3, hRd⟩ := read_all (B.extract 1 B.size)
  obtain ⟨hs1, hs2, hs3, hs4, ht1, ht2, ht3⟩ := hRd.sizes
  have HC := Lib.hid fun W => refRecord_any (B[0].toNat : Int) q t T1 T2 T3 W (by omega) (by omega) (by omega)
  unfold recA at HC
  have hnot : (b5 = false ∨ S5.toList ≠ [] ∨ recErr (rcOf (B[0].toNat : Int) q t T1 T2 T3) ≠ 0) → decV (bodyV B k s.data.toList) = ErrV 7 := fun hn => by
    rw [hgood]
    unfold bodyR
    rw [hRd.fields, if_neg]
    · rfl
    · rintro ⟨h1, h2, h3⟩
      rcases hn with hn | hn | hn
      · rw [hn] at h1; cases h1
      · exact hn ((empty_iff S5).1 h2)
      · exact hn h3
  have hyes : b5 = true → S5.toList = [] → recErr (rcOf (B[0].toNat : Int) q t T1 T2 T3) = 0 →
      decV (bodyV B k s.data.toList) = .tuple #[.agg #[.int .i64 (B[0].toNat : Int), .int .i64 q, .int .i64 t, .string T1, .string T2, .string T3], .int .i64 ((k : Int) + 4), .int .i64 0] := fun h1 h2 h3 => by
    rw [hgood]
    unfold bodyR
    rw [hRd.fields, if_pos ⟨h1, (empty_iff S5).2 h2, h3⟩]
    rfl
  have HNOT := Lib.hid hnot
  have HYES := Lib.hid hyes
  have HDN := Lib.hid hRd.down
  clear hnot hyes hgood
  generalize recErr (rcOf (B[0].toNat : Int) q t T1 T2 T3) = er at *
  have hB64 : wrap64 (B[0].toNat : Int) = (B[0].toNat : Int) := wrap64_small _ (by have := B[0].toNat_lt; omega)
  generalize hS0 : B.extract 1 B.size = S0 at *
  have M1 := Lib.hid (knum S0 S1 true b1 q (by unfold maxLen; omega) hRd.s1 hRd.c1 hRd.q)
  have M2 := Lib.hid (knum S1 S2 b1 b2 t (by unfold maxLen; omega) hRd.s2 hRd.c2 hRd.t)
  have M3 := Lib.hid (ktext S2 S3 b2 b3 T1 (by unfold maxLen; omega) hRd.s3 hRd.c3 hRd.t1)
  have M4 := Lib.hid (ktext S3 S4 b3 b4 T2 (by unfold maxLen; omega) hRd.s4 hRd.c4 hRd.t2)
  have M5 := Lib.hid (ktext S4 S5 b4 b5 T3 (by unfold maxLen; omega) hRd.s5 hRd.c5 hRd.t3)
  clear hRd
  obtain ⟨k1, n1, K1, x1, e1, z1⟩ := M1.out rfl
  have K1 := Lib.hid K1
  go_enter Tryz.func111, Tryz.ntmps111
  go_wp2_with (go_at_call 154; refine (HR.out _).mono ?_; rintro e w' ⟨rfl, rfl⟩)
  refine wp_loop_rounds 5 ?_
  iterate 4 (rw [rounds_succ]; go_wp2_with fail)
  rw [HN.out]
  clear HN y0 y1 y2 y3
  rw [rounds_succ]
  go_wp2_with fail
  refine (HS.out _).mono ?_
  rintro e w' ⟨rfl, rfl⟩
  clear HS HR
  go_wp2_with fail
  refine wp_loop_rounds 6 ?_
  rw [rounds_succ]
  go_wp2_with fail
  refine (K1.out _).mono ?_
  rintro e w' ⟨rfl, rfl⟩
  go_wp2_with fail
  clear K1 x1 z1
  cases b1
  · have he := HNOT.out (.inl (HDN.out (by simp)))
    have HE := Lib.hid he; clear he
    clear M2 HNOT HYES HDN HC
    rw [rounds_succ]
    go_wp2_with fail
    rw [HE.out]
    go_returns
    exact ⟨errV_eq rfl 7, by go_grown⟩
  obtain ⟨k2, n2, K2, x2, e2, z2⟩ := M2.out rfl
  have K2 := Lib.hid K2
  clear M2
  rw [rounds_succ]
  go_wp2_with fail
  refine (K2.out _).mono ?_
  rintro e w' ⟨rfl, rfl⟩
  go_wp2_with fail
  clear K2 x2 z2
  cases b2
  · have he := HNOT.out (.inl (HDN.out (by simp)))
    have HE := Lib.hid he; clear he
    clear M3 HNOT HYES HDN HC
    rw [rounds_succ]
    go_wp2_with fail
    rw [HE.out]
    go_returns
    exact ⟨errV_eq rfl 7, by go_grown⟩
  obtain ⟨k3, n3, K3, x3, e3, z3⟩ := M3.out rfl
  have K3 := Lib.hid K3
  clear M3
  rw [rounds_succ]
  go_wp2_with fail
  refine (K3.out _).mono ?_
  rintro e w' ⟨rfl, rfl⟩
  go_wp2_with fail
  clear K3 x3 z3
  cases b3
  · have he := HNOT.out (.inl (HDN.out (by simp)))
    have HE := Lib.hid he; clear he
    clear M4 HNOT HYES HDN HC
    rw [rounds_succ]
    go_wp2_with fail
    rw [HE.out]
    go_returns
    exact ⟨errV_eq rfl 7, by go_grown⟩
  obtain ⟨k4, n4, K4, x4, e4, z4⟩ := M4.out rfl
  have K4 := Lib.hid K4
  clear M4
  rw [rounds_succ]
  go_wp2_with fail
  refine (K4.out _).mono ?_
  rintro e w' ⟨rfl, rfl⟩
  go_wp2_with fail
  clear K4 x4 z4
  cases b4
  · have he := HNOT.out (.inl (HDN.out (by simp)))
    have HE := Lib.hid he; clear he
    clear M5 HNOT HYES HDN HC
    rw [rounds_succ]
    go_wp2_with fail
    rw [HE.out]
    go_returns
    exact ⟨errV_eq rfl 7, by go_grown⟩
  obtain ⟨k5, n5, K5, x5, e5, z5⟩ := M5.out rfl
  have K5 := Lib.hid K5
  clear M5
  rw [rounds_succ]
  go_wp2_with fail
  refine (K5.out _).mono ?_
  rintro e w' ⟨rfl, rfl⟩
  go_wp2_with fail
  clear K5 x5 z5
  rw [rounds_succ]
  go_wp2_with fail
  · refine (HC.out _).mono ?_
    rintro e w' ⟨rfl, hb'⟩
    have hcc := fun j => hb'.cell (p := ⟨w.heap.size, j, none⟩) (by go_size)
    have hcd := fun j => hb'.cell (p := ⟨w.heap.size + 1, j, none⟩) (by go_size)
    have hff := fun j => hb'.frozen (p := ⟨w.heap.size, j, none⟩) (by go_size)
    have hbb : Below w.heap.size w w' := by
      refine Below.trans ?_ (hb'.mono ?_)
      · go_grown
      · go_size
    have HBB := Lib.hid hbb
    clear hb' hbb
    simp [go_sem] at hcc hcd
    obtain ⟨c0, c1, c2, c3, c4, c5⟩ := cells6 hcc
    obtain ⟨d0, d1, d2, d3, d4, d5⟩ := cells6 hcd
    clear hcc hcd
    go_wp2
    · have he := HNOT.out (.inr (.inr (by simpa using (by assumption : ((er : Int) != 0) = true))))
      rw [he]
      refine bodyPost_ret (v := ErrV 7) (by simp [results, Tryz.results111, go_sem, c0, c1, c2, c3, c4, c5]; rfl) rfl ⟨rfl, ?_⟩
      have hbb := HBB.out
      go_grown
    · have he := HYES.out (by assumption) (by assumption) (by simpa using (by assumption : ((er : Int) != 0) = false))
      rw [he]
      refine bodyPost_ret (by simp [results, Tryz.results111, go_sem, c0, c1, c2, c3, c4, c5]) rfl ⟨rfl, ?_⟩
      have hbb := HBB.out
      go_grown
  · have he := HNOT.out (.inr (.inl (by assumption)))
    rw [he]
    go_returns
    exact ⟨errV_eq rfl 7, by go_grown⟩
  · have he := HNOT.out (.inl (by simpa using (by assumption : ¬ b5 = true)))
    rw [he]
    go_returns
    exact ⟨errV_eq rfl 7, by go_grown⟩

theorem decoded_any (s : ByteArray) (w : World) (hs : s.size ≤ 1048576) :
    Calls Tryz.prog 111 #[.string s] w fun e w' => e = .returned (decV (decL s.data.toList)) ∧ Below w.heap.size w w' := by
  have hl : s.data.toList.length = s.size := by simp
  have hR := fun w => rreadText_any s 1024 w (by unfold maxLen; omega)
  rcases rdT_cases s.data.toList 1024 with ⟨t, k, e, h1, h2, h3, h4, h5⟩ | e | e
  · rw [e] at hR
    rw [hl] at h3
    have hR' : ∀ w, Calls Tryz.prog 154 #[.string s, .int .i64 1024] w fun e w' => e = .returned (.tuple #[.string ⟨t.toArray⟩, .int .i64 k, .int .i64 0]) ∧ w = w' := hR
    have hb2 : (⟨t.toArray⟩ : ByteArray).size ≤ 1024 := by rw [size_list]; omega
    by_cases hlen : k + 4 ≤ s.size
    · rw [decL_body e (by omega)]
      by_cases hq : (s.data.toList.drop k).take 4 = sum4 t
      · by_cases ht : t = []
        · have hz : (((⟨t.toArray⟩ : ByteArray).size : Int) == 0) = true := by rw [size_list, ht]; rfl
          refine (decoded_empty s ⟨t.toArray⟩ hz hb2 k w hs hlen hq hR').mono fun e w' ⟨a, b⟩ => ⟨?_, b⟩
          rw [a, ← decV_zero]
          subst ht
          unfold bodyV
          split <;> rfl
        · have hb3 : 0 < (⟨t.toArray⟩ : ByteArray).size := by rw [size_list]; exact List.length_pos_iff.2 ht
          exact decoded_good s ⟨t.toArray⟩ k w hs hlen hb2 hb3 hq hR'
      · refine (decoded_wrong s ⟨t.toArray⟩ k w hs hlen hb2 hq hR').mono fun e w' ⟨a, b⟩ => ⟨?_, b⟩
        rw [a, ← decV_zero]
        unfold bodyV
        rw [if_pos hq]
    · have hd : decL s.data.toList = (Rc.zero, 0, 6) := by
        unfold decL
        rw [e]
        simp only [ne_eq, not_true_eq_false, if_false]
        rw [if_pos (by omega)]
      rw [hd]
      exact decoded_short s ⟨t.toArray⟩ k w hs h3 (by omega) hR'
  · rw [e] at hR
    have hd : decL s.data.toList = (Rc.zero, 0, 6) := by unfold decL; rw [e]; rfl
    rw [hd]
    exact decoded_err s 6 (by decide) w hR
  · rw [e] at hR
    have hd : decL s.data.toList = (Rc.zero, 0, 7) := by unfold decL; rw [e]; rfl
    rw [hd]
    exact decoded_err s 7 (by decide) w hR
end Go.Proofs.YtidacfhdhdnidaaGreatDoor.Rec
