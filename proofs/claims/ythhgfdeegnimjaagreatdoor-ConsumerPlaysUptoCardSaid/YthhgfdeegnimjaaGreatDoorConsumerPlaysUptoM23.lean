/- Parts of the proof, joined: The reference's chest in memory; its Try, walked. -/
import Derived.Test.YthhgfdeegnimjaaGreatDoorConsumerPlaysUptoM17
import Derived.Test.YthhgfdeegnimjaaGreatDoorConsumerPlaysUptoM22
import Derived.WalkKit
namespace Go.Proofs.YthhgfdeegnimjaaGreatDoor.Sto
open Go.RowKit Heap
open Subj (Tok ML pieces takes)
open Rec (Rc recErr far recA rcOf refRecord_any)
open Idx (Ents ptrV)
open Go.Maps Go.WideMaps

/-- The chest at C, in memory: a list of messages and the last number. -/
structure ChAt (W : World) (C : Nat) (v : Value) (L : List Rc) (last : Int) (w : World) : Prop where
  cell : w.heap[C]? = some (.cells #[v, .int .i64 last] 31 (0, 0))
  row : Row w 33 6 v L.length (recsV L)
  old : W.heap.size ≤ C
  mine : ∀ k, own v k → W.heap.size ≤ k ∧ k ≠ C
  below : Below W.heap.size W w

theorem lawS : Keyed Tryz.prog 9 := string_keyed Tryz.underlying9
theorem zeroI (w : World) : (zeroValue 3).run Tryz.prog w = .ok (.int .i64 0) w := by kernel_rfl

section
variable {W w w1 : World} {C : Nat} {v : Value} {L : List Rc} {last : Int} {I : Ents}

theorem ChAt.next (h : ChAt W C v L last w) (hb : Below w.heap.size w w1) : ChAt W C v L last w1 :=
  ⟨(hb.block C (heap_lt h.cell)).trans h.cell, h.row.kept fun k _ hk => hb.block k hk, h.old, h.mine, h.below.trans (hb.mono h.below.size)⟩

theorem twoC {C : Nat} {w : World} {t : TypeId} {a0 a1 : Value} (h : w.heap[C]? = some (.cells #[a0, a1] t (0, 0))) :
    w.cell? ⟨C, 0, none⟩ = some a0 ∧ w.cell? ⟨C, 1, none⟩ = some a1 ∧ ∀ j, w.frozen? ⟨C, j, none⟩ = false := by
  refine ⟨?_, ?_, fun j => frozen_of_row w C j _ _ h⟩
  · rw [cell_of_row w C 0 _ _ _ h]; rfl
  · rw [cell_of_row w C 1 _ _ _ h]; rfl

theorem hasSeq_step {k : Nat} {p : Rc} (h : L[k]? = some p) (q : Int) : hasSeq (L.take (k + 1)) q = (hasSeq (L.take k) q || decide (p.seq = q)) := by
  unfold hasSeq
  rw [List.take_add_one, h, List.any_append]
  simp [BEq.beq]

theorem take_snoc {k : Nat} {p : Rc} (h : L[k]? = some p) : L.take (k + 1) = L.take k ++ [p] := by
  rw [List.take_add_one, h]; rfl

set_option maxHeartbeats 4000000 in
set_option maxRecDepth 100000 in
theorem try_ch (h : ChAt W C v L last w) (hR : Right L last I) (hds : dist L ≤ 100) (r : Rc) (hf : Fits r) :
    Calls Tryz.prog 56 #[.pointer (some ⟨C, 0, none⟩), recV r] w fun e w' => e = .returned (.int .i64 (tryD L last r : Nat)) ∧ Below w.heap.size w w' := by
  obtain ⟨s, hd, d, hp⟩ := parts r
  unfold recV
  rw [hp.s1, hp.h1, hp.d1]
  obtain ⟨T, hT⟩ : ∃ T, tryD L last r = T := ⟨_, rfl⟩
  rw [hT]
  have HT := Lib.hid hT
  clear hT
  obtain ⟨n, hnL⟩ : ∃ n, L.length = n := ⟨_, rfl⟩
  have HNL := Lib.hid hnL
  have hn200 : n ≤ 200 := by rw [← hnL]; exact hR.few
  obtain ⟨w1, hw1⟩ : ∃ w1, w1 = w.alloc (.cells #[.int .i64 r.kind, .int .i64 r.seq, .int .i64 r.time, .string s, .string hd, .string d] 33) := ⟨_, rfl⟩
  have hb1 : Below w.heap.size w w1 := by rw [hw1]; exact (Below.refl _ _).alloc (Nat.le_refl _) _
  have hea : w1.heap[w.heap.size]? = some (.cells #[.int .i64 r.kind, .int .i64 r.seq, .int .i64 r.time, .string s, .string hd, .string d] 33 (0, 0)) := by rw [hw1]; exact heap_alloc_new w _
  obtain ⟨bx, hbx⟩ : ∃ bx, w.heap.size = bx := ⟨_, rfl⟩
  rw [hbx] at hea
  have hck := refRecord_any r.kind r.seq r.time s hd d w1 (by rw [hp.s3]; exact hf.s) (by rw [hp.h3]; exact hf.h) (by rw [hp.d3]; exact hf.d)
  unfold recA at hck
  rw [hp.rc] at hck
  have hs1m : s.size ≤ 1048576 := by rw [hp.s3]; exact hf.s
  obtain ⟨q0, q1, q2, q3, q4, q5⟩ := sixC hea
  have hbxl := heap_lt hea
  have hmm := @run_makeMap Tryz.prog
  have HCK := Lib.hid hck; have HC := Lib.hid h; have HB1 := Lib.hid hb1; have HEA := Lib.hid hea; have HBX := Lib.hid hbx; have HP := Lib.hid hp; have HR := Lib.hid hR
  clear h hck hb1 hea hbx hp hf hR hnL
  by_cases her : recErr r = 0
  · rw [her] at HCK
    have HER := Lib.hid her
    clear her
    go_enter Tryz.func56, Tryz.ntmps56
    go_upto_region 1 with fail
    rw [← hw1, HBX.out]
    clear hw1
    go_wp2_with fail
    refine HCK.out.mono ?_
    rintro e w2 ⟨rfl, hb2⟩
    have HB2 := Lib.hid (HB1.out.trans (hb2.mono HB1.out.size))
    have HEA2 := Lib.hid ((hb2.block bx hbxl).trans HEA.out)
    have hm0 := World.ownsMap_made (H := Nat) w2 Tryz.prog 9 (plainElem Tryz.prog 3)
    obtain ⟨w3, hw3⟩ : ∃ w3, w3 = w2.alloc (.map #[] 0) := ⟨_, rfl⟩
    have hb3 : Below w2.heap.size w2 w3 := by rw [hw3]; exact (Below.refl _ _).alloc (Nat.le_refl _) _
    rw [← hw3] at hm0
    have HMS := Lib.hid (show w.heap.size ≤ w2.heap.size ∧ bx < w2.heap.size from ⟨HB2.out.size, heap_lt HEA2.out⟩)
    have HB3 := Lib.hid (HB2.out.trans (hb3.mono HB2.out.size))
    have HEA3 := Lib.hid ((hb3.block bx HMS.out.2).trans HEA2.out)
    obtain ⟨mb, hmb⟩ : ∃ mb, w2.heap.size = mb := ⟨_, rfl⟩
    rw [hmb] at hm0 HMS
    have HM0 := Lib.hid (show ∃ D : DataW Nat, w3.ownsMap Tryz.prog 9 (plainElem Tryz.prog 3) mb 0 D ∧ Told D (L.take 0) from ⟨_, hm0, told_nil⟩)
    have HMB := Lib.hid hmb
    clear hb2 hb3 hm0 hmb HCK HEA HB1 HB2 HEA2 hbxl q0 q1 q2 q3 q4 q5
    go_upto_region 5 with fail
    rw [← hw3, HMB.out]
    clear hw3 hmm
    go_wp2_with fail
    go_loopw [7, 8] (fun th i wr => ∃ k : Nat, k ≤ n ∧ i = .int .i64 k ∧ th = .bool (hasSeq (L.take k) r.seq) ∧ Hid (∃ D : DataW Nat, wr.ownsMap Tryz.prog 9 (plainElem Tryz.prog 3) mb k D ∧ Told D (L.take k)) ∧ Hid (Below w.heap.size w wr) ∧
      Hid (wr.heap[bx]? = some (.cells #[.int .i64 r.kind, .int .i64 r.seq, .int .i64 r.time, .string s, .string hd, .string d] 33 (0, 0)))) (fun _ i _ => n - (intOf i).toNat)
    case atStart => exact ⟨0, Nat.zero_le _, rfl, rfl, HM0, HB3, HEA3⟩
    case round =>
      obtain ⟨k, hk, rfl, rfl, HM, HB, HE⟩ := hrel
      clear HM0 HB3 HEA3
      obtain ⟨B, hB⟩ : ∃ B, hasSeq (L.take k) r.seq = B := ⟨_, rfl⟩
      rw [hB]
      have HBB := Lib.hid hB
      clear hB
      have HCr := Lib.hid (HC.out.next HB.out)
      obtain ⟨c0, c1, cf⟩ := twoC HCr.out.cell
      have hlt := heap_lt HCr.out.cell
      obtain ⟨va, vc, hv⟩ := HCr.out.row.slice
      rw [HNL.out] at hv
      subst hv
      obtain ⟨q0, q1, q2, q3, q4, q5⟩ := sixC HE.out
      have hbxl := heap_lt HE.out
      by_cases hlt2 : k < n
      · have hltz : (k : Int) < n := by omega
        obtain ⟨p, hp⟩ : ∃ p, L[k]? = some p := ⟨_, List.getElem?_eq_getElem (by rw [HNL.out]; exact hlt2)⟩
        rcases HCr.out.row.2 with ⟨_, h0⟩ | ⟨g, off, cap, cur, ev, hg, _⟩
        · rw [HNL.out] at h0; omega
        rw [HNL.out] at ev
        simp only [Value.slice.injEq, true_and] at ev
        obtain ⟨rfl, rfl⟩ := ev
        have hrow := HCr.out.row
        rw [HNL.out] at hrow
        obtain ⟨m0, m1, m2, m3, m4, m5⟩ := cells_rec hrow k p hp hlt2
        obtain ⟨sp, hdp, dp, hpp⟩ := parts p
        rw [hpp.s1] at m3
        have hgp := HR.out.good p (List.mem_of_getElem? hp)
        obtain ⟨D, hown, htold⟩ := HM.out
        have hkey : keyOf Tryz.prog 9 (.string sp) = some (.string p.subj) := by
          rw [keyOf_string_mk Tryz.underlying9 (by rw [hpp.s3]; have := (good_parts hgp.1 hgp.2).2.1; unfold maxLen; omega), hpp.s2]
        obtain ⟨c, hrun, hat, _⟩ := hown.lookup_int lawS Tryz.underlying241 Tryz.underlying3 (zeroI _) hkey
        rw [told_at htold] at hat
        simp only [DataW.lit.injEq, Lit.int.injEq, true_and] at hat
        have hcl : cntR (L.take k) p.subj ≤ 200 := by
          have h1 : cntR (L.take k) p.subj ≤ (L.take k).length := List.countP_le_length
          rw [List.length_take] at h1; omega
        have hc2 : 0 ≤ c ∧ c ≤ 200 := by omega
        have hwf : (Lit.int .i64 (c + 1)).wf = true := by simp [Lit.wf, IntKind.min, IntKind.max, IntKind.signed, IntKind.bits]; omega
        have HAT := Lib.hid hat; have HTO := Lib.hid htold; have HPL := Lib.hid hp; have HOW := Lib.hid hown
        clear hp hpp hgp hg hrow hat hcl htold m0 m2 m4 m5 hown
        go_wp2_with (first | (at_mapUpdate; refine wpList_mapUpdate_own _ rfl _ _ _ 241 rfl 9 3 lawS Tryz.underlying241 (plainElem Tryz.prog 3) mb k D rfl HOW.out (by unfold maxLen; omega) _ _ _ rfl rfl hkey _ [] (plainElem_int Tryz.underlying3 hwf) ?_))
        intro w4 hown4 hgrow4
        have HB4 := Lib.hid (HB.out.grown hgrow4 HB.out.size (fun j hj => by cases hj; exact HMS.out.1))
        have HE4 := Lib.hid ((hgrow4.block bx hbxl (by simp; have := HMS.out.2; omega)).trans HE.out)
        have HM4 := Lib.hid (show ∃ D : DataW Nat, w4.ownsMap Tryz.prog 9 (plainElem Tryz.prog 3) mb (k + 1) D ∧ Told D (L.take (k + 1)) from by
          refine ⟨_, hown4, ?_⟩
          rw [take_snoc HPL.out, ← HAT.out]
          exact told_put HTO.out p)
        have HC4 := Lib.hid (HC.out.next HB4.out)
        have hrow4 := HC4.out.row
        rw [HNL.out] at hrow4
        obtain ⟨y0, y1, y2, y3, y4, y5⟩ := cells_rec hrow4 k p HPL.out hlt2
        clear hown4 hgrow4 c0 c1 cf hlt q0 q1 q2 q3 q4 q5 hbxl m1 m3 hrun hrow4 HM HB HE HCr HOW HTO HAT y0 y2 y3 y4 y5
        obtain ⟨c0, c1, cf⟩ := twoC HC4.out.cell
        have hlt := heap_lt HC4.out.cell
        obtain ⟨q0, q1, q2, q3, q4, q5⟩ := sixC HE4.out
        have hbxl := heap_lt HE4.out
        have HNB := Lib.hid (hasSeq_step HPL.out r.seq)
        cases B with
        | true =>
          go_wp2_with fail
          go_quiet (fail)
          go_wp2_with fail
          exact ⟨⟨k + 1, by omega, by go_num, by rw [HNB.out, HBB.out]; simp, HM4, Lib.hid (below_drewN HB4.out _), HE4⟩, by simp [intOf]; omega⟩
        | false =>
          by_cases hpq : p.seq = r.seq
          · go_wp2_with fail
            go_quiet (fail)
            go_wp2_with fail
            exact ⟨⟨k + 1, by omega, by go_num, by rw [HNB.out, HBB.out]; simp [hpq], HM4, Lib.hid (below_drewN HB4.out _), HE4⟩, by simp [intOf]; omega⟩
          · go_wp2_with fail
            go_quiet (fail)
            go_wp2_with fail
            exact ⟨⟨k + 1, by omega, by go_num, by rw [HNB.out, HBB.out]; simp [hpq], HM4, Lib.hid (below_drewN HB4.out _), HE4⟩, by simp [intOf]; omega⟩
      · have hltz : ¬ (k : Int) < n := by omega
        obtain rfl : k = n := by omega
        have hfull : L.take k = L := List.take_of_length_le (by rw [HNL.out]; exact Nat.le_refl _)
        rw [hfull] at HM HBB
        have HD := Lib.hid hds
        clear hfull hds
        by_cases hk1 : r.kind = 1
        · rw [hk1] at q0
          have HK := Lib.hid hk1
          clear hk1
          by_cases hq : r.seq ≤ last
          · obtain rfl : T = 9 := by rw [← HT.out]; unfold tryD; rw [if_neg (by rw [HER.out]; simp), if_pos HK.out, if_pos hq]
            go_wp2_with fail
            go_quiet (fail)
            go_wp2_with fail
            go_ret
            exact ⟨rfl, below_drewN HB.out _⟩
          · have hT := HT.out
            unfold tryD at hT
            rw [if_neg (by rw [HER.out]; simp), if_pos HK.out, if_neg hq, HNL.out] at hT
            have HT2 := Lib.hid hT
            clear hT
            by_cases hn2 : k = 200
            · obtain rfl : T = 8 := by rw [← HT2.out, if_pos (.inl hn2)]
              have hk3 : (200 : Int) ≤ k := by omega
              have hk4 : decide ((200 : Int) ≤ k) = true := by simp; omega
              go_wp2_with fail
              go_quiet (fail)
              go_wp2_with fail
              go_ret
              exact ⟨rfl, below_drewN HB.out _⟩
            · have hk3 : ¬ (200 : Int) ≤ k := by omega
              have hk4 : decide ((200 : Int) ≤ k) = false := by simp; omega
              have hT2 := HT2.out
              obtain ⟨D, hown, htold⟩ := HM.out
              have hkey : keyOf Tryz.prog 9 (.string s) = some (.string r.subj) := by
                rw [keyOf_string_mk Tryz.underlying9 (by unfold maxLen; omega), HP.out.s2]
              have hsize := told_size htold (hown.tidy lawS)
              obtain ⟨c, hc⟩ : ∃ c, cntR L r.subj = c := ⟨_, rfl⟩
              obtain ⟨ds, hds⟩ : ∃ ds, dist L = ds := ⟨_, rfl⟩
              have hd100 := HD.out
              rw [hds] at hT2 hsize hd100
              have hat0 := told_at htold r.subj
              rw [hc] at hT2 hat0
              have hlk : ∀ q, (Instr.lookup 241 (.map (some mb)) (.string s) false).run Tryz.prog (wr.drewN q) = .ok (.int .i64 c) (wr.drewN q) := fun q => by
                have hownq : (wr.drewN q).ownsMap Tryz.prog 9 (plainElem Tryz.prog 3) mb k D := hown
                obtain ⟨c1, hrun, hat, _⟩ := hownq.lookup_int lawS Tryz.underlying241 Tryz.underlying3 (zeroI _) hkey
                rw [hat0] at hat
                simp only [DataW.lit.injEq, Lit.int.injEq, true_and] at hat
                rw [hrun, hat]
              have hln : ∀ q ty, (Builtin.len_ #[241] ty #[.map (some mb)]).run Tryz.prog (wr.drewN q) = .ok (.int .i64 ds) (wr.drewN q) := fun q ty => by
                have hownq : (wr.drewN q).ownsMap Tryz.prog 9 (plainElem Tryz.prog 3) mb k D := hown
                have h1 := hownq.len Tryz.underlying241 ty
                rw [hsize] at h1
                exact h1
              clear hown htold hkey hsize hat0 hc hds HM HD HT2
              by_cases hc0 : c = 0
              · subst hc0
                by_cases hd1 : ds = 100
                · obtain rfl : T = 8 := by rw [← hT2, if_pos (.inr ⟨rfl, hd1⟩)]
                  have hd2 : (100 : Int) ≤ ds := by omega
                  have hd3 : decide ((100 : Int) ≤ ds) = true := by simp; omega
                  clear hT2
                  go_wp2_with fail
                  go_quiet (fail)
                  go_wp2_with fail
                  go_ret
                  exact ⟨rfl, below_drewN HB.out _⟩
                · obtain rfl : T = 0 := by rw [← hT2, if_neg (by omega)]
                  have hd2 : ¬ (100 : Int) ≤ ds := by omega
                  have hd3 : decide ((100 : Int) ≤ ds) = false := by simp; omega
                  clear hT2
                  go_wp2_with fail
                  go_quiet (fail)
                  go_wp2_with fail
                  go_ret
                  exact ⟨rfl, below_drewN HB.out _⟩
              · obtain rfl : T = 0 := by rw [← hT2, if_neg (by omega)]
                have hc1 : ¬ (c : Int) = 0 := by omega
                have hc2 : decide ((c : Int) = 0) = false := by simp; omega
                clear hT2 hln
                go_wp2_with fail
                go_quiet (fail)
                go_wp2_with fail
                go_ret
                exact ⟨rfl, below_drewN HB.out _⟩
        · obtain ⟨T0, hT0⟩ : ∃ T0 : Nat, (if r.kind = 2 then if B = true then 0 else 4 else 0) = T0 := ⟨_, rfl⟩
          have hTT : T = T0 := by rw [← HT.out, ← hT0]; unfold tryD; rw [if_neg (by rw [HER.out]; simp), if_neg hk1, HBB.out]
          subst hTT
          by_cases hk2 : r.kind = 2
          · rw [if_pos hk2] at hT0
            rw [hk2] at q0
            cases B with
            | true =>
              obtain rfl : T = 0 := hT0.symm
              clear hk1 hk2 hT0
              go_wp2_with fail
              go_ret
              exact ⟨rfl, HB.out⟩
            | false =>
              obtain rfl : T = 4 := hT0.symm
              clear hk1 hk2 hT0
              go_wp2_with fail
              go_ret
              exact ⟨rfl, HB.out⟩
          · rw [if_neg hk2] at hT0
            obtain rfl : T = 0 := hT0.symm
            clear hT0
            go_wp2_with fail
            go_ret
            exact ⟨rfl, HB.out⟩
  · obtain rfl : T = recErr r := by rw [← HT.out]; unfold tryD; rw [if_pos her]
    generalize recErr r = T at *
    have herz : ¬ (T : Int) = 0 := by omega
    go_enter Tryz.func56, Tryz.ntmps56
    go_upto_region 1 with fail
    rw [← hw1, HBX.out]
    clear hw1
    go_wp2_with fail
    refine HCK.out.mono ?_
    rintro e w2 ⟨rfl, hb2⟩
    have HB2 := Lib.hid (HB1.out.trans (hb2.mono HB1.out.size))
    clear hb2
    go_wp2_with fail
    go_ret
    exact ⟨rfl, HB2.out⟩
end
end Go.Proofs.YthhgfdeegnimjaaGreatDoor.Sto
