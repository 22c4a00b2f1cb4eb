/- Parts of the proof, joined: The reference's chest in memory; its Try, walked.; The first entry for which a predicate holds: slices.IndexFunc, walked (XDrawRun turned to entries).; The reference's index, a list of entries, in memory: at, Get.; The reference's index: Drop. -/
import Derived.Test.YtidacfhdhdnidaaGreatDoorVaultPlaysUptoM28
import Derived.Shelf.SlicesQ.Load
import Derived.Lib.SlBy
namespace Go.Proofs.YtidacfhdhdnidaaGreatDoor.Sto
open Go.RowKit Heap
open Subj (Tok ML pieces takes)
open Rec (Rc recErr far recA rcOf refRecord_any)
open Idx (Ents ptrV)
open Go.Maps Go.WideMaps

/-- The chest at C, in memory: a list of messages and the last number. -/
structure ChAt (W : World) (C : Nat) (v : Value) (L : List Rc) (last : Int) (w : World) : Prop where
  cell : w.heap[C]? = some (.cells #[v, .int .i64 last] 31 (0, 0))
  row : Row w 33 6 v L.length (recsV L)
  old : W.heap.size ≤ C
  mine : ∀ k, own v k → W.heap.size ≤ k ∧ k ≠ C
  below : Below W.heap.size W w

theorem lawS : Keyed Tryz.prog 9 := string_keyed Tryz.underlying9
theorem zeroI (w : World) : (zeroValue 3).run Tryz.prog w = .ok (.int .i64 0) w := by kernel_rfl

section
variable {W w w1 : World} {C : Nat} {v : Value} {L : List Rc} {last : Int} {I : Ents}

theorem ChAt.next (h : ChAt W C v L last w) (hb : Below w.heap.size w w1) : ChAt W C v L last w1 :=
  ⟨(hb.block C (heap_lt h.cell)).trans h.cell, h.row.kept fun k _ hk => hb.block k hk, h.old, h.mine, h.below.trans (hb.mono h.below.size)⟩

theorem twoC {C : Nat} {w : World} {t : TypeId} {a0 a1 : Value} (h : w.heap[C]? = some (.cells #[a0, a1] t (0, 0))) :
    w.cell? ⟨C, 0, none⟩ = some a0 ∧ w.cell? ⟨C, 1, none⟩ = some a1 ∧ ∀ j, w.frozen? ⟨C, j, none⟩ = false := by
  refine ⟨?_, ?_, fun j => frozen_of_row w C j _ _ h⟩
  · rw [cell_of_row w C 0 _ _ _ h]; rfl
  · rw [cell_of_row w C 1 _ _ _ h]; rfl

theorem hasSeq_step {k : Nat} {p : Rc} (h : L[k]? = some p) (q : Int) : hasSeq (L.take (k + 1)) q = (hasSeq (L.take k) q || decide (p.seq = q)) := by
  unfold hasSeq
  rw [List.take_add_one, h, List.any_append]
  simp [BEq.beq]

theorem take_snoc {k : Nat} {p : Rc} (h : L[k]? = some p) : L.take (k + 1) = L.take k ++ [p] := by
  rw [List.take_add_one, h]; rfl

set_option maxHeartbeats 4000000 in
set_option maxRecDepth 100000 in
theorem try_ch (h : ChAt W C v L last w) (hR : Right L last I) (hds : dist L ≤ 100) (r : Rc) (hf : Fits r) :
    Calls Tryz.prog 77 #[.pointer (some ⟨C, 0, none⟩), recV r] w fun e w' => e = .returned (.int .i64 (tryD L last r : Nat)) ∧ Below w.heap.size w w' := by
  obtain ⟨s, hd, d, hp⟩ := parts r
  unfold recV
  rw [hp.s1, hp.h1, hp.d1]
  obtain ⟨T, hT⟩ : ∃ T, tryD L last r = T := ⟨_, rfl⟩
  rw [hT]
  have HT := Lib.hid hT
  clear hT
  obtain ⟨n, hnL⟩ : ∃ n, L.length = n := ⟨_, rfl⟩
  have HNL := Lib.hid hnL
  have hn200 : n ≤ 200 := by rw [← hnL]; exact hR.few
  obtain ⟨w1, hw1⟩ : ∃ w1, w1 = w.alloc (.cells #[.int .i64 r.kind, .int .i64 r.seq, .int .i64 r.time, .string s, .string hd, .string d] 33) := ⟨_, rfl⟩
  have hb1 : Below w.heap.size w w1 := by rw [hw1]; exact (Below.refl _ _).alloc (Nat.le_refl _) _
  have hea : w1.heap[w.heap.size]? = some (.cells #[.int .i64 r.kind, .int .i64 r.seq, .int .i64 r.time, .string s, .string hd, .string d] 33 (0, 0)) := by rw [hw1]; exact heap_alloc_new w _
  obtain ⟨bx, hbx⟩ : ∃ bx, w.heap.size = bx := ⟨_, rfl⟩
  rw [hbx] at hea
  have hck := refRecord_any r.kind r.seq r.time s hd d w1 (by rw [hp.s3]; exact hf.s) (by rw [hp.h3]; exact hf.h) (by rw [hp.d3]; exact hf.d)
  unfold recA at hck
  rw [hp.rc] at hck
  have hs1m : s.size ≤ 1048576 := by rw [hp.s3]; exact hf.s
  obtain ⟨q0, q1, q2, q3, q4, q5⟩ := sixC hea
  have hbxl := heap_lt hea
  have hmm := @run_makeMap Tryz.prog
  have HCK := Lib.hid hck; have HC := Lib.hid h; have HB1 := Lib.hid hb1; have HEA := Lib.hid hea; have HBX := Lib.hid hbx; have HP := Lib.hid hp; have HR := Lib.hid hR
  clear h hck hb1 hea hbx hp hf hR hnL
  by_cases her : recErr r = 0
  · rw [her] at HCK
    have HER := Lib.hid her
    clear her
    go_enter Tryz.func77, Tryz.ntmps77
    go_upto_region 1 with fail
    rw [← hw1, HBX.out]
    clear hw1
    go_wp2_with fail
    refine HCK.out.mono ?_
    rintro e w2 ⟨rfl, hb2⟩
    have HB2 := Lib.hid (HB1.out.trans (hb2.mono HB1.out.size))
    have HEA2 := Lib.hid ((hb2.block bx hbxl).trans HEA.out)
    have hm0 := World.ownsMap_made (H := Nat) w2 Tryz.prog 9 (plainElem Tryz.prog 3)
    obtain ⟨w3, hw3⟩ : ∃ w3, w3 = w2.alloc (.map #[] 0) := ⟨_, rfl⟩
    have hb3 : Below w2.heap.size w2 w3 := by rw [hw3]; exact (Below.refl _ _).alloc (Nat.le_refl _) _
    rw [← hw3] at hm0
    have HMS := Lib.hid (show w.heap.size ≤ w2.heap.size ∧ bx < w2.heap.size from ⟨HB2.out.size, heap_lt HEA2.out⟩)
    have HB3 := Lib.hid (HB2.out.trans (hb3.mono HB2.out.size))
    have HEA3 := Lib.hid ((hb3.block bx HMS.out.2).trans HEA2.out)
    obtain ⟨mb, hmb⟩ : ∃ mb, w2.heap.size = mb := ⟨_, rfl⟩
    rw [hmb] at hm0 HMS
    have HM0 := Lib.hid (show ∃ D : DataW Nat, w3.ownsMap Tryz.prog 9 (plainElem Tryz.prog 3) mb 0 D ∧ Told D (L.take 0) from ⟨_, hm0, told_nil⟩)
    have HMB := Lib.hid hmb
    clear hb2 hb3 hm0 hmb HCK HEA HB1 HB2 HEA2 hbxl q0 q1 q2 q3 q4 q5
    go_upto_region 5 with fail
    rw [← hw3, HMB.out]
    clear hw3 hmm
    go_wp2_with fail
    go_loopw [7, 8] (fun th i wr => ∃ k : Nat, k ≤ n ∧ i = .int .i64 k ∧ th = .bool (hasSeq (L.take k) r.seq) ∧ Hid (∃ D : DataW Nat, wr.ownsMap Tryz.prog 9 (plainElem Tryz.prog 3) mb k D ∧ Told D (L.take k)) ∧ Hid (Below w.heap.size w wr) ∧
      Hid (wr.heap[bx]? = some (.cells #[.int .i64 r.kind, .int .i64 r.seq, .int .i64 r.time, .string s, .string hd, .string d] 33 (0, 0)))) (fun _ i _ => n - (intOf i).toNat)
    case atStart => exact ⟨0, Nat.zero_le _, rfl, rfl, HM0, HB3, HEA3⟩
    case round =>
      obtain ⟨k, hk, rfl, rfl, HM, HB, HE⟩ := hrel
      clear HM0 HB3 HEA3
      obtain ⟨B, hB⟩ : ∃ B, hasSeq (L.take k) r.seq = B := ⟨_, rfl⟩
      rw [hB]
      have HBB := Lib.hid hB
      clear hB
      have HCr := Lib.hid (HC.out.next HB.out)
      obtain ⟨c0, c1, cf⟩ := twoC HCr.out.cell
      have hlt := heap_lt HCr.out.cell
      obtain ⟨va, vc, hv⟩ := HCr.out.row.slice
      rw [HNL.out] at hv
      subst hv
      obtain ⟨q0, q1, q2, q3, q4, q5⟩ := sixC HE.out
      have hbxl := heap_lt HE.out
      by_cases hlt2 : k < n
      · have hltz : (k : Int) < n := by omega
        obtain ⟨p, hp⟩ : ∃ p, L[k]? = some p := ⟨_, List.getElem?_eq_getElem (by rw [HNL.out]; exact hlt2)⟩
        rcases HCr.out.row.2 with ⟨_, h0⟩ | ⟨g, off, cap, cur, ev, hg, _⟩
        · rw [HNL.out] at h0; omega
        rw [HNL.out] at ev
        simp only [Value.slice.injEq, true_and] at ev
        obtain ⟨rfl, rfl⟩ := ev
        have hrow := HCr.out.row
        rw [HNL.out] at hrow
        obtain ⟨m0, m1, m2, m3, m4, m5⟩ := cells_rec hrow k p hp hlt2
        obtain ⟨sp, hdp, dp, hpp⟩ := parts p
        rw [hpp.s1] at m3
        have hgp := HR.out.good p (List.mem_of_getElem? hp)
        obtain ⟨D, hown, htold⟩ := HM.out
        have hkey : keyOf Tryz.prog 9 (.string sp) = some (.string p.subj) := by
          rw [keyOf_string_mk Tryz.underlying9 (by rw [hpp.s3]; have := (good_parts hgp.1 hgp.2).2.1; unfold maxLen; omega), hpp.s2]
        obtain ⟨c, hrun, hat, _⟩ := hown.lookup_int lawS Tryz.underlying210 Tryz.underlying3 (zeroI _) hkey
        rw [told_at htold] at hat
        simp only [DataW.lit.injEq, Lit.int.injEq, true_and] at hat
        have hcl : cntR (L.take k) p.subj ≤ 200 := by
          have h1 : cntR (L.take k) p.subj ≤ (L.take k).length := List.countP_le_length
          rw [List.length_take] at h1; omega
        have hc2 : 0 ≤ c ∧ c ≤ 200 := by omega
        have hwf : (Lit.int .i64 (c + 1)).wf = true := by simp [Lit.wf, IntKind.min, IntKind.max, IntKind.signed, IntKind.bits]; omega
        have HAT := Lib.hid hat; have HTO := Lib.hid htold; have HPL := Lib.hid hp; have HOW := Lib.hid hown
        clear hp hpp hgp hg hrow hat hcl htold m0 m2 m4 m5 hown
        go_wp2_with (first | (at_mapUpdate; refine wpList_mapUpdate_own _ rfl _ _ _ 210 rfl 9 3 lawS Tryz.underlying210 (plainElem Tryz.prog 3) mb k D rfl HOW.out (by unfold maxLen; omega) _ _ _ rfl rfl hkey _ [] (plainElem_int Tryz.underlying3 hwf) ?_))
        intro w4 hown4 hgrow4
        have HB4 := Lib.hid (HB.out.grown hgrow4 HB.out.size (fun j hj => by cases hj; exact HMS.out.1))
        have HE4 := Lib.hid ((hgrow4.block bx hbxl (by simp; have := HMS.out.2; omega)).trans HE.out)
        have HM4 := Lib.hid (show ∃ D : DataW Nat, w4.ownsMap Tryz.prog 9 (plainElem Tryz.prog 3) mb (k + 1) D ∧ Told D (L.take (k + 1)) from by
          refine ⟨_, hown4, ?_⟩
          rw [take_snoc HPL.out, ← HAT.out]
          exact told_put HTO.out p)
        have HC4 := Lib.hid (HC.out.next HB4.out)
        have hrow4 := HC4.out.row
        rw [HNL.out] at hrow4
        obtain ⟨y0, y1, y2, y3, y4, y5⟩ := cells_rec hrow4 k p HPL.out hlt2
        clear hown4 hgrow4 c0 c1 cf hlt q0 q1 q2 q3 q4 q5 hbxl m1 m3 hrun hrow4 HM HB HE HCr HOW HTO HAT y0 y2 y3 y4 y5
        obtain ⟨c0, c1, cf⟩ := twoC HC4.out.cell
        have hlt := heap_lt HC4.out.cell
        obtain ⟨q0, q1, q2, q3, q4, q5⟩ := sixC HE4.out
        have hbxl := heap_lt HE4.out
        have HNB := Lib.hid (hasSeq_step HPL.out r.seq)
        cases B with
        | true =>
          go_wp2_with fail
          go_quiet (fail)
          go_wp2_with fail
          exact ⟨⟨k + 1, by omega, by go_num, by rw [HNB.out, HBB.out]; simp, HM4, Lib.hid (below_drewN HB4.out _), HE4⟩, by simp [intOf]; omega⟩
        | false =>
          by_cases hpq : p.seq = r.seq
          · go_wp2_with fail
            go_quiet (fail)
            go_wp2_with fail
            exact ⟨⟨k + 1, by omega, by go_num, by rw [HNB.out, HBB.out]; simp [hpq], HM4, Lib.hid (below_drewN HB4.out _), HE4⟩, by simp [intOf]; omega⟩
          · go_wp2_with fail
            go_quiet (fail)
            go_wp2_with fail
            exact ⟨⟨k + 1, by omega, by go_num, by rw [HNB.out, HBB.out]; simp [hpq], HM4, Lib.hid (below_drewN HB4.out _), HE4⟩, by simp [intOf]; omega⟩
      · have hltz : ¬ (k : Int) < n := by omega
        obtain rfl : k = n := by omega
        have hfull : L.take k = L := List.take_of_length_le (by rw [HNL.out]; exact Nat.le_refl _)
        rw [hfull] at HM HBB
        have HD := Lib.hid hds
        clear hfull hds
        by_cases hk1 : r.kind = 1
        · rw [hk1] at q0
          have HK := Lib.hid hk1
          clear hk1
          by_cases hq : r.seq ≤ last
          · obtain rfl : T = 9 := by rw [← HT.out]; unfold tryD; rw [if_neg (by rw [HER.out]; simp), if_pos HK.out, if_pos hq]
            go_wp2_with fail
            go_quiet (fail)
            go_wp2_with fail
            go_ret
            exact ⟨rfl, below_drewN HB.out _⟩
          · have hT := HT.out
            unfold tryD at hT
            rw [if_neg (by rw [HER.out]; simp), if_pos HK.out, if_neg hq, HNL.out] at hT
            have HT2 := Lib.hid hT
            clear hT
            by_cases hn2 : k = 200
            · obtain rfl : T = 8 := by rw [← HT2.out, if_pos (.inl hn2)]
              have hk3 : (200 : Int) ≤ k := by omega
              have hk4 : decide ((200 : Int) ≤ k) = true := by simp; omega
              go_wp2_with fail
              go_quiet (fail)
              go_wp2_with fail
              go_ret
              exact ⟨rfl, below_drewN HB.out _⟩
            · have hk3 : ¬ (200 : Int) ≤ k := by omega
              have hk4 : decide ((200 : Int) ≤ k) = false := by simp; omega
              have hT2 := HT2.out
              obtain ⟨D, hown, htold⟩ := HM.out
              have hkey : keyOf Tryz.prog 9 (.string s) = some (.string r.subj) := by
                rw [keyOf_string_mk Tryz.underlying9 (by unfold maxLen; omega), HP.out.s2]
              have hsize := told_size htold (hown.tidy lawS)
              obtain ⟨c, hc⟩ : ∃ c, cntR L r.subj = c := ⟨_, rfl⟩
              obtain ⟨ds, hds⟩ : ∃ ds, dist L = ds := ⟨_, rfl⟩
              have hd100 := HD.out
              rw [hds] at hT2 hsize hd100
              have hat0 := told_at htold r.subj
              rw [hc] at hT2 hat0
              have hlk : ∀ q, (Instr.lookup 210 (.map (some mb)) (.string s) false).run Tryz.prog (wr.drewN q) = .ok (.int .i64 c) (wr.drewN q) := fun q => by
                have hownq : (wr.drewN q).ownsMap Tryz.prog 9 (plainElem Tryz.prog 3) mb k D := hown
                obtain ⟨c1, hrun, hat, _⟩ := hownq.lookup_int lawS Tryz.underlying210 Tryz.underlying3 (zeroI _) hkey
                rw [hat0] at hat
                simp only [DataW.lit.injEq, Lit.int.injEq, true_and] at hat
                rw [hrun, hat]
              have hln : ∀ q ty, (Builtin.len_ #[210] ty #[.map (some mb)]).run Tryz.prog (wr.drewN q) = .ok (.int .i64 ds) (wr.drewN q) := fun q ty => by
                have hownq : (wr.drewN q).ownsMap Tryz.prog 9 (plainElem Tryz.prog 3) mb k D := hown
                have h1 := hownq.len Tryz.underlying210 ty
                rw [hsize] at h1
                exact h1
              clear hown htold hkey hsize hat0 hc hds HM HD HT2
              by_cases hc0 : c = 0
              · subst hc0
                by_cases hd1 : ds = 100
                · obtain rfl : T = 8 := by rw [← hT2, if_pos (.inr ⟨rfl, hd1⟩)]
                  have hd2 : (100 : Int) ≤ ds := by omega
                  have hd3 : decide ((100 : Int) ≤ ds) = true := by simp; omega
                  clear hT2
                  go_wp2_with fail
                  go_quiet (fail)
                  go_wp2_with fail
                  go_ret
                  exact ⟨rfl, below_drewN HB.out _⟩
                · obtain rfl : T = 0 := by rw [← hT2, if_neg (by omega)]
                  have hd2 : ¬ (100 : Int) ≤ ds := by omega
                  have hd3 : decide ((100 : Int) ≤ ds) = false := by simp; omega
                  clear hT2
                  go_wp2_with fail
                  go_quiet (fail)
                  go_wp2_with fail
                  go_ret
                  exact ⟨rfl, below_drewN HB.out _⟩
              · obtain rfl : T = 0 := by rw [← hT2, if_neg (by omega)]
                have hc1 : ¬ (c : Int) = 0 := by omega
                have hc2 : decide ((c : Int) = 0) = false := by simp; omega
                clear hT2 hln
                go_wp2_with fail
                go_quiet (fail)
                go_wp2_with fail
                go_ret
                exact ⟨rfl, below_drewN HB.out _⟩
        · obtain ⟨T0, hT0⟩ : ∃ T0 : Nat, (if r.kind = 2 then if B = true then 0 else 4 else 0) = T0 := ⟨_, rfl⟩
          have hTT : T = T0 := by rw [← HT.out, ← hT0]; unfold tryD; rw [if_neg (by rw [HER.out]; simp), if_neg hk1, HBB.out]
          subst hTT
          by_cases hk2 : r.kind = 2
          · rw [if_pos hk2] at hT0
            rw [hk2] at q0
            cases B with
            | true =>
              obtain rfl : T = 0 := hT0.symm
              clear hk1 hk2 hT0
              go_wp2_with fail
              go_ret
              exact ⟨rfl, HB.out⟩
            | false =>
              obtain rfl : T = 4 := hT0.symm
              clear hk1 hk2 hT0
              go_wp2_with fail
              go_ret
              exact ⟨rfl, HB.out⟩
          · rw [if_neg hk2] at hT0
            obtain rfl : T = 0 := hT0.symm
            clear hT0
            go_wp2_with fail
            go_ret
            exact ⟨rfl, HB.out⟩
  · obtain rfl : T = recErr r := by rw [← HT.out]; unfold tryD; rw [if_pos her]
    generalize recErr r = T at *
    have herz : ¬ (T : Int) = 0 := by omega
    go_enter Tryz.func77, Tryz.ntmps77
    go_upto_region 1 with fail
    rw [← hw1, HBX.out]
    clear hw1
    go_wp2_with fail
    refine HCK.out.mono ?_
    rintro e w2 ⟨rfl, hb2⟩
    have HB2 := Lib.hid (HB1.out.trans (hb2.mono HB1.out.size))
    clear hb2
    go_wp2_with fail
    go_ret
    exact ⟨rfl, HB2.out⟩
end
end Go.Proofs.YtidacfhdhdnidaaGreatDoor.Sto

namespace Go.Proofs.YtidacfhdhdnidaaGreatDoor.Shf
open Go.RowKit Heap Idx
open Subj (Tok ML pieces)

theorem entV_at (l : Ents) (k : Nat) (p : (Tok × Int)) (h : l[k]? = some p) (i : Nat) (hi : i < 2) : (entV l)[k * 2 + i]? = (entC p)[i]? := by
  induction l generalizing k with
  | nil => simp at h
  | cons q l ih =>
    show (entC q ++ entV l)[k * 2 + i]? = _
    cases k with
    | zero =>
      simp at h; subst h
      rw [List.getElem?_append_left (by simp [entC]; omega)]
      simp
    | succ k =>
      rw [List.getElem?_append_right (by simp [entC]; omega)]
      rw [show (k + 1) * 2 + i - (entC q).length = k * 2 + i by simp [entC]; omega]
      exact ih k (by simpa using h)

/-- A predicate on the entries of a list: what a call of it answers in every world that C holds of. -/
def Tells (l : Ents) (g : Nat) (lb : Array Value) (p : (Tok × Int) → Bool) (C : World → Prop) : Prop :=
  ∀ (W : World) (x : (Tok × Int)), x ∈ l → C W → Calls Tryz.prog g (#[.agg #[.string ⟨x.1.toArray⟩, .int .i64 x.2]] ++ lb) W fun e w' => e = .returned (.bool (p x)) ∧ Below W.heap.size W w'

def KeptBy (v : Value) (C : World → Prop) : Prop := ∀ W W', C W → Heap.Touch (own v) W W' → C W'

theorem cells_pull {w : World} {g off n cap : Nat} {l : Ents} (h : Row w 197 2 (.slice (some ⟨g, off, none⟩) n cap) n (entV l)) (k : Nat) (p : (Tok × Int)) (hp : l[k]? = some p) (hk : k < n) :
    w.cell? ⟨g, off + k * 2, none⟩ = some (.string ⟨p.1.toArray⟩) ∧ w.cell? ⟨g, off + k * 2 + 1, none⟩ = some (.int .i64 p.2) := by
  have e : ∀ i, i < 2 → w.cell? ⟨g, off + k * 2 + i, none⟩ = (entC p)[i]? := fun i hi => by
    rw [show off + k * 2 + i = off + (k * 2 + i) by omega, (h.cell (k * 2 + i) (by omega)).1, entV_at l k p hp i hi]
  exact ⟨e 0 (by omega), e 1 (by omega)⟩

theorem frozen_pull {w : World} {g off n cap : Nat} {l : Ents} (h : Row w 197 2 (.slice (some ⟨g, off, none⟩) n cap) n (entV l)) (k : Nat) (hk : k < n) :
    w.frozen? ⟨g, off + k * 2, none⟩ = false ∧ w.frozen? ⟨g, off + k * 2 + 1, none⟩ = false := by
  have e : ∀ i, i < 2 → w.frozen? ⟨g, off + k * 2 + i, none⟩ = false := fun i hi => by
    rw [show off + k * 2 + i = off + (k * 2 + i) by omega, (h.cell (k * 2 + i) (by omega)).2]
  exact ⟨e 0 (by omega), e 1 (by omega)⟩

set_option maxHeartbeats 2000000 in
set_option maxRecDepth 100000 in
theorem index_any (g : Nat) (lb : Array Value) (p : (Tok × Int) → Bool) (C : World → Prop) (eg : ∀ args w, (callFunc g args).run Tryz.prog w = .ok (.enter g args) w)
    (v : Value) (l : Ents) (w : World) (hrow : Row w 197 2 v l.length (entV l)) (hl : l.length ≤ 1000) (hC : C w) (hk : KeptBy v C) (hp : Tells l g lb p C)
    (r : Int) (hr : (r = -1 ∧ ∀ x ∈ l, p x = false) ∨ ∃ (k : Nat) (x : (Tok × Int)), r = (k : Int) ∧ l[k]? = some x ∧ p x = true ∧ ∀ y ∈ l.take k, p y = false) :
    Calls Tryz.prog 217 #[v, .func (.func g) #[] lb] w fun e w' => e = .returned (.int .i64 r) ∧ Below w.heap.size w w' := by
  rcases hrow.2 with ⟨rfl, h0⟩ | ⟨b, off, cap, cur, rfl, hg, _⟩
  · obtain rfl : l = [] := List.eq_nil_of_length_eq_zero h0
    have : r = -1 := by
      rcases hr with h | ⟨k, x, _, h, _⟩
      · exact h.1
      · simp at h
    subst this
    clear hrow hr hp hk
    go_enter Tryz.func217, Tryz.ntmps217
    go_wp2_with fail
    go_loopw [5, 8] (fun _ i wr => i = .int .i64 0 ∧ wr = w) (fun _ _ _ => 0)
    case atStart => exact ⟨rfl, rfl⟩
    case round =>
      obtain ⟨rfl, rfl⟩ := hrel
      go_wp2
      go_ret
      exact ⟨rfl, Below.refl _ _⟩
  · have hb : b < w.heap.size := heap_lt hg
    have HR := Lib.hid hrow; have HQ := Lib.hid hr; have HP := Lib.hid hp; have HKB := Lib.hid hk; have HCC := Lib.hid hC
    clear hrow hr hp hk hC hg
    generalize hn : l.length = n at *
    have HN := Lib.hid hn
    clear hn
    go_enter Tryz.func217, Tryz.ntmps217
    go_wp2_with fail
    go_loopw [5, 8] (fun _ i wr => ∃ k : Nat, k ≤ n ∧ i = .int .i64 k ∧ Below w.heap.size w wr ∧ Hid (∀ y ∈ l.take k, p y = false)) (fun _ i _ => n - (intOf i).toNat)
    case atStart => exact ⟨0, Nat.zero_le _, rfl, Below.refl _ _, Lib.hid fun y h => by simp at h⟩
    case round =>
      obtain ⟨k, hkn, rfl, BW, A⟩ := hrel
      have BB := Lib.hid BW
      by_cases hlt : k < n
      · have hltz : (k : Int) < (n : Int) := by omega
        have hlt' : k < l.length := by rw [HN.out]; exact hlt
        obtain ⟨x, hx⟩ : ∃ x, l[k]? = some x := ⟨l[k], List.getElem?_eq_getElem hlt'⟩
        have hrow' := HR.out.kept (w' := wr) (fun j _ hj => BW.block j hj)
        obtain ⟨c0, c1⟩ := cells_pull hrow' k x hx hlt
        have hcall := HP.out wr x (List.mem_of_getElem? hx) (HKB.out w wr HCC.out (Heap.Touch.ofBelow BW))
        have X := Lib.hid hx
        clear hrow' hx BW
        cases hq : p x with
        | true =>
          rw [hq] at hcall
          have hrk : r = (k : Int) := by
            rcases HQ.out with ⟨_, h⟩ | ⟨k', x', rfl, h1, h2, h3⟩
            · have := h x (List.mem_of_getElem? X.out)
              rw [hq] at this; cases this
            · have e : k' = k := by
                rcases Nat.lt_trichotomy k' k with hlt2 | hlt2 | hlt2
                · have := A.out x' (List.mem_of_getElem? (i := k') (by rw [List.getElem?_take, if_pos hlt2]; exact h1))
                  rw [h2] at this; cases this
                · exact hlt2
                · have := h3 x (List.mem_of_getElem? (i := k) (by rw [List.getElem?_take, if_pos hlt2]; exact X.out))
                  rw [hq] at this; cases this
              rw [e]
          subst hrk
          go_wp2_with (go_at_fn g; refine hcall.mono ?_; rintro e w' ⟨rfl, hb'⟩)
          go_ret
          exact ⟨rfl, BB.out.trans (hb'.mono BB.out.size)⟩
        | false =>
          rw [hq] at hcall
          go_wp2_with (go_at_fn g; refine hcall.mono ?_; rintro e w' ⟨rfl, hb'⟩)
          refine ⟨⟨k + 1, by omega, by go_num, BB.out.trans (hb'.mono BB.out.size), Lib.hid fun y hy => ?_⟩, by simp [intOf]; omega⟩
          obtain ⟨j, hj, rfl⟩ := List.mem_iff_getElem.1 hy
          rw [List.length_take] at hj
          rw [List.getElem_take]
          by_cases e : j = k
          · subst e
            have := X.out
            rw [List.getElem?_eq_getElem hlt'] at this
            simp at this
            rw [this]; exact hq
          · exact A.out _ (List.mem_of_getElem? (i := j) (by rw [List.getElem?_take, if_pos (by omega)]; exact List.getElem?_eq_getElem (by omega)))
      · have hltz : ¬ (k : Int) < (n : Int) := by omega
        obtain rfl : k = n := by omega
        have hrk : r = -1 := by
          rcases HQ.out with ⟨h, _⟩ | ⟨k', x', rfl, h1, h2, h3⟩
          · exact h
          · have h4 := (List.getElem?_eq_some_iff.1 h1).1
            have := A.out x' (List.mem_of_getElem? (i := k') (by rw [List.getElem?_take, if_pos (by rw [← HN.out]; exact h4)]; exact h1))
            rw [h2] at this; cases this
        subst hrk
        go_wp2
        go_ret
        exact ⟨rfl, BB.out⟩

end Go.Proofs.YtidacfhdhdnidaaGreatDoor.Shf

namespace Go.Proofs.YtidacfhdhdnidaaGreatDoor.Shf
open Go.RowKit Heap Idx
open Subj (Tok ML pieces)

structure ShelfAt (W : World) (G : Nat → Prop) (E : Nat) (L : Ents) (w : World) : Prop where
  few : L.length ≤ 100
  short : ∀ e ∈ L, e.1.length ≤ 200
  below : Below W.heap.size W w
  newG : ∀ k, G k → W.heap.size ≤ k
  bG : ∀ k, G k → k < w.heap.size
  gE : G E
  mem : ∃ v, w.heap[E]? = some (.cells #[v] 247 (0, 0)) ∧ Row w 197 2 v L.length (entV L) ∧ ∀ k, own v k → G k

theorem oneC {B : Nat} {w : World} {t : TypeId} {a0 : Value} (h : w.heap[B]? = some (.cells #[a0] t (0, 0))) :
    w.cell? ⟨B, 0, none⟩ = some a0 ∧ ∀ j, w.frozen? ⟨B, j, none⟩ = false := by
  refine ⟨?_, fun j => ?_⟩
  · rw [cell_of_row w B 0 _ _ _ h]; rfl
  · exact frozen_of_row w B j _ _ h

theorem ne_row {E n : Nat} {w : World} {v a0 : Value} {xs : List Value} (h : w.heap[E]? = some (.cells #[a0] 247 (0, 0))) (hr : Row w 197 2 v n xs) : ¬ own v E := fun ho => by
  rcases hr.2 with ⟨rfl, _⟩ | ⟨g, off, cap, cur, rfl, hg, _⟩
  · simp [own, Value.ownBlock] at ho
  · simp [own, Value.ownBlock] at ho
    subst ho
    rw [h] at hg
    simp at hg

/-- A shelf that has come of another one. -/
def NextS (W : World) (G : Nat → Prop) (E : Nat) (w : World) (L' : Ents) (w' : World) : Prop :=
  (∃ G', ShelfAt W G' E L' w' ∧ ∀ k, G' k → G k ∨ w.heap.size ≤ k) ∧ Heap.Touch G w w'

section
variable {W w w' : World} {G : Nat → Prop} {E : Nat} {L : Ents}

theorem ShelfAt.kept (h : ShelfAt W G E L w) (hb : Below W.heap.size W w') (hsz : w.heap.size ≤ w'.heap.size) (hs : Same G w w') : ShelfAt W G E L w' := by
  obtain ⟨v, h1, h2, h3⟩ := h.mem
  exact ⟨h.few, h.short, hb, h.newG, fun k hk => Nat.lt_of_lt_of_le (h.bG k hk) hsz, h.gE, v, (hs E h.gE (heap_lt h1)).trans h1, h2.kept (fun k hk hlt => hs k (h3 k hk) hlt), h3⟩

theorem ShelfAt.next (h : ShelfAt W G E L w) (hb : Below w.heap.size w w') : ShelfAt W G E L w' :=
  h.kept (h.below.trans (hb.mono h.below.size)) hb.size fun k _ hk => hb.block k hk

theorem NextS.refl (h : ShelfAt W G E L w) (hb : Below w.heap.size w w') : NextS W G E w L w' := ⟨⟨G, h.next hb, fun _ hk => .inl hk⟩, Heap.Touch.ofBelow hb⟩

theorem tells_s (l : Ents) (s : ByteArray) (X : Nat) : Tells l 218 #[.pointer (some ⟨X, 0, none⟩)] (fun p => p.1 == s.data.toList) (fun w => w.cell? ⟨X, 0, none⟩ = some (.string s)) := by
  intro W x _ hC
  show Calls Tryz.prog _ #[.agg #[.string ⟨x.1.toArray⟩, .int .i64 x.2], .pointer (some ⟨X, 0, none⟩)] W fun e w' => e = .returned (.bool (x.1 == s.data.toList)) ∧ Below W.heap.size W w'
  have hX := World.block_lt_of_cell? W _ hC
  have e1 : (⟨x.1.toArray⟩ : ByteArray).toList = x.1 := Subj.bytes_toList _
  have e2 : s.toList = s.data.toList := ByteArray.toList_eq _
  obtain ⟨p, hp⟩ : ∃ p : ByteArray, (⟨x.1.toArray⟩ : ByteArray) = p := ⟨_, rfl⟩
  rw [hp] at e1 ⊢
  rw [← e1, ← e2]
  clear hp e1 e2
  go_enter Tryz.func218, Tryz.ntmps218
  go_wp2
  go_ret
  exact ⟨rfl, (Below.refl _ _).alloc (Nat.le_refl _) _⟩

set_option maxHeartbeats 1000000 in
set_option maxRecDepth 100000 in
theorem at_any (h : ShelfAt W G E L w) (s : ByteArray) :
    Calls Tryz.prog 189 #[.pointer (some ⟨E, 0, none⟩), .string s] w fun e w' => e = .returned (.int .i64 (idxL L s.data.toList)) ∧ Below w.heap.size w w' := by
  obtain ⟨v, h1, h2, h3⟩ := h.mem
  obtain ⟨w1, hw1⟩ : ∃ w1, w1 = w.alloc (.cells #[.string s] 9) := ⟨_, rfl⟩
  have hb1 : Below w.heap.size w w1 := by rw [hw1]; exact (Below.refl _ _).alloc (Nat.le_refl _) _
  have hc : w1.cell? ⟨w.heap.size, 0, none⟩ = some (.string s) := by rw [hw1, World.cell?_alloc_at _ _ _ _ rfl]; rfl
  have hE1 := (hb1.block E (heap_lt h1)).trans h1
  obtain ⟨c0, cf⟩ := oneC hE1
  have hEl := heap_lt hE1
  have hr1 := h2.kept (w' := w1) fun k _ hk => hb1.block k hk
  have hlen := h.few
  have hidx := index_any 218 #[.pointer (some ⟨w.heap.size, 0, none⟩)] (fun p => p.1 == s.data.toList) (fun w => w.cell? ⟨_, 0, none⟩ = some (.string s)) (fun _ _ => rfl) v L w1 hr1 (by omega) hc
    (fun Wa Wb hCa ht => (ht.cell (World.block_lt_of_cell? Wa _ hCa) (fun ho => by have h4 : w.heap.size < w.heap.size := h2.lt _ ho; omega)).trans hCa) (tells_s _ s _) (idxL L s.data.toList) (by
      rcases idxL_cases L s.data.toList with ⟨e1, e2⟩ | ⟨k, p, e1, e2, e3, e5⟩
      · exact .inl ⟨e1, fun x hx => by have := e2 x hx; simpa using this⟩
      · exact .inr ⟨k, p, e1, e2, by simpa using e3, fun y hy => by have := e5 y hy; simpa using this⟩)
  have HI := Lib.hid hidx; have HB := Lib.hid hb1
  clear h h1 h2 h3 hc hE1 hr1 hlen hidx hb1
  go_enter Tryz.func189, Tryz.ntmps189
  go_upto_region 1 with fail
  rw [← hw1]
  clear hw1
  go_wp2_with fail
  refine HI.out.mono ?_
  rintro e w' ⟨rfl, hb⟩
  have HF := Lib.hid (HB.out.trans (hb.mono HB.out.size))
  clear hb
  go_wp2
  go_ret
  exact ⟨rfl, HF.out⟩

set_option maxHeartbeats 1000000 in
set_option maxRecDepth 100000 in
theorem get_shf (h : ShelfAt W G E L w) (s : ByteArray) (hs : s.size ≤ 1048576) :
    Calls Tryz.prog 167 #[.pointer (some ⟨E, 0, none⟩), .string s] w fun e w' => e = .returned (.tuple #[.int .i64 (getL (Subj.err false s.data.toList) L s.data.toList).1, .int .i64 (getL (Subj.err false s.data.toList) L s.data.toList).2]) ∧ Below w.heap.size w w' := by
  have HSU := Lib.hid (Subj.refSubject_any s w hs)
  have HA := Lib.hid (fun w1 (hb : Below w.heap.size w w1) => at_any (h.next hb) s)
  have HH := Lib.hid h
  generalize Subj.err false s.data.toList = er at *
  generalize s.data.toList = t at *
  clear h hs
  by_cases he : er = 0
  · subst he
    rcases idxL_cases L t with ⟨e1, e2⟩ | ⟨k, p, e1, e2, e3, e5⟩
    · have hr : getL 0 L t = (0, 4) := by unfold getL; rw [if_neg (by simp), if_pos (by omega)]
      rw [hr]
      rw [e1] at HA
      clear hr e1 e2
      go_enter Tryz.func167, Tryz.ntmps167
      go_wp2_with fail
      refine HSU.out.mono ?_
      rintro e w1 ⟨rfl, hb1⟩
      have HB1 := Lib.hid hb1
      clear hb1 HSU
      go_wp2_with fail
      refine (HA.out w1 HB1.out).mono ?_
      rintro e w2 ⟨rfl, hb2⟩
      have HB2 := Lib.hid (HB1.out.trans (hb2.mono HB1.out.size))
      clear hb2
      go_wp2_with fail
      go_ret2
      exact ⟨rfl, HB2.out⟩
    · have hr : getL 0 L t = (p.2, 0) := by unfold getL; rw [if_neg (by simp), if_neg (by omega), e1]; simp [List.getD, e2]
      rw [hr]
      rw [e1] at HA
      have HP := Lib.hid e2
      have hkl := (List.getElem?_eq_some_iff.1 e2).1
      obtain ⟨n, hn⟩ : ∃ n, L.length = n := ⟨_, rfl⟩
      have HN := Lib.hid hn
      rw [hn] at hkl
      clear hr e1 e2 e3 e5 hn
      go_enter Tryz.func167, Tryz.ntmps167
      go_wp2_with fail
      refine HSU.out.mono ?_
      rintro e w1 ⟨rfl, hb1⟩
      have HB1 := Lib.hid hb1
      clear hb1 HSU
      go_wp2_with fail
      refine (HA.out w1 HB1.out).mono ?_
      rintro e w2 ⟨rfl, hb2⟩
      have HB2 := Lib.hid (HB1.out.trans (hb2.mono HB1.out.size))
      have hS := HH.out.next HB2.out
      obtain ⟨v, h1, h2, h3⟩ := hS.mem
      obtain ⟨c0, cf⟩ := oneC h1
      have hEl := heap_lt h1
      rw [HN.out] at h2
      have hrow := h2.2
      rcases hrow with ⟨_, h0⟩ | ⟨g, off, cap, cur, rfl, _⟩
      · omega
      obtain ⟨d0, d1⟩ := cells_pull h2 k p HP.out hkl
      clear hb2 hS h1 h2 h3
      go_wp2_with fail
      go_ret2
      exact ⟨rfl, HB2.out⟩
  · have hr : getL er L t = (0, er) := by unfold getL; rw [if_pos he]
    rw [hr]
    have he0 : ((er : Int) != 0) = true := by simpa using he
    clear hr he
    go_enter Tryz.func167, Tryz.ntmps167
    go_wp2_with fail
    refine HSU.out.mono ?_
    rintro e w1 ⟨rfl, hb1⟩
    have HB1 := Lib.hid hb1
    clear hb1 HSU
    go_wp2_with fail
    go_ret2
    exact ⟨rfl, HB1.out⟩
end
end Go.Proofs.YtidacfhdhdnidaaGreatDoor.Shf

namespace Go.Proofs.YtidacfhdhdnidaaGreatDoor.Shf
open Go.RowKit Heap Idx
open Subj (Tok ML pieces)

theorem entV_cons (e : Tok × Int) (l : Ents) : entV (e :: l) = entC e ++ entV l := rfl

theorem entV_take (A : Ents) (k : Nat) : (entV A).take (k * 2) = entV (A.take k) := by
  induction A generalizing k with
  | nil => simp [entV]
  | cons a r ih =>
    cases k with
    | zero => simp [entV]
    | succ k =>
      have hl : (entC a).length = 2 := rfl
      rw [entV_cons, List.take_append, hl, show (k + 1) * 2 - 2 = k * 2 by omega, ih, List.take_of_length_le (by rw [hl]; omega)]
      rfl

theorem entV_drop (A : Ents) (k : Nat) : (entV A).drop (k * 2) = entV (A.drop k) := by
  induction A generalizing k with
  | nil => simp [entV]
  | cons a r ih =>
    cases k with
    | zero => simp
    | succ k =>
      have hl : (entC a).length = 2 := rfl
      rw [entV_cons, List.drop_append, hl, show (k + 1) * 2 - 2 = k * 2 by omega, ih, List.drop_of_length_le (by rw [hl]; omega)]
      rfl

/-- Another list in the shelf's place. -/
theorem ShelfAt.put {W w w3 : World} {G : Nat → Prop} {E : Nat} {L L' : Ents} {a0 v3 : Value} (h : ShelfAt W G E L w) (hf : L'.length ≤ 100) (hs : ∀ e ∈ L', e.1.length ≤ 200) (hE : w3.heap[E]? = some (.cells #[a0] 247 (0, 0)))
    (ht : Heap.Touch G w w3) (hr : Row w3 197 2 v3 L'.length (entV L')) (ho : ∀ k, own v3 k → G k ∨ w.heap.size ≤ k) (hne : ¬ own v3 E) : NextS W G E w L' (w3.setCell ⟨E, 0, none⟩ v3) := by
  have hE4 := heap_setCell_same w3 E 0 _ _ v3 hE
  have hlt := heap_lt hE4
  have tf : Heap.Touch G w (w3.setCell ⟨E, 0, none⟩ v3) := ht.setCell (.inl h.gE) _
  refine ⟨⟨fun k => (G k ∨ w.heap.size ≤ k) ∧ k < (w3.setCell ⟨E, 0, none⟩ v3).heap.size, ⟨hf, hs, h.below.trans (tf.below h.below.size h.newG), fun k hk => ?_, fun k hk => hk.2, ⟨.inl h.gE, hlt⟩, v3, hE4, ?_, fun k hk => ⟨ho k hk, ?_⟩⟩, fun k hk => hk.1⟩, tf⟩
  · rcases hk.1 with hk | hk
    · exact h.newG k hk
    · exact Nat.le_trans h.below.size hk
  · refine hr.kept fun j hj _ => heap_setCell_other _ _ _ _ (fun e => ?_)
    exact hne (by rw [← show j = E from e]; exact hj)
  · have := hr.lt k hk
    have h2 : (w3.setCell ⟨E, 0, none⟩ v3).heap.size = w3.heap.size := by simp [World.setCell]
    rw [h2]; exact this

section
variable {W w : World} {G : Nat → Prop} {E : Nat} {A : Ents}
end
end Go.Proofs.YtidacfhdhdnidaaGreatDoor.Shf
