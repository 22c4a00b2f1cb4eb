/- (*Store).Try, walked. -/
import Derived.Test.YtpmffneohcbhbaaDoorStoGone
namespace Go.Proofs.YtpmffneohcbhbaaDoor.Sto
open Go.RowKit Heap
open Subj (Tok ML pieces takes)
open Rec (Rc recErr far recA rcOf err_len check_any)
open Idx (Ents ptrV mem_take_get mem_drop_get idxL)
open Shf (XAt NextX getL dropL putL SortedE get_x put_x drop_x count_x)

/-- A record as a value. -/
def recV (r : Rc) : Value := .agg #[.int .i64 r.kind, .int .i64 r.seq, .int .i64 r.time, .string ⟨r.subj.toArray⟩, .string ⟨r.head.toArray⟩, .string ⟨r.data.toArray⟩]

/-- A record of texts that are not too long. -/
structure Fits (r : Rc) : Prop where
  s : r.subj.length ≤ 1048576
  h : r.head.length ≤ 1048576
  d : r.data.length ≤ 1048576

theorem sixC {bx : Nat} {a0 a1 a2 a3 a4 a5 : Value} {t : TypeId} {w : World} (h : w.heap[bx]? = some (.cells #[a0, a1, a2, a3, a4, a5] t (0, 0))) :
    w.cell? ⟨bx, 0, none⟩ = some a0 ∧ w.cell? ⟨bx, 1, none⟩ = some a1 ∧ w.cell? ⟨bx, 2, none⟩ = some a2 ∧ w.cell? ⟨bx, 3, none⟩ = some a3 ∧ w.cell? ⟨bx, 4, none⟩ = some a4 ∧ w.cell? ⟨bx, 5, none⟩ = some a5 := by
  refine ⟨?_, ?_, ?_, ?_, ?_, ?_⟩
  · rw [cell_of_row w bx 0 _ _ _ h]; rfl
  · rw [cell_of_row w bx 1 _ _ _ h]; rfl
  · rw [cell_of_row w bx 2 _ _ _ h]; rfl
  · rw [cell_of_row w bx 3 _ _ _ h]; rfl
  · rw [cell_of_row w bx 4 _ _ _ h]; rfl
  · rw [cell_of_row w bx 5 _ _ _ h]; rfl

section
variable {W w : World} {M : Nat → Prop} {x N D : Nat} {I : Ents} {v : Value} {L : List Rc} {bt last : Int}

theorem Right.seqs (h : Right L last I) : ∀ r ∈ L, 0 ≤ r.seq ∧ r.seq ≤ far := fun r hr => by
  have := Rec.recErr_sizes (h.good r hr).1
  exact ⟨by omega, this.2.2.2.1⟩

set_option maxHeartbeats 4000000 in
set_option maxRecDepth 100000 in
theorem try_rec (h : SAt W M x N I D v L bt last w) (hR : Right L last I) (hN : N ≤ 80000) (hm : ML W) (r : Rc) (hf : Fits r) :
    Calls Tryd.prog 45 #[.pointer (some ⟨D, 0, none⟩), recV r] w fun e w' => e = .returned (.int .i64 (tryS L last I r : Nat)) ∧ Below w.heap.size w w' := by
  obtain ⟨s, hd, d, hp⟩ := parts r
  unfold recV
  rw [hp.s1, hp.h1, hp.d1]
  obtain ⟨T, hT⟩ : ∃ T, tryS L last I r = T := ⟨_, rfl⟩
  rw [hT]
  have HT := Lib.hid hT
  clear hT
  obtain ⟨w1, hw1⟩ : ∃ w1, w1 = w.alloc (.cells #[.int .i64 r.kind, .int .i64 r.seq, .int .i64 r.time, .string s, .string hd, .string d] 56) := ⟨_, rfl⟩
  have hb1 : Below w.heap.size w w1 := by rw [hw1]; exact (Below.refl _ _).alloc (Nat.le_refl _) _
  have hea : w1.heap[w.heap.size]? = some (.cells #[.int .i64 r.kind, .int .i64 r.seq, .int .i64 r.time, .string s, .string hd, .string d] 56 (0, 0)) := by rw [hw1]; exact heap_alloc_new w _
  obtain ⟨bx, hbx⟩ : ∃ bx, w.heap.size = bx := ⟨_, rfl⟩
  rw [hbx] at hea
  have hS1 := h.next hb1
  have hck := check_any r.kind r.seq r.time s hd d w1 (by rw [hp.s3]; exact hf.s) (by rw [hp.h3]; exact hf.h) (by rw [hp.d3]; exact hf.d) (hm.below hS1.idx.below)
  unfold recA at hck
  rw [hp.rc] at hck
  have hs1m : s.size ≤ 1048576 := by rw [hp.s3]; exact hf.s
  obtain ⟨q0, q1, q2, q3, q4, q5⟩ := sixC hea
  have hbxl := heap_lt hea
  have HCK := Lib.hid hck; have HS1 := Lib.hid hS1; have HB1 := Lib.hid hb1; have HEA := Lib.hid hea; have HBX := Lib.hid hbx; have HP := Lib.hid hp; have HR := Lib.hid hR; have HML := Lib.hid hm
  clear h hck hS1 hb1 hea hbx hp hf hR hm
  by_cases her : recErr r = 0
  · rw [her] at HCK
    have HER := Lib.hid her
    have hsz := Rec.recErr_sizes her
    unfold far at hsz
    obtain ⟨z1, z2, z3, z4, _⟩ := hsz
    have hseqs := HR.out.seqs
    have HSQ := Lib.hid hseqs
    clear her hseqs
    go_enter Tryd.func45, Tryd.ntmps45
    go_upto_region 1 with fail
    rw [← hw1, HBX.out]
    clear hw1
    go_wp2_with fail
    refine HCK.out.mono ?_
    rintro e w2 ⟨rfl, hb2⟩
    have HS2 := Lib.hid (HS1.out.next hb2)
    have hea2 := (hb2.block bx hbxl).trans HEA.out
    obtain ⟨q0, q1, q2, q3, q4, q5⟩ := sixC hea2
    have hbxl2 := heap_lt hea2
    obtain ⟨c0, c1, c2, c3, cf⟩ := fourS HS2.out.cell
    have hlt := HS2.out.lt
    have HEA2 := Lib.hid hea2
    have HB2 := Lib.hid (HB1.out.trans (hb2.mono HB1.out.size))
    clear hb2 hea2 HCK hbxl HEA
    by_cases hk1 : r.kind = 1
    · rw [hk1] at q0
      have HK := Lib.hid hk1
      by_cases hq : r.seq ≤ last
      · obtain rfl : T = 9 := by rw [← HT.out]; unfold tryS; rw [if_neg (by rw [HER.out]; simp), if_pos hk1, if_pos hq]
        clear hk1
        go_wp2_with fail
        go_quiet (fail)
        go_wp2_with fail
        go_ret
        exact ⟨rfl, below_drewN HB2.out _⟩
      · clear hk1
        have hq0 : ¬ r.seq ≤ last := hq
        go_upto_region 6 with fail
        go_cut [25] from 19 to 25 (fun s25 wx => s25 = .bool false ∧ Hid (∃ q, wx = w2.drewN q))
        case first =>
          go_quiet (fail)
          go_wp2_with fail
          go_meet
          exact ⟨by simp [hq0], Lib.hid ⟨_, rfl⟩⟩
        case rest =>
        obtain ⟨rfl, hcq⟩ := hcut
        obtain ⟨q, rfl⟩ := hcq.out
        have hbq : Below w2.heap.size w2 (w2.drewN q) := below_drewN (Below.refl _ _) q
        obtain ⟨w3, hw3⟩ : ∃ w3, w3 = w2.drewN q := ⟨_, rfl⟩
        rw [← hw3] at hbq ⊢
        have hS3 := HS2.out.next hbq
        have hea3 := (hbq.block bx hbxl2).trans HEA2.out
        have HS3 := Lib.hid hS3; have HEA3 := Lib.hid hea3; have HB3 := Lib.hid (HB2.out.trans (hbq.mono HB2.out.size))
        have hbxl3 := heap_lt hea3
        clear hbq hw3 c0 c1 c2 c3 cf hlt q0 q1 q2 q3 q4 q5 hbxl2 hS3 hea3
        have hS3d := HS3.out.next (w1 := w3.drew) (Below.refl _ _).drew
        have HS3D := Lib.hid hS3d
        obtain ⟨c0, c1, c2, c3, cf⟩ := fourS hS3d.cell
        have hlt := hS3d.lt
        obtain ⟨q0, q1, q2, q3, q4, q5⟩ := sixC (w := w3.drew) HEA3.out
        have hg := get_x hS3d.idx (by omega) HML.out s hs1m
        rw [HP.out.s2, (good_parts HER.out HK.out).1, counts_get hS3d.idx.sorted HR.out.count] at hg
        obtain ⟨c, hcc⟩ : ∃ c, cntR L r.subj = c := ⟨_, rfl⟩
        rw [hcc] at hg
        have HCC := Lib.hid hcc
        clear hS3d hcc
        by_cases hc0 : c = 0
        · subst hc0
          rw [if_pos rfl] at hg
          have HG := Lib.hid hg
          clear hg
          go_upto_region 8 with fail
          go_region_held3 (fun w' => w'.cell? ⟨D, 1, none⟩ = some (ptrV x) ∧ w'.cell? ⟨bx, 3, none⟩ = some (.string s)) (first | (with_reducible exact ⟨k1, n3⟩) | (with_reducible exact ⟨c1, q3⟩) | go_keep)
            (first
              | (go_at_call 15; ((with_reducible refine HG.out.mono ?_); rintro e w4 ⟨rfl, hb4⟩; have hS4 := HS3D.out.next hb4; have hea4 := (hb4.block bx hbxl3).trans HEA3.out; obtain ⟨k0, k1, k2, k3, kf⟩ := fourS hS4.cell; have hlt4 := hS4.lt; obtain ⟨n0, n1, n2, n3, n4, n5⟩ := sixC hea4; have HS4 := Lib.hid hS4; have HB4 := Lib.hid (HB3.out.drew.trans (hb4.mono HB3.out.drew.size)); clear hS4 hea4 hb4)))
          obtain ⟨va, vc, hv⟩ := HS4.out.row.slice
          subst hv
          obtain ⟨n, hnL⟩ : ∃ n, L.length = n := ⟨_, rfl⟩
          rw [hnL] at k0 c0
          have HNL := Lib.hid hnL
          have HCN := Lib.hid (count_x HS4.out.idx)
          obtain ⟨ni, hni⟩ : ∃ ni, I.length = ni := ⟨_, rfl⟩
          rw [hni] at HCN
          have HNI := Lib.hid hni
          clear hnL hni HG n0 n1 n2 n3 n4 n5 q0 q1 q2 q3 q4 q5 c0 c1 c2 c3 cf
          by_cases h200 : n = 200
          · obtain rfl : T = 8 := by rw [← HT.out]; unfold tryS; rw [if_neg (by rw [HER.out]; simp), if_pos HK.out, if_neg (show ¬ r.seq ≤ last by omega), if_pos (.inl (by rw [HNL.out]; exact h200))]
            subst h200
            go_wp2_with fail
            go_ret
            exact ⟨rfl, HB4.out⟩
          · by_cases h100 : ni = 100
            · obtain rfl : T = 8 := by rw [← HT.out]; unfold tryS; rw [if_neg (by rw [HER.out]; simp), if_pos HK.out, if_neg (show ¬ r.seq ≤ last by omega), if_pos (.inr ⟨HCC.out, by rw [HNI.out]; exact h100⟩)]
              subst h100
              go_wp2_with fail
              refine HCN.out.mono ?_
              rintro e w' ⟨rfl, rfl⟩
              go_wp2_with fail
              go_ret
              exact ⟨rfl, HB4.out⟩
            · obtain rfl : T = 0 := by
                rw [← HT.out]; unfold tryS
                rw [if_neg (by rw [HER.out]; simp), if_pos HK.out, if_neg (show ¬ r.seq ≤ last by omega), if_neg (by rw [HNL.out, HNI.out]; rintro (h | h); exact h200 h; exact h100 h.2)]
              have b200 : ((n : Int) == 200) = false := by rw [beq_eq_false_iff_ne]; omega
              have b100 : ((ni : Int) == 100) = false := by rw [beq_eq_false_iff_ne]; omega
              go_wp2_with fail
              refine HCN.out.mono ?_
              rintro e w' ⟨rfl, rfl⟩
              go_wp2_with fail
              go_ret
              exact ⟨rfl, HB4.out⟩
        · rw [if_neg hc0] at hg
          have HG := Lib.hid hg
          have HC0 := Lib.hid hc0
          clear hg hc0
          go_upto_region 8 with fail
          go_region_held3 (fun w' => w'.cell? ⟨D, 1, none⟩ = some (ptrV x) ∧ w'.cell? ⟨bx, 3, none⟩ = some (.string s)) (first | (with_reducible exact ⟨k1, n3⟩) | (with_reducible exact ⟨c1, q3⟩) | go_keep)
            (first
              | (go_at_call 15; ((with_reducible refine HG.out.mono ?_); rintro e w4 ⟨rfl, hb4⟩; have hS4 := HS3D.out.next hb4; have hea4 := (hb4.block bx hbxl3).trans HEA3.out; obtain ⟨k0, k1, k2, k3, kf⟩ := fourS hS4.cell; have hlt4 := hS4.lt; obtain ⟨n0, n1, n2, n3, n4, n5⟩ := sixC hea4; have HS4 := Lib.hid hS4; have HB4 := Lib.hid (HB3.out.drew.trans (hb4.mono HB3.out.drew.size)); clear hS4 hea4 hb4)))
          obtain ⟨va, vc, hv⟩ := HS4.out.row.slice
          subst hv
          obtain ⟨n, hnL⟩ : ∃ n, L.length = n := ⟨_, rfl⟩
          rw [hnL] at k0 c0
          have HNL := Lib.hid hnL
          have HCN := Lib.hid (count_x HS4.out.idx)
          obtain ⟨ni, hni⟩ : ∃ ni, I.length = ni := ⟨_, rfl⟩
          rw [hni] at HCN
          have HNI := Lib.hid hni
          clear hnL hni HG n0 n1 n2 n3 n4 n5 q0 q1 q2 q3 q4 q5 c0 c1 c2 c3 cf
          by_cases h200 : n = 200
          · obtain rfl : T = 8 := by rw [← HT.out]; unfold tryS; rw [if_neg (by rw [HER.out]; simp), if_pos HK.out, if_neg (show ¬ r.seq ≤ last by omega), if_pos (.inl (by rw [HNL.out]; exact h200))]
            subst h200
            go_wp2_with fail
            go_ret
            exact ⟨rfl, HB4.out⟩
          · obtain rfl : T = 0 := by
              rw [← HT.out]; unfold tryS
              rw [if_neg (by rw [HER.out]; simp), if_pos HK.out, if_neg (show ¬ r.seq ≤ last by omega), if_neg (by rw [HNL.out, HCC.out]; rintro (h | h); exact h200 h; exact HC0.out h.1)]
            go_wp2_with fail
            go_ret
            exact ⟨rfl, HB4.out⟩
    · by_cases hk2 : r.kind = 2
      · have HPL := Lib.hid (place_rec HS2.out (by have := HR.out.few; omega) r.seq)
        have HK := Lib.hid hk2; have HK1 := Lib.hid hk1
        rw [hk2] at q0
        clear hk1 hk2
        go_wp2_with fail
        refine HPL.out.mono ?_
        rintro e w4 ⟨i, fd, rfl, hfo, hb4⟩
        obtain ⟨_, _, hfd, _⟩ := hfo.in HR.out.rise HR.out.seqs (by omega)
        have HB4 := Lib.hid (HB2.out.trans (hb4.mono HB2.out.size))
        have hT : T = if fd then 0 else 4 := by
          rw [← HT.out]; unfold tryS
          rw [if_neg (by rw [HER.out]; simp), if_neg HK1.out, if_pos HK.out, hfd]
        clear hb4 hfo hfd HPL
        cases fd with
        | true =>
          obtain rfl : T = 0 := by rw [hT]; rfl
          clear hT
          go_wp2_with fail
          go_ret
          exact ⟨rfl, HB4.out⟩
        | false =>
          obtain rfl : T = 4 := by rw [hT]; rfl
          clear hT
          go_wp2_with fail
          go_ret
          exact ⟨rfl, HB4.out⟩
      · obtain rfl : T = 0 := by
          rw [← HT.out]; unfold tryS
          rw [if_neg (by rw [HER.out]; simp), if_neg hk1, if_neg hk2]
        go_wp2_with fail
        go_ret
        exact ⟨rfl, HB2.out⟩
  · obtain rfl : T = recErr r := by rw [← HT.out]; unfold tryS; rw [if_pos her]
    have he0 : ((recErr r : Int) != 0) = true := by simpa using her
    generalize recErr r = er at *
    clear her
    go_enter Tryd.func45, Tryd.ntmps45
    go_upto_region 1 with fail
    rw [← hw1, HBX.out]
    clear hw1
    go_wp2_with fail
    refine HCK.out.mono ?_
    rintro e w2 ⟨rfl, hb2⟩
    have HF := Lib.hid (HB1.out.trans (hb2.mono HB1.out.size))
    clear hb2
    go_wp2_with fail
    go_ret
    exact ⟨rfl, HF.out⟩
end
end Go.Proofs.YtpmffneohcbhbaaDoor.Sto
