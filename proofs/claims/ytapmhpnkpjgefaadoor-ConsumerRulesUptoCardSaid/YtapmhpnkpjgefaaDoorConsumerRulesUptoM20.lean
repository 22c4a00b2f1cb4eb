/- Parts of the proof, joined: (*Store).Try, walked.; (*Store).purge, walked.; A store as a whole: what is right of it, its blocks, what comes of it. -/
import Derived.Test.YtapmhpnkpjgefaaDoorConsumerRulesUptoM11
import Derived.Test.YtapmhpnkpjgefaaDoorConsumerRulesUptoM13
import Derived.Test.YtapmhpnkpjgefaaDoorConsumerRulesUptoM15
import Derived.Test.YtapmhpnkpjgefaaDoorConsumerRulesUptoM19
namespace Go.Proofs.YtapmhpnkpjgefaaDoor.Sto
open Go.RowKit Heap
open Subj (Tok ML pieces takes)
open Rec (Rc recErr far recA rcOf err_len check_any)
open Idx (Ents ptrV mem_take_get mem_drop_get idxL)
open Shf (XAt NextX getL dropL putL SortedE get_x put_x drop_x count_x)

section
variable {W w : World} {M : Nat → Prop} {x N D : Nat} {I : Ents} {v : Value} {L : List Rc} {bt last : Int}

theorem Right.seqs (h : Right L last I) : ∀ r ∈ L, 0 ≤ r.seq ∧ r.seq ≤ far := fun r hr => by
  have := Rec.recErr_sizes (h.good r hr).1
  exact ⟨by omega, this.2.2.2.1⟩

set_option maxHeartbeats 4000000 in
set_option maxRecDepth 100000 in
theorem try_rec (h : SAt W M x N I D v L bt last w) (hR : Right L last I) (hN : N ≤ 80000) (hm : ML W) (r : Rc) (hf : Fits r) :
    Calls Tryd.prog 29 #[.pointer (some ⟨D, 0, none⟩), recV r] w fun e w' => e = .returned (.int .i64 (tryS L last I r : Nat)) ∧ Below w.heap.size w w' := by
  obtain ⟨s, hd, d, hp⟩ := parts r
  unfold recV
  rw [hp.s1, hp.h1, hp.d1]
  obtain ⟨T, hT⟩ : ∃ T, tryS L last I r = T := ⟨_, rfl⟩
  rw [hT]
  have HT := Lib.hid hT
  clear hT
  obtain ⟨w1, hw1⟩ : ∃ w1, w1 = w.alloc (.cells #[.int .i64 r.kind, .int .i64 r.seq, .int .i64 r.time, .string s, .string hd, .string d] 42) := ⟨_, rfl⟩
  have hb1 : Below w.heap.size w w1 := by rw [hw1]; exact (Below.refl _ _).alloc (Nat.le_refl _) _
  have hea : w1.heap[w.heap.size]? = some (.cells #[.int .i64 r.kind, .int .i64 r.seq, .int .i64 r.time, .string s, .string hd, .string d] 42 (0, 0)) := by rw [hw1]; exact heap_alloc_new w _
  obtain ⟨bx, hbx⟩ : ∃ bx, w.heap.size = bx := ⟨_, rfl⟩
  rw [hbx] at hea
  have hS1 := h.next hb1
  have hck := check_any r.kind r.seq r.time s hd d w1 (by rw [hp.s3]; exact hf.s) (by rw [hp.h3]; exact hf.h) (by rw [hp.d3]; exact hf.d) (hm.below hS1.idx.below)
  unfold recA at hck
  rw [hp.rc] at hck
  have hs1m : s.size ≤ 1048576 := by rw [hp.s3]; exact hf.s
  obtain ⟨q0, q1, q2, q3, q4, q5⟩ := sixC hea
  have hbxl := heap_lt hea
  have HCK := Lib.hid hck; have HS1 := Lib.hid hS1; have HB1 := Lib.hid hb1; have HEA := Lib.hid hea; have HBX := Lib.hid hbx; have HP := Lib.hid hp; have HR := Lib.hid hR; have HML := Lib.hid hm
  clear h hck hS1 hb1 hea hbx hp hf hR hm
  by_cases her : recErr r = 0
  · rw [her] at HCK
    have HER := Lib.hid her
    have hsz := Rec.recErr_sizes her
    unfold far at hsz
    obtain ⟨z1, z2, z3, z4, _⟩ := hsz
    have hseqs := HR.out.seqs
    have HSQ := Lib.hid hseqs
    clear her hseqs
    go_enter Tryd.func29, Tryd.ntmps29
    go_upto_region 1 with fail
    rw [← hw1, HBX.out]
    clear hw1
    go_wp2_with fail
    refine HCK.out.mono ?_
    rintro e w2 ⟨rfl, hb2⟩
    have HS2 := Lib.hid (HS1.out.next hb2)
    have hea2 := (hb2.block bx hbxl).trans HEA.out
    obtain ⟨q0, q1, q2, q3, q4, q5⟩ := sixC hea2
    have hbxl2 := heap_lt hea2
    obtain ⟨c0, c1, c2, c3, cf⟩ := fourS HS2.out.cell
    have hlt := HS2.out.lt
    have HEA2 := Lib.hid hea2
    have HB2 := Lib.hid (HB1.out.trans (hb2.mono HB1.out.size))
    clear hb2 hea2 HCK hbxl HEA
    by_cases hk1 : r.kind = 1
    · rw [hk1] at q0
      have HK := Lib.hid hk1
      by_cases hq : r.seq ≤ last
      · obtain rfl : T = 9 := by rw [← HT.out]; unfold tryS; rw [if_neg (by rw [HER.out]; simp), if_pos hk1, if_pos hq]
        clear hk1
        go_wp2_with fail
        go_quiet (fail)
        go_wp2_with fail
        go_ret
        exact ⟨rfl, below_drewN HB2.out _⟩
      · clear hk1
        have hq0 : ¬ r.seq ≤ last := hq
        go_upto_region 6 with fail
        go_cut [25] from 19 to 25 (fun s25 wx => s25 = .bool false ∧ Hid (∃ q, wx = w2.drewN q))
        case first =>
          go_quiet (fail)
          go_wp2_with fail
          go_meet
          exact ⟨by simp [hq0], Lib.hid ⟨_, rfl⟩⟩
        case rest =>
        obtain ⟨rfl, hcq⟩ := hcut
        obtain ⟨q, rfl⟩ := hcq.out
        have hbq : Below w2.heap.size w2 (w2.drewN q) := below_drewN (Below.refl _ _) q
        obtain ⟨w3, hw3⟩ : ∃ w3, w3 = w2.drewN q := ⟨_, rfl⟩
        rw [← hw3] at hbq ⊢
        have hS3 := HS2.out.next hbq
        have hea3 := (hbq.block bx hbxl2).trans HEA2.out
        have HS3 := Lib.hid hS3; have HEA3 := Lib.hid hea3; have HB3 := Lib.hid (HB2.out.trans (hbq.mono HB2.out.size))
        have hbxl3 := heap_lt hea3
        clear hbq hw3 c0 c1 c2 c3 cf hlt q0 q1 q2 q3 q4 q5 hbxl2 hS3 hea3
        have hS3d := HS3.out.next (w1 := w3.drew) (Below.refl _ _).drew
        have HS3D := Lib.hid hS3d
        obtain ⟨c0, c1, c2, c3, cf⟩ := fourS hS3d.cell
        have hlt := hS3d.lt
        obtain ⟨q0, q1, q2, q3, q4, q5⟩ := sixC (w := w3.drew) HEA3.out
        have hg := get_x hS3d.idx (by omega) HML.out s hs1m
        rw [HP.out.s2, (good_parts HER.out HK.out).1, counts_get hS3d.idx.sorted HR.out.count] at hg
        obtain ⟨c, hcc⟩ : ∃ c, cntR L r.subj = c := ⟨_, rfl⟩
        rw [hcc] at hg
        have HCC := Lib.hid hcc
        clear hS3d hcc
        by_cases hc0 : c = 0
        · subst hc0
          rw [if_pos rfl] at hg
          have HG := Lib.hid hg
          clear hg
          go_upto_region 8 with fail
          go_region_held3 (fun w' => w'.cell? ⟨D, 1, none⟩ = some (ptrV x) ∧ w'.cell? ⟨bx, 3, none⟩ = some (.string s)) (first | (with_reducible exact ⟨k1, n3⟩) | (with_reducible exact ⟨c1, q3⟩) | go_keep)
            (first
              | (go_at_call 47; ((with_reducible refine HG.out.mono ?_); rintro e w4 ⟨rfl, hb4⟩; have hS4 := HS3D.out.next hb4; have hea4 := (hb4.block bx hbxl3).trans HEA3.out; obtain ⟨k0, k1, k2, k3, kf⟩ := fourS hS4.cell; have hlt4 := hS4.lt; obtain ⟨n0, n1, n2, n3, n4, n5⟩ := sixC hea4; have HS4 := Lib.hid hS4; have HB4 := Lib.hid (HB3.out.drew.trans (hb4.mono HB3.out.drew.size)); clear hS4 hea4 hb4)))
          obtain ⟨va, vc, hv⟩ := HS4.out.row.slice
          subst hv
          obtain ⟨n, hnL⟩ : ∃ n, L.length = n := ⟨_, rfl⟩
          rw [hnL] at k0 c0
          have HNL := Lib.hid hnL
          have HCN := Lib.hid (count_x HS4.out.idx)
          obtain ⟨ni, hni⟩ : ∃ ni, I.length = ni := ⟨_, rfl⟩
          rw [hni] at HCN
          have HNI := Lib.hid hni
          clear hnL hni HG n0 n1 n2 n3 n4 n5 q0 q1 q2 q3 q4 q5 c0 c1 c2 c3 cf
          by_cases h200 : n = 200
          · obtain rfl : T = 8 := by rw [← HT.out]; unfold tryS; rw [if_neg (by rw [HER.out]; simp), if_pos HK.out, if_neg (show ¬ r.seq ≤ last by omega), if_pos (.inl (by rw [HNL.out]; exact h200))]
            subst h200
            go_wp2_with fail
            go_ret
            exact ⟨rfl, HB4.out⟩
          · by_cases h100 : ni = 100
            · obtain rfl : T = 8 := by rw [← HT.out]; unfold tryS; rw [if_neg (by rw [HER.out]; simp), if_pos HK.out, if_neg (show ¬ r.seq ≤ last by omega), if_pos (.inr ⟨HCC.out, by rw [HNI.out]; exact h100⟩)]
              subst h100
              go_wp2_with fail
              refine HCN.out.mono ?_
              rintro e w' ⟨rfl, rfl⟩
              go_wp2_with fail
              go_ret
              exact ⟨rfl, HB4.out⟩
            · obtain rfl : T = 0 := by
                rw [← HT.out]; unfold tryS
                rw [if_neg (by rw [HER.out]; simp), if_pos HK.out, if_neg (show ¬ r.seq ≤ last by omega), if_neg (by rw [HNL.out, HNI.out]; rintro (h | h); exact h200 h; exact h100 h.2)]
              have b200 : ((n : Int) == 200) = false := by rw [beq_eq_false_iff_ne]; omega
              have b100 : ((ni : Int) == 100) = false := by rw [beq_eq_false_iff_ne]; omega
              go_wp2_with fail
              refine HCN.out.mono ?_
              rintro e w' ⟨rfl, rfl⟩
              go_wp2_with fail
              go_ret
              exact ⟨rfl, HB4.out⟩
        · rw [if_neg hc0] at hg
          have HG := Lib.hid hg
          have HC0 := Lib.hid hc0
          clear hg hc0
          go_upto_region 8 with fail
          go_region_held3 (fun w' => w'.cell? ⟨D, 1, none⟩ = some (ptrV x) ∧ w'.cell? ⟨bx, 3, none⟩ = some (.string s)) (first | (with_reducible exact ⟨k1, n3⟩) | (with_reducible exact ⟨c1, q3⟩) | go_keep)
            (first
              | (go_at_call 47; ((with_reducible refine HG.out.mono ?_); rintro e w4 ⟨rfl, hb4⟩; have hS4 := HS3D.out.next hb4; have hea4 := (hb4.block bx hbxl3).trans HEA3.out; obtain ⟨k0, k1, k2, k3, kf⟩ := fourS hS4.cell; have hlt4 := hS4.lt; obtain ⟨n0, n1, n2, n3, n4, n5⟩ := sixC hea4; have HS4 := Lib.hid hS4; have HB4 := Lib.hid (HB3.out.drew.trans (hb4.mono HB3.out.drew.size)); clear hS4 hea4 hb4)))
          obtain ⟨va, vc, hv⟩ := HS4.out.row.slice
          subst hv
          obtain ⟨n, hnL⟩ : ∃ n, L.length = n := ⟨_, rfl⟩
          rw [hnL] at k0 c0
          have HNL := Lib.hid hnL
          have HCN := Lib.hid (count_x HS4.out.idx)
          obtain ⟨ni, hni⟩ : ∃ ni, I.length = ni := ⟨_, rfl⟩
          rw [hni] at HCN
          have HNI := Lib.hid hni
          clear hnL hni HG n0 n1 n2 n3 n4 n5 q0 q1 q2 q3 q4 q5 c0 c1 c2 c3 cf
          by_cases h200 : n = 200
          · obtain rfl : T = 8 := by rw [← HT.out]; unfold tryS; rw [if_neg (by rw [HER.out]; simp), if_pos HK.out, if_neg (show ¬ r.seq ≤ last by omega), if_pos (.inl (by rw [HNL.out]; exact h200))]
            subst h200
            go_wp2_with fail
            go_ret
            exact ⟨rfl, HB4.out⟩
          · obtain rfl : T = 0 := by
              rw [← HT.out]; unfold tryS
              rw [if_neg (by rw [HER.out]; simp), if_pos HK.out, if_neg (show ¬ r.seq ≤ last by omega), if_neg (by rw [HNL.out, HCC.out]; rintro (h | h); exact h200 h; exact HC0.out h.1)]
            go_wp2_with fail
            go_ret
            exact ⟨rfl, HB4.out⟩
    · by_cases hk2 : r.kind = 2
      · have HPL := Lib.hid (place_rec HS2.out (by have := HR.out.few; omega) r.seq)
        have HK := Lib.hid hk2; have HK1 := Lib.hid hk1
        rw [hk2] at q0
        clear hk1 hk2
        go_wp2_with fail
        refine HPL.out.mono ?_
        rintro e w4 ⟨i, fd, rfl, hfo, hb4⟩
        obtain ⟨_, _, hfd, _⟩ := hfo.in HR.out.rise HR.out.seqs (by omega)
        have HB4 := Lib.hid (HB2.out.trans (hb4.mono HB2.out.size))
        have hT : T = if fd then 0 else 4 := by
          rw [← HT.out]; unfold tryS
          rw [if_neg (by rw [HER.out]; simp), if_neg HK1.out, if_pos HK.out, hfd]
        clear hb4 hfo hfd HPL
        cases fd with
        | true =>
          obtain rfl : T = 0 := by rw [hT]; rfl
          clear hT
          go_wp2_with fail
          go_ret
          exact ⟨rfl, HB4.out⟩
        | false =>
          obtain rfl : T = 4 := by rw [hT]; rfl
          clear hT
          go_wp2_with fail
          go_ret
          exact ⟨rfl, HB4.out⟩
      · obtain rfl : T = 0 := by
          rw [← HT.out]; unfold tryS
          rw [if_neg (by rw [HER.out]; simp), if_neg hk1, if_neg hk2]
        go_wp2_with fail
        go_ret
        exact ⟨rfl, HB2.out⟩
  · obtain rfl : T = recErr r := by rw [← HT.out]; unfold tryS; rw [if_pos her]
    have he0 : ((recErr r : Int) != 0) = true := by simpa using her
    generalize recErr r = er at *
    clear her
    go_enter Tryd.func29, Tryd.ntmps29
    go_upto_region 1 with fail
    rw [← hw1, HBX.out]
    clear hw1
    go_wp2_with fail
    refine HCK.out.mono ?_
    rintro e w2 ⟨rfl, hb2⟩
    have HF := Lib.hid (HB1.out.trans (hb2.mono HB1.out.size))
    clear hb2
    go_wp2_with fail
    go_ret
    exact ⟨rfl, HF.out⟩
end
end Go.Proofs.YtapmhpnkpjgefaaDoor.Sto

namespace Go.Proofs.YtapmhpnkpjgefaaDoor.Sto
open Go.RowKit Heap
open Subj (Tok ML pieces takes StrsAt)
open Rec (Rc recErr far recA rcOf err_len check_any)
open Idx (Ents ptrV mem_take_get mem_drop_get idxL split_dot strsAt_lt touch_strs)
open Shf (XAt NextX getL dropL putL SortedE)

def keepP (r x : Rc) : Bool := !(decide (x.seq < r.seq) && takes (pieces r.subj) (pieces x.subj))

theorem keep_step {r p : Rc} {L : List Rc} {j : Nat} (hj : L[j]? = some p) : (L.take (j + 1)).filter (keepP r) = (L.take j).filter (keepP r) ++ if keepP r p then [p] else [] := by
  rw [List.take_add_one, hj, List.filter_append]
  congr 1
  simp only [Option.toList, List.filter_cons, List.filter_nil]

theorem keep_all {r : Rc} {l : List Rc} (h : ∀ x ∈ l, r.seq ≤ x.seq) : l.filter (keepP r) = l := by
  rw [List.filter_eq_self]
  intro x hx
  have := h x hx
  unfold keepP
  rw [decide_eq_false (by omega)]; rfl

def lenOf (D : Nat) (w : World) : Nat := match w.cell? ⟨D, 0, none⟩ with
  | some (.slice _ n _) => n
  | _ => 0

section
variable {W w : World} {M : Nat → Prop} {x N D : Nat} {I : Ents} {v : Value} {L : List Rc} {bt last : Int}

theorem SAt.len (h : SAt W M x N I D v L bt last w) : lenOf D w = L.length := by
  obtain ⟨a, c, rfl⟩ := h.row.slice
  unfold lenOf
  rw [(fourS h.cell).1]

/-- In the midst of a purge. -/
def PSt (W w0 : World) (M : Nat → Prop) (x N D : Nat) (v : Value) (last : Int) (cur : List Rc) (w : World) : Prop :=
  ∃ M' I' v' N', SAt W M' x N' I' D v' cur (bytesR cur : Nat) last w ∧ Counts I' cur ∧ Step w0 w M M' v v' D ∧ N' + 8 * cur.length ≤ N

theorem PSt.next {w0 w1 : World} {cur : List Rc} (h : PSt W w0 M x N D v last cur w) (hb : Below w.heap.size w w1) (hD : D < w0.heap.size) : PSt W w0 M x N D v last cur w1 := by
  obtain ⟨M', I', v', N', h1, h2, h3, h4⟩ := h
  exact ⟨M', I', v', N', h1.next hb, h2, h3.trans (Step.below hb) hD, h4⟩

theorem bytes_le {L : List Rc} (h : ∀ r ∈ L, recErr r = 0 ∧ r.kind = 1) : bytesR L ≤ 391 * L.length := by
  induction L with
  | nil => simp [bytesR]
  | cons a L ih =>
    have h1 := ih fun r hr => h r (by simp [hr])
    obtain ⟨_, h2, h3⟩ := good_parts (h a (by simp)).1 (h a (by simp)).2
    have h4 : bytesR (a :: L) = sizeR a + bytesR L := by simp [bytesR]
    rw [h4, List.length_cons]
    unfold sizeR
    omega

set_option maxHeartbeats 8000000 in
set_option maxRecDepth 100000 in
theorem purge_rec (h : SAt W M x N I D v L (bytesR L : Nat) last w) (hR : Right L last I) (hN : N + 8 * L.length ≤ 80000) (hm : ML W) (r : Rc) (hf : Fits r) :
    Calls Tryd.prog 34 #[.pointer (some ⟨D, 0, none⟩), recV r] w fun e w' => e = .returned (.tuple #[]) ∧ PSt W w M x (N + 8 * L.length) D v last (L.filter (keepP r)) w' := by
  obtain ⟨s, hd, d, hp⟩ := parts r
  unfold recV
  rw [hp.s1, hp.h1, hp.d1]
  obtain ⟨w1, hw1⟩ : ∃ w1, w1 = w.alloc (.cells #[.int .i64 r.kind, .int .i64 r.seq, .int .i64 r.time, .string s, .string hd, .string d] 42) := ⟨_, rfl⟩
  have hb1 : Below w.heap.size w w1 := by rw [hw1]; exact (Below.refl _ _).alloc (Nat.le_refl _) _
  have hea : w1.heap[w.heap.size]? = some (.cells #[.int .i64 r.kind, .int .i64 r.seq, .int .i64 r.time, .string s, .string hd, .string d] 42 (0, 0)) := by rw [hw1]; exact heap_alloc_new w _
  obtain ⟨bx, hbx⟩ : ∃ bx, w.heap.size = bx := ⟨_, rfl⟩
  rw [hbx] at hea
  have hS1 := h.next hb1
  have hsp := split_dot s w1 (by rw [hp.s3]; exact hf.s) (hm.below hS1.idx.below)
  rw [hp.s2] at hsp
  have hpl : (pieces r.subj).length ≤ 1048577 := by
    have := Subj.pieces_size s (by rw [hp.s3]; exact hf.s)
    rw [hp.s2] at this; exact this
  obtain ⟨q0, q1, q2, q3, q4, q5⟩ := sixC hea
  have hbxl := heap_lt hea
  have hDw := h.lt
  obtain ⟨gf, hgf⟩ : ∃ gf, w1.heap.size = gf := ⟨_, rfl⟩
  have hw1s : w1.heap.size = w.heap.size + 1 := by rw [hw1]; simp
  rw [hgf] at hsp
  obtain ⟨fl, hfl⟩ : ∃ fl, pieces r.subj = fl := ⟨_, rfl⟩
  rw [hfl] at hsp hpl
  have HSP := Lib.hid hsp; have HS1 := Lib.hid hS1; have HB1 := Lib.hid hb1; have HEA := Lib.hid hea; have HBX := Lib.hid hbx; have HR := Lib.hid hR; have HML := Lib.hid hm; have HFL := Lib.hid hfl; have HG1 := Lib.hid (show bx < gf ∧ w.heap.size = bx by omega)
  have HOW := Lib.hid (show ∀ k, M k ∨ own v k → k < w.heap.size from fun k hk => hk.elim (fun h1 => h.idx.bM h1) fun h1 => h.row.lt k h1)
  have HGF := Lib.hid hgf
  have HNE := Lib.hid (show fl ≠ [] by rw [← hfl]; exact Subj.pieces_ne _)
  obtain ⟨n, hnL⟩ : ∃ n, L.length = n := ⟨_, rfl⟩
  have HNL := Lib.hid hnL
  have hn200 : n ≤ 200 := by rw [← hnL]; exact hR.few
  rw [hnL] at hN ⊢
  clear hnL h hsp hS1 hb1 hea hbx hp hf hR hm hfl hgf hw1s
  go_enter Tryd.func34, Tryd.ntmps34
  go_upto_region 1 with fail
  rw [← hw1, HBX.out]
  clear hw1
  go_wp2_with fail
  refine HSP.out.mono ?_
  rintro e w2 ⟨rfl, hst2, hb2⟩
  rw [← HGF.out] at hb2
  have HS2 := Lib.hid (HS1.out.next hb2); have HST2 := Lib.hid hst2
  have hea2 := (hb2.block bx hbxl).trans HEA.out
  have HEA2 := Lib.hid hea2
  have hb12 := HB1.out.trans (hb2.mono HB1.out.size)
  have HB2 := Lib.hid hb12
  have hgl := strsAt_lt hst2 HNE.out
  have hDw2 : D < w2.heap.size := Nat.lt_of_lt_of_le hDw hb12.size
  clear hst2 hb2 hea2 HSP q0 q1 q2 q3 q4 q5 hbxl hb12
  have h0 : PSt W w2 M x (N + 8 * n) D v last L w2 := ⟨M, I, v, N, HS2.out, HR.out.count, Step.refl _ _ _ _, by rw [HNL.out]; exact Nat.le_refl _⟩
  have HP0 := Lib.hid h0
  clear h0
  go_wp2_with fail
  go_loopw [5] (fun i wr => ∃ j : Nat, j ≤ n ∧ i = .int .i64 ((L.take j).filter (keepP r)).length ∧ Hid (∀ x ∈ L.take j, x.seq < r.seq) ∧ Hid (PSt W w2 M x (N + 8 * n) D v last ((L.take j).filter (keepP r) ++ L.drop j) wr)) (fun i wr => lenOf D wr - (intOf i).toNat)
  case atStart => exact ⟨0, Nat.zero_le _, rfl, Lib.hid (fun x h => by simp at h), Lib.hid (by simpa using HP0.out)⟩
  case round =>
    obtain ⟨j, hj, rfl, HLT, HC⟩ := hrel
    clear HP0
    obtain ⟨K, hK⟩ : ∃ K, (L.take j).filter (keepP r) = K := ⟨_, rfl⟩
    rw [hK] at HC ⊢
    have HK := Lib.hid hK
    obtain ⟨M', I', v', N', h1, h2, h3, h4⟩ := HC.out
    have HM := Lib.hid h1; have HCT := Lib.hid h2; have HST := Lib.hid h3; have HNN := Lib.hid h4
    obtain ⟨c0, c1, c2, c3, cf⟩ := fourS h1.cell
    have hlt := h1.lt
    have hbox : ¬ (M bx ∨ own v bx ∨ bx = D) := fun hh => by
      have hg := HG1.out.2
      rcases hh with hh | hh | hh
      · have := HOW.out bx (.inl hh); omega
      · have := HOW.out bx (.inr hh); omega
      · omega
    have hgfn : ¬ (M gf ∨ own v gf ∨ gf = D) := fun hh => by
      have hg := HG1.out
      rcases hh with hh | hh | hh
      · have := HOW.out gf (.inl hh); omega
      · have := HOW.out gf (.inr hh); omega
      · omega
    have hear := (h3.touch.block bx (heap_lt HEA2.out) hbox).trans HEA2.out
    obtain ⟨q0, q1, q2, q3, q4, q5⟩ := sixC hear
    have hbxr := heap_lt hear
    have hstr := touch_strs HST2.out h3.touch hgfn
    have HSTR := Lib.hid hstr; have HEAR := Lib.hid hear
    have hcl : (K ++ L.drop j).length ≤ 200 := by
      have h5 : K.length ≤ j := by rw [← hK]; exact Nat.le_trans (List.length_filter_le _ _) (by rw [List.length_take]; omega)
      rw [List.length_append, List.length_drop, HNL.out]; omega
    obtain ⟨cl, hcll⟩ : ∃ cl, (K ++ L.drop j).length = cl := ⟨_, rfl⟩
    have HCL := Lib.hid hcll
    rw [hcll] at hcl
    obtain ⟨kl, hkl⟩ : ∃ kl, K.length = kl := ⟨_, rfl⟩
    have HKL := Lib.hid hkl
    rw [hkl]
    have hrow := h1.row
    rw [hcll] at hrow
    clear h2 h3 h4 hK hear hstr hcll hkl hbox hgfn
    by_cases hjn : j < n
    · obtain ⟨p, hp⟩ : ∃ p, L[j]? = some p := ⟨_, List.getElem?_eq_getElem (by rw [HNL.out]; exact hjn)⟩
      have hcur : (K ++ L.drop j)[kl]? = some p := by
        rw [← HKL.out, List.getElem?_append_right (Nat.le_refl _), Nat.sub_self, List.getElem?_drop, Nat.add_zero]; exact hp
      have hkcl : kl < cl := by rw [← HCL.out]; exact (List.getElem?_eq_some_iff.1 hcur).1
      rcases hrow.2 with ⟨_, h0⟩ | ⟨g, off, cap, cur, rfl, hgg, _⟩
      · omega
      obtain ⟨m0, m1, m2, m3, m4, m5⟩ := cells_rec hrow kl p hcur hkcl
      have hkz : (kl : Int) < cl := by omega
      by_cases hq : p.seq < r.seq
      · have hq0 : decide (p.seq < r.seq) = true := decide_eq_true hq
        have hpg := HR.out.good p (List.mem_of_getElem? hp)
        have HPG := Lib.hid hpg; have HPJ := Lib.hid hp; have HCUR := Lib.hid hcur
        go_upto_region 3 with fail
        go_cut [28] from 9 to 28 (fun s28 wx => s28 = .bool true ∧ Hid (∃ q, wx = wr.drewN q))
        case first =>
          go_quiet (fail)
          go_wp2_with fail
          go_meet
          exact ⟨by simp, Lib.hid ⟨_, rfl⟩⟩
        case rest =>
        obtain ⟨rfl, hcq⟩ := hcut
        obtain ⟨q, rfl⟩ := hcq.out
        have hbq : Below wr.heap.size wr (wr.drewN q) := below_drewN (Below.refl _ _) q
        obtain ⟨w3, hw3⟩ : ∃ w3, w3 = wr.drewN q := ⟨_, rfl⟩
        have HLEN := Lib.hid (HM.out.len.trans HCL.out)
        rw [← hw3] at hbq ⊢
        have hM3 := HM.out.next hbq
        have HSTR3 := Lib.hid (HSTR.out.below (hbq.mono (by exact Nat.le_refl _)))
        have hst3 := (HST.out).trans (Step.below (M := M') (v := .slice (some ⟨g, off, none⟩) cl cap) hbq) hDw2
        have HM3 := Lib.hid hM3; have HST3 := Lib.hid hst3
        obtain ⟨c0, c1, c2, c3, cf⟩ := fourS hM3.cell
        have hlt := hM3.lt
        have hrow3 := hM3.row
        rw [HCL.out] at hrow3
        obtain ⟨ps, ph, pd, hpp⟩ := parts p
        obtain ⟨m0, m1, m2, m3, m4, m5⟩ := cells_rec hrow3 kl p hcur hkcl
        rw [hpp.s1] at m3
        have hspl := split_dot ps w3 (by rw [hpp.s3]; have := (good_parts hpg.1 hpg.2).2.1; omega) (HML.out.below hM3.idx.below)
        rw [hpp.s2] at hspl
        have hpl2 : (pieces p.subj).length ≤ 1048577 := by
          have := Subj.pieces_size ps (by rw [hpp.s3]; have := (good_parts hpg.1 hpg.2).2.1; omega)
          rw [hpp.s2] at this; exact this
        obtain ⟨pl, hpli⟩ : ∃ pl, pieces p.subj = pl := ⟨_, rfl⟩
        rw [hpli] at hspl hpl2
        obtain ⟨B, hB⟩ : ∃ B, takes fl pl = B := ⟨_, rfl⟩
        have htk := fun (w4 : World) (ha : StrsAt w4 gf 0 fl) (hb : StrsAt w4 w3.heap.size 0 pl) => Subj.takes_any gf w3.heap.size fl.length pl.length fl pl w4 ha hb (by unfold maxLen; omega) (by unfold maxLen; omega)
        rw [hB] at htk
        have hkp : keepP r p = !B := by
          unfold keepP
          rw [hq0, HFL.out, hpli, hB, Bool.true_and]
        have hks := keep_step (r := r) hp
        rw [hkp, HK.out] at hks
        have hltn : ∀ y ∈ L.take (j + 1), y.seq < r.seq := fun y hy => by
          rw [List.take_add_one, List.mem_append] at hy
          rcases hy with hy | hy
          · exact HLT.out y hy
          · rw [hp] at hy
            simp at hy
            subst hy; exact hq
        have HSPL := Lib.hid hspl; have HTK := Lib.hid htk; have HKS := Lib.hid hks; have HLTN := Lib.hid hltn
        clear h1 hrow hgg hp hcur hbq hw3 hM3 hrow3 hpp hspl hpli hB htk hkp hks hltn hpg hst3 m0 m1 m2 m4 m5 q0 q1 q2 q3 q4 q5 hbxr
        go_wp2_with fail
        refine HSPL.out.mono ?_
        rintro e w4 ⟨rfl, hst4, hb4⟩
        have HM4 := Lib.hid (HM3.out.next hb4); have HST4 := Lib.hid (HST3.out.trans (Step.below (M := M') (v := .slice (some ⟨g, off, none⟩) cl cap) hb4) hDw2)
        have HTK4 := Lib.hid (HTK.out w4 (HSTR3.out.below hb4) hst4)
        clear hst4 hb4 HSPL HTK c0 c1 c2 c3 cf hlt m3
        go_wp2_with fail
        refine HTK4.out.mono ?_
        rintro e w' ⟨rfl, rfl⟩
        cases B with
        | false =>
          have hks : List.filter (keepP r) (L.take (j + 1)) = K ++ [p] := HKS.out
          have hl4 := HM4.out.len.trans HCL.out
          have HKS2 := Lib.hid hks
          have HL4 := Lib.hid hl4
          clear hks hl4 HTK4
          go_wp2_with fail
          refine ⟨⟨j + 1, by omega, ?_, HLTN, Lib.hid ?_⟩, ?_⟩
          · rw [HKS2.out, List.length_append, HKL.out]; go_num
          · rw [HKS2.out, List.append_assoc, show [p] ++ L.drop (j + 1) = L.drop j from by
              obtain ⟨hjl, e⟩ := List.getElem?_eq_some_iff.1 HPJ.out
              rw [List.drop_eq_getElem_cons hjl, e]; rfl]
            exact ⟨M', I', _, N', HM4.out, HCT.out, HST4.out, HNN.out⟩
          · rw [HL4.out, HLEN.out]
            simp [intOf]; omega
        | true =>
          have hks : List.filter (keepP r) (L.take (j + 1)) = K := by have := HKS.out; simpa using this
          have hbl : ∀ y ∈ K ++ L.drop j, recErr y = 0 ∧ y.kind = 1 := fun y hy => by
            rcases List.mem_append.1 hy with hy | hy
            · rw [← HK.out] at hy
              exact HR.out.good y (List.mem_of_mem_take (List.mem_filter.1 hy).1)
            · exact HR.out.good y (List.mem_of_mem_drop hy)
          have hby := bytes_le hbl
          have hbd := bytes_del HCUR.out
          have hG := gone_rec HM4.out (by have := HNN.out; omega) HML.out HCT.out (by rw [HCL.out]; omega) HCUR.out HPG.out ⟨by omega, by rw [HCL.out] at hby; omega⟩
          have herase : (K ++ L.drop j).eraseIdx kl = K ++ L.drop (j + 1) := by
            rw [← HKL.out, List.eraseIdx_append_of_length_le (Nat.le_refl _), Nat.sub_self, List.eraseIdx_zero, List.tail_drop]
          have HG := Lib.hid hG; have HE := Lib.hid herase; have HKS2 := Lib.hid hks; have HBD := Lib.hid hbd
          clear hks hbl hby hbd hG herase HTK4
          go_wp2_with fail
          refine HG.out.mono ?_
          rintro e w5 ⟨rfl, M5, I5, v5, hS5, hC5, hst5⟩
          have HBY : ((bytesR (K ++ L.drop j) : Nat) : Int) - (sizeR p : Int) = ((bytesR ((K ++ L.drop j).eraseIdx kl) : Nat) : Int) := by rw [HBD.out]; omega
          rw [HBY] at hS5
          have hel : ((K ++ L.drop j).eraseIdx kl).length = cl - 1 := by rw [List.length_eraseIdx, HCL.out, if_pos hkcl]
          have hl5 := hS5.len.trans hel
          have HNX := Lib.hid (show PSt W w2 M x (N + 8 * n) D v last ((K ++ L.drop j).eraseIdx kl) w5 from ⟨M5, I5, v5, N' + 8, hS5, hC5, HST4.out.trans hst5 hDw2, by rw [hel]; have := HNN.out; rw [HCL.out] at this; omega⟩)
          have HL5 := Lib.hid hl5
          clear hS5 hC5 hst5 HBY hel hl5 HG
          go_wp2_with fail
          refine ⟨⟨j + 1, by omega, ?_, HLTN, Lib.hid ?_⟩, ?_⟩
          · rw [HKS2.out, HKL.out]
          · rw [HKS2.out, ← HE.out]; exact HNX.out
          · rw [HL5.out, HLEN.out]
            simp [intOf]; omega
      · have hq0 : decide (p.seq < r.seq) = false := decide_eq_false hq
        have hfin : (K ++ L.drop j) = L.filter (keepP r) := by
          have h6 : ∀ y ∈ L.drop j, r.seq ≤ y.seq := fun y hy => by
            obtain ⟨jj, hjj, e⟩ := mem_drop_get hy
            by_cases e2 : jj = j
            · subst e2; rw [hp] at e; cases e; omega
            · obtain ⟨ha, rfl⟩ := List.getElem?_eq_some_iff.1 hp
              obtain ⟨hb, rfl⟩ := List.getElem?_eq_some_iff.1 e
              have := List.pairwise_iff_getElem.1 HR.out.rise j jj ha hb (by omega)
              omega
          conv => rhs; rw [← List.take_append_drop j L, List.filter_append, keep_all h6, HK.out]
        have HFIN := Lib.hid (show PSt W w M x (N + 8 * n) D v last (L.filter (keepP r)) wr from by
          obtain ⟨M', I', v', N', h1, h2, h3, h4⟩ := HC.out
          rw [hfin] at h1 h2 h4
          exact ⟨M', I', v', N', h1, h2, (Step.below HB2.out).trans h3 hDw, h4⟩)
        clear h1 hrow hgg hp hcur hfin
        go_wp2_with fail
        go_quiet (fail)
        go_wp2_with fail
        go_end0
        exact ⟨rfl, HFIN.out.next (below_drewN (Below.refl _ _) _) hDw⟩
    · obtain rfl : j = n := by omega
      have hfin : (K ++ L.drop j) = L.filter (keepP r) := by
        rw [List.drop_of_length_le (by rw [HNL.out]; exact Nat.le_refl _), List.append_nil, ← HK.out, List.take_of_length_le (by rw [HNL.out]; exact Nat.le_refl _)]
      have hkc : kl = cl := by
        rw [← HKL.out, ← HCL.out, List.drop_of_length_le (by rw [HNL.out]; exact Nat.le_refl _), List.append_nil]
      subst hkc
      have HFIN := Lib.hid (show PSt W w M x (N + 8 * j) D v last (L.filter (keepP r)) wr from by
        obtain ⟨M', I', v', N', h1, h2, h3, h4⟩ := HC.out
        rw [hfin] at h1 h2 h4
        exact ⟨M', I', v', N', h1, h2, (Step.below HB2.out).trans h3 hDw, h4⟩)
      obtain ⟨va, vc, rfl⟩ := hrow.slice
      have hq0 : decide ((kl : Int) < kl) = false := decide_eq_false (by omega)
      clear h1 hrow hfin
      go_wp2_with fail
      go_quiet (fail)
      go_wp2_with fail
      go_end0
      exact ⟨rfl, HFIN.out.next (below_drewN (Below.refl _ _) _) hDw⟩
end
end Go.Proofs.YtapmhpnkpjgefaaDoor.Sto

namespace Go.Proofs.YtapmhpnkpjgefaaDoor.Sto
open Go.RowKit Heap
open Subj (Tok ML pieces takes StrsAt)
open Rec (Rc recErr far)
open Idx (Ents ptrV)
open Shf (XAt NextX SortedE)

/-- The store at D in memory, of the blocks F. -/
structure StoreAt (W : World) (F : Nat → Prop) (D B : Nat) (L : List Rc) (last : Int) (w : World) : Prop where
  ex : ∃ M x N I v, SAt W M x N I D v L (bytesR L : Nat) last w ∧ Right L last I ∧ N + 8 * L.length ≤ B ∧ ∀ k, M k ∨ own v k → F k
  fD : F D
  newF : ∀ k, F k → W.heap.size ≤ k
  bF : ∀ k, F k → k < w.heap.size

/-- A store that has come of another one. -/
def NextSt (W : World) (F : Nat → Prop) (D B : Nat) (w : World) (L' : List Rc) (last' : Int) (w' : World) : Prop :=
  (∃ F', StoreAt W F' D B L' last' w' ∧ ∀ k, F' k → F k ∨ w.heap.size ≤ k) ∧ Heap.Touch F w w'

section
variable {W w w1 : World} {F : Nat → Prop} {D B B' : Nat} {L L' : List Rc} {last last' : Int}

theorem StoreAt.below (h : StoreAt W F D B L last w) : Below W.heap.size W w := by
  obtain ⟨M, x, N, I, v, h1, _⟩ := h.ex
  exact h1.idx.below

theorem StoreAt.right (h : StoreAt W F D B L last w) : ∃ I, Right L last I := by
  obtain ⟨M, x, N, I, v, _, h2, _⟩ := h.ex
  exact ⟨I, h2⟩

theorem StoreAt.mono (h : StoreAt W F D B L last w) (hB : B ≤ B') : StoreAt W F D B' L last w := by
  obtain ⟨M, x, N, I, v, h1, h2, h3, h4⟩ := h.ex
  exact ⟨⟨M, x, N, I, v, h1, h2, by omega, h4⟩, h.fD, h.newF, h.bF⟩

theorem StoreAt.kept (h : StoreAt W F D B L last w) (hb : Below W.heap.size W w1) (hsz : w.heap.size ≤ w1.heap.size) (hs : Same F w w1) : StoreAt W F D B L last w1 := by
  obtain ⟨M, x, N, I, v, h1, h2, h3, h4⟩ := h.ex
  refine ⟨⟨M, x, N, I, v, ⟨h1.idx.kept hb hsz fun k hk hlt => hs k (h4 k (.inl hk)) hlt, (hs D h.fD h1.lt).trans h1.cell, h1.row.kept fun k hk hlt => hs k (h4 k (.inr hk)) hlt, h1.mD, h1.oldD, h1.vM⟩, h2, h3, h4⟩, h.fD, h.newF, fun k hk => Nat.lt_of_lt_of_le (h.bF k hk) hsz⟩

theorem StoreAt.next (h : StoreAt W F D B L last w) (hb : Below w.heap.size w w1) : StoreAt W F D B L last w1 :=
  h.kept (h.below.trans (hb.mono h.below.size)) hb.size fun k _ hk => hb.block k hk

theorem NextSt.same (h : StoreAt W F D B L last w) (hb : Below w.heap.size w w1) (hB : B ≤ B') : NextSt W F D B' w L last w1 := ⟨⟨F, (h.next hb).mono hB, fun _ hk => .inl hk⟩, Heap.Touch.ofBelow hb⟩

/-- Steps joined into one. -/
theorem StoreAt.step (h : StoreAt W F D B L last w) {M M' : Nat → Prop} {v v' : Value} {x N' : Nat} {I' : Ents} (hMv : ∀ k, M k ∨ own v k → F k) (hs : SAt W M' x N' I' D v' L' (bytesR L' : Nat) last' w1) (hR : Right L' last' I') (hB : N' + 8 * L'.length ≤ B') (hst : Step w w1 M M' v v' D) : NextSt W F D B' w L' last' w1 := by
  have ht : Heap.Touch F w w1 := hst.touch.mono fun k _ hk => by
    rcases hk with hk | hk | rfl
    · exact hMv k (.inl hk)
    · exact hMv k (.inr hk)
    · exact h.fD
  refine ⟨⟨fun k => (F k ∨ w.heap.size ≤ k) ∧ k < w1.heap.size, ⟨⟨M', x, N', I', v', hs, hR, hB, fun k hk => ⟨(hst.new k hk).imp (hMv k) id, ?_⟩⟩, ⟨.inl h.fD, hs.lt⟩, fun k hk => ?_, fun k hk => hk.2⟩, fun k hk => hk.1⟩, ht⟩
  · rcases hk with hk | hk
    · exact hs.idx.bM hk
    · exact hs.row.lt k hk
  · rcases hk.1 with e | e
    · exact h.newF k e
    · exact Nat.le_trans h.below.size e

theorem NextSt.below (h : NextSt W F D B w L' last' w1) : Below W.heap.size W w1 := by
  obtain ⟨⟨F', h1, _⟩, _⟩ := h
  exact h1.below
end
end Go.Proofs.YtapmhpnkpjgefaaDoor.Sto
