/- The law StoreSums, walked: it returns true. -/
import Derived.Test.YtpmffneohcbhbaaDoorPurges
import Derived.Test.YtpmffneohcbhbaaDoorShfRun
namespace Go.Proofs.YtpmffneohcbhbaaDoor.Sto
open Go.RowKit Heap
open Subj (Tok ML pieces takes StrsAt isB matchR)
open Rec (Rc recErr far)
open Idx (Ents ptrV findL FindPost entV)
open Shf (SortedE find_x cells_pull)

theorem sums1 : (runS [noteR 4, noteR 7]).1.length = 2 := by decide
theorem sums2 : bytesR (runS [noteR 4, noteR 7]).1 = 8 := by decide
theorem sums3 : ((runS [noteR 4, noteR 7]).1.head?.map (·.seq)).getD 0 = 4 := by decide
theorem sums4 : (runS [noteR 4, noteR 7]).2 = 7 := by decide

theorem nodup_le_subjs : ∀ L : List Rc, (subjs L).length ≤ L.length
  | [] => Nat.le_refl _
  | a :: L => by
    have ih := nodup_le_subjs L
    unfold subjs
    split <;> simp <;> omega

theorem find_all (I : Ents) : findL I [62] = I := by
  unfold findL
  rw [List.filter_eq_self]
  intro x _
  rw [show pieces [62] = [[62]] from rfl, Idx.takes_gt]
  have := Subj.pieces_ne x.1
  cases h : pieces x.1 with
  | nil => exact absurd h this
  | cons a l => rfl

theorem sum_step {S : List Tok} (hn : S.Nodup) {s : Tok} (hs : s ∈ S) (f : Tok → Nat) : (S.map fun t => f t + if s = t then 1 else 0).sum = (S.map f).sum + 1 := by
  induction S with
  | nil => cases hs
  | cons a S ih =>
    simp only [List.map_cons, List.sum_cons]
    obtain ⟨h1, h2⟩ := List.nodup_cons.1 hn
    by_cases h : s = a
    · subst h
      have h3 : (S.map fun t => f t + if s = t then 1 else 0) = S.map f := by
        refine List.map_congr_left fun t ht => ?_
        rw [if_neg (show ¬ s = t from fun e => h1 (by rw [e]; exact ht))]; simp
      rw [h3]; simp; omega
    · have hs' : s ∈ S := by rcases List.mem_cons.1 hs with e | e; exact absurd e h; exact e
      rw [ih h2 hs', if_neg h]; omega

theorem zeros : ∀ S : List Tok, (S.map fun _ => (0 : Nat)).sum = 0
  | [] => rfl
  | a :: S => by simp only [List.map_cons, List.sum_cons, zeros S]

theorem sum_cnt : ∀ (L : List Rc) (S : List Tok), S.Nodup → (∀ r ∈ L, r.subj ∈ S) → (S.map (cntR L)).sum = L.length
  | [], S, _, _ => by
    have : S.map (cntR []) = S.map fun _ => 0 := List.map_congr_left fun t _ => rfl
    rw [this]
    exact zeros S
  | r :: L, S, hn, h => by
    have ih := sum_cnt L S hn fun x hx => h x (by simp [hx])
    have h2 : S.map (cntR (r :: L)) = S.map fun t => cntR L t + if r.subj = t then 1 else 0 := by
      refine List.map_congr_left fun t _ => ?_
      unfold cntR
      rw [List.countP_cons]
      by_cases e : r.subj = t <;> simp [e]
    rw [h2, sum_step hn (h r (by simp)) (cntR L), ih]
    simp

theorem counts_sum {I : Ents} {L : List Rc} (h : SortedE I) (hc : Counts I L) : (I.map (·.2)).sum = (L.length : Int) := by
  have h1 : I.map (·.2) = (I.map (·.1)).map fun s => (cntR L s : Int) := by
    rw [List.map_map]
    exact List.map_congr_left fun e he => ((hc e.1 e.2).1 he).1
  have h2 := sum_cnt L (I.map (·.1)) (sorted_nodup h) fun r hr => by
    rw [List.mem_map]
    exact ⟨(r.subj, cntR L r.subj), (hc _ _).2 ⟨rfl, cnt_ne.2 ⟨r, hr, rfl⟩⟩, rfl⟩
  rw [h1, ← h2]
  generalize I.map (·.1) = S
  induction S with
  | nil => rfl
  | cons a S ih => simp only [List.map_cons, List.sum_cons, ih]; omega

theorem sum_take {I : Ents} {L : List Rc} (hc : Counts I L) (hl : L.length ≤ 200) (k : Nat) : 0 ≤ ((I.take k).map (·.2)).sum ∧ ((I.take k).map (·.2)).sum ≤ 200 * (k : Int) := by
  have h : ∀ e ∈ I, 0 ≤ e.2 ∧ e.2 ≤ 200 := fun e he => by
    have h1 := ((hc e.1 e.2).1 he).1
    have h2 : cntR L e.1 ≤ L.length := List.countP_le_length
    omega
  clear hc
  induction I generalizing k with
  | nil => simp; omega
  | cons a I ih =>
    cases k with
    | zero => simp
    | succ k =>
      have h1 := h a (by simp)
      have h2 := ih k fun e he => h e (by simp [he])
      simp only [List.take_succ_cons, List.map_cons, List.sum_cons]
      omega

theorem take_sum {I : Ents} {k : Nat} {p : Tok × Int} (h : I[k]? = some p) : ((I.take (k + 1)).map (·.2)).sum = ((I.take k).map (·.2)).sum + p.2 := by
  rw [List.take_add_one, h]
  simp

section
variable {W w : World} {F : Nat → Prop} {D B : Nat} {L : List Rc} {last : Int}

theorem subjects_any (hA : StoreAt W F D B L last w) (hB : B ≤ 80000) (hm : ML W) (f : ByteArray) (hf : f.size ≤ 1048576) : ∃ I, Right L last I ∧
    Calls Tryd.prog 35 #[.pointer (some ⟨D, 0, none⟩), .string f] w (FindPost (Subj.err true f.data.toList) (findL I f.data.toList) w) := by
  obtain ⟨M, x, N, I, v, h, hR, hN, _⟩ := hA.ex
  refine ⟨I, hR, ?_⟩
  obtain ⟨c0, c1, c2, c3, cf⟩ := fourS h.cell
  have hlt := h.lt
  have HC := Lib.hid (find_x h.idx (by omega) hm f hf)
  generalize Subj.err true f.data.toList = er at *
  generalize findL I f.data.toList = FL at *
  clear hA h hR hN hB
  go_enter Tryd.func35, Tryd.ntmps35
  go_wp2_with fail
  refine HC.out.mono ?_
  rintro e w' ⟨hb, hcase⟩
  obtain ⟨v, rfl, hfp⟩ : ∃ v, e = .returned (.tuple #[v, .int .i64 er]) ∧ FindPost er FL w (.returned (.tuple #[v, .int .i64 er])) w' := by
    rcases hcase with ⟨h1, rfl⟩ | ⟨rfl, v, rfl, h2, h3⟩
    · exact ⟨_, rfl, hb, .inl ⟨h1, rfl⟩⟩
    · exact ⟨v, rfl, hb, .inr ⟨rfl, v, rfl, h2, h3⟩⟩
  have HF := Lib.hid hfp
  clear hb hcase hfp HC
  go_wp2
  go_ret2
  exact HF.out
end

section
variable {w : World}

set_option maxHeartbeats 8000000 in
set_option maxRecDepth 100000 in
theorem storeSums_walk (hm : ML w) {v : Value} {l : List Rc} (hl : RecsAt w v l) (hf : ∀ r ∈ l, Fits r) :
    Calls Tryd.prog 6 #[v] w fun e w' => e = .returned (.bool true) ∧ Below w.heap.size w w' := by
  obtain ⟨n, hnL⟩ : ∃ n, l.length = n := ⟨_, rfl⟩
  have HN := Lib.hid hnL
  obtain ⟨ao, cap, rfl, ha⟩ := hl
  have HL := Lib.hid (show RecsAt w (.slice ao l.length cap) l from ⟨ao, cap, rfl, ha⟩); have HF := Lib.hid hf; have HML := Lib.hid hm
  rw [hnL] at HL ⊢
  clear ha hf hm hnL
  go_enter Tryd.func6, Tryd.ntmps6
  go_wp2_with fail
  refine (note_any 4).mono ?_
  rintro e w1 ⟨rfl, hb1⟩
  have HB1 := Lib.hid hb1
  clear hb1
  unfold recV
  go_wp2_with fail
  refine (note_any 7).mono ?_
  rintro e w2 ⟨rfl, hb2⟩
  have HB2 := Lib.hid (HB1.out.trans (hb2.mono HB1.out.size))
  clear hb2 HB1
  unfold recV
  go_wp2_with fail
  refine (filled_any (W := w) (w := w2.alloc (.cells (recsV [noteR 4, noteR 7]).toArray 56)) (HB2.out.alloc HB2.out.size _) HML.out (recs_new w2 [noteR 4, noteR 7]) (by decide) (fun r hr => by
    simp only [List.mem_cons, List.not_mem_nil, or_false] at hr
    rcases hr with rfl | rfl
    · exact fits_note 4
    · exact fits_note 7)).mono ?_
  rintro e w3 ⟨D0, F0, rfl, hS0, hF0, hb3⟩
  have hsu := sums_any hS0
  unfold sumsV at hsu
  rw [sums1, sums2, sums3, sums4] at hsu
  have HSU := Lib.hid hsu
  have HB3 := Lib.hid ((HB2.out.alloc HB2.out.size _).trans (hb3.mono (by have := HB2.out.size; simp; omega)))
  clear hsu hS0 hF0 hb3
  go_wp2_with fail
  refine HSU.out.mono ?_
  rintro e w4 ⟨rfl, hb4⟩
  have HB4 := Lib.hid (HB3.out.trans (hb4.mono HB3.out.size))
  clear hb4 HSU HB3
  by_cases h250 : 250 < n
  · have h250z : (250 : Int) < n := by omega
    go_wp2_with fail
    go_ret
    exact ⟨rfl, HB4.out⟩
  have h250z : ¬ (250 : Int) < n := by omega
  go_wp2_with fail
  have hfil := filled_any (W := w) HB4.out HML.out (by rw [← HN.out] at HL; exact HL.out.below HB4.out (Nat.le_refl _)) (by rw [HN.out]; omega) HF.out
  rw [HN.out] at hfil
  refine hfil.mono ?_
  clear hfil
  rintro e w5 ⟨D, F, rfl, hS5, hF5, hb5⟩
  rw [HN.out] at hS5
  obtain ⟨L, hL⟩ : ∃ L, (runS l).1 = L := ⟨_, rfl⟩
  obtain ⟨last, hlast⟩ : ∃ last, (runS l).2 = last := ⟨_, rfl⟩
  rw [hL, hlast] at hS5
  have HS5 := Lib.hid hS5
  have HB5 := Lib.hid (HB4.out.trans (hb5.mono HB4.out.size))
  have HAL := Lib.hid (all_any hS5)
  clear hS5 hF5 hb5 hL hlast
  go_wp2_with fail
  refine HAL.out.mono ?_
  rintro e w6 ⟨v6, rfl, hr6, hb6, ho6⟩
  have HR6 := Lib.hid (row_recs hr6)
  have HB6 := Lib.hid (HB5.out.trans (hb6.mono HB5.out.size))
  have HS6 := Lib.hid (HS5.out.next hb6)
  have HSU := Lib.hid (sums_any HS6.out)
  clear hr6 hb6 ho6 HAL
  obtain ⟨I, hRI⟩ := HS6.out.right
  have hm200 := hRI.few
  have hby := bytes_le hRI.good
  have HRI := Lib.hid hRI
  clear hRI
  unfold sumsV at HSU
  obtain ⟨m, hmL⟩ : ∃ m, L.length = m := ⟨_, rfl⟩
  rw [hmL] at HSU hm200 hby
  have HM := Lib.hid hmL
  obtain ⟨bt, hbt⟩ : ∃ bt, bytesR L = bt := ⟨_, rfl⟩
  obtain ⟨fz, hfz⟩ : ∃ fz, (L.head?.map (·.seq)).getD 0 = fz := ⟨_, rfl⟩
  rw [hbt, hfz] at HSU
  rw [hbt] at hby
  have HBT := Lib.hid hbt; have HFZ := Lib.hid hfz
  clear hmL hbt hfz
  obtain ⟨a6, c6, hv6, ha6⟩ := HR6.out
  rw [HM.out] at hv6
  subst hv6
  clear ha6
  go_wp2_with fail
  refine HSU.out.mono ?_
  rintro e w7 ⟨rfl, hb7⟩
  obtain ⟨w8, hw8⟩ : ∃ w8, w8 = w7.alloc (.cells #[.int .i64 m, .int .i64 bt, .int .i64 fz, .int .i64 last] 59) := ⟨_, rfl⟩
  have hb8 : Below w7.heap.size w7 w8 := by rw [hw8]; exact (Below.refl _ _).alloc (Nat.le_refl _) _
  have hsb : w8.heap[w7.heap.size]? = some (.cells #[.int .i64 m, .int .i64 bt, .int .i64 fz, .int .i64 last] 59 (0, 0)) := by rw [hw8]; exact heap_alloc_new w7 _
  have hb68 := hb7.trans (hb8.mono hb7.size)
  have HB8 := Lib.hid (HB6.out.trans (hb68.mono HB6.out.size))
  have HS8 := Lib.hid (HS6.out.next hb68)
  have HR8 := Lib.hid (HR6.out.below hb68 (Nat.le_refl _))
  obtain ⟨sb, hsbe⟩ : ∃ sb, w7.heap.size = sb := ⟨_, rfl⟩
  rw [hsbe] at hsb
  have HSB := Lib.hid hsb; have HSE := Lib.hid hsbe
  clear hb7 hb8 hsb hb68 hsbe HSU
  go_upto_region 8 with fail
  rw [← hw8, HSE.out]
  clear hw8
  go_wp2_with fail
  have hbl : bt ≤ 78200 := by omega
  go_loopw [7, 34] (fun b i wr => ∃ k : Nat, k ≤ m ∧ i = .int .i64 k ∧ (∃ bk : Nat, b = .int .i64 bk ∧ bk = bytesR (L.take k)) ∧ Hid (Below w8.heap.size w8 wr)) (fun _ i _ => m - (intOf i).toNat)
  case atStart => exact ⟨0, Nat.zero_le _, rfl, ⟨0, rfl, rfl⟩, Lib.hid (Below.refl _ _)⟩
  case round =>
    obtain ⟨k, hk, rfl, ⟨bk, rfl, hbk⟩, HW⟩ := hrel
    have HBK := Lib.hid hbk
    clear hbk
    have hsr := (HW.out.block sb (heap_lt HSB.out)).trans HSB.out
    obtain ⟨x0, x1, x2, x3, xf⟩ := fourS hsr
    have hsl := heap_lt hsr
    by_cases hlt : k < m
    · have hltz : (k : Int) < m := by omega
      obtain ⟨p, hp⟩ : ∃ p, L[k]? = some p := ⟨_, List.getElem?_eq_getElem (by rw [HM.out]; exact hlt)⟩
      have hpm := List.mem_of_getElem? hp
      obtain ⟨a', c', hv, ha⟩ := HR8.out.below HW.out (Nat.le_refl _)
      simp only [Value.slice.injEq] at hv
      obtain ⟨rfl, hv0, rfl⟩ := hv
      clear hv0
      obtain ⟨g, off, rfl, hcs⟩ := ha (fun e => by rw [e] at hp; simp at hp)
      obtain ⟨m0, m1, m2, m3, m4, m5⟩ := hcs k p hp
      obtain ⟨s, h, d, hpp⟩ := parts p
      rw [hpp.s1] at m3
      rw [hpp.h1] at m4
      rw [hpp.d1] at m5
      have hpk := (HRI.out.good p hpm).2
      have htop := HRI.out.top p hpm
      have hpg := good_parts (HRI.out.good p hpm).1 hpk
      rw [hpk] at m0
      obtain ⟨wb, hwb⟩ : ∃ wb, wb = wr.alloc (.cells #[.int .i64 1, .int .i64 p.seq, .int .i64 p.time, .string s, .string h, .string d] 56) := ⟨_, rfl⟩
      have hba : Below wr.heap.size wr wb := by rw [hwb]; exact (Below.refl _ _).alloc (Nat.le_refl _) _
      have hea : wb.heap[wr.heap.size]? = some (.cells #[.int .i64 1, .int .i64 p.seq, .int .i64 p.time, .string s, .string h, .string d] 56 (0, 0)) := by rw [hwb]; exact heap_alloc_new wr _
      obtain ⟨bx, hbx⟩ : ∃ bx, wr.heap.size = bx := ⟨_, rfl⟩
      rw [hbx] at hea
      have HWB := Lib.hid (HW.out.trans (hba.mono HW.out.size))
      have hstep : bytesR (L.take (k + 1)) = bk + (s.size + h.size + d.size) := by
        rw [List.take_add_one, hp]
        show bytesR (L.take k ++ [p]) = _
        rw [bytes_append, HBK.out]
        unfold sizeR
        rw [hpp.s3, hpp.h3, hpp.d3]
      have hbkl : bk ≤ 78200 := by
        have h1 := bytes_le (L := L.take k) fun r hr => HRI.out.good r (List.mem_of_mem_take hr)
        rw [← HBK.out, List.length_take] at h1
        omega
      have hszl : s.size + h.size + d.size ≤ 400 := by rw [hpp.s3, hpp.h3, hpp.d3]; omega
      obtain ⟨q0, q1, q2, q3, q4, q5⟩ := sixC hea
      have hbxl := heap_lt hea
      have hsb2 := (hba.block sb hsl).trans hsr
      obtain ⟨x0, x1, x2, x3, xf⟩ := fourS hsb2
      have hsl2 := heap_lt hsb2
      have HSTEP := Lib.hid hstep; have HBX := Lib.hid hbx; have HCS := Lib.hid hcs; have HPJ := Lib.hid hp
      have hseq : p.seq ≤ last := htop
      generalize hsq : p.seq = sq at *
      generalize p.time = tm at *
      have hd3 : decide (last < sq) = false := decide_eq_false (by omega)
      by_cases hk0 : k = 0
      · have hkz : ¬ (0 : Int) < k := by omega
        have hd : decide ((0 : Int) < k) = false := decide_eq_false hkz
        have hdn : decide (0 < k) = false := decide_eq_false (by omega)
        have hkn : ¬ 0 < k := by omega
        clear ha hcs hp hpp hpg hba hea hbx hstep hsr hsb2 htop hpk hk0
        go_upto_region 12 with fail
        rw [← hwb, HBX.out]
        clear hwb m0 m1 m2 m3 m4 m5
        go_wp2_with fail
        go_quiet (fail)
        go_wp2_with fail
        exact ⟨⟨k + 1, by omega, by go_num, ⟨_, by go_num, HSTEP.out.symm⟩, Lib.hid (below_drewN HWB.out _)⟩, by simp [intOf]; omega⟩
      · obtain ⟨o, ho⟩ : ∃ o, L[k - 1]? = some o := ⟨_, List.getElem?_eq_getElem (by rw [HM.out]; omega)⟩
        obtain ⟨n0, n1, _⟩ := hcs (k - 1) o ho
        have hgl : g < wr.heap.size := World.block_lt_of_cell? wr _ n1
        have n1' := (World.cell?_of_block (a := ⟨g, off + (k - 1) * 6 + 1, none⟩) (hba.block g hgl)).trans n1
        have hos : o.seq < sq := by
          obtain ⟨ha1, e1⟩ := List.getElem?_eq_some_iff.1 ho
          obtain ⟨ha2, e2⟩ := List.getElem?_eq_some_iff.1 hp
          have h3 := List.pairwise_iff_getElem.1 HRI.out.rise (k - 1) k ha1 ha2 (by omega)
          rw [e1, e2] at h3
          omega
        generalize o.seq = oq at n1' hos
        have hkz : (0 : Int) < k := by omega
        have hd : decide ((0 : Int) < k) = true := decide_eq_true hkz
        have hdn : decide (0 < k) = true := decide_eq_true (by omega)
        have hkn : 0 < k := by omega
        have hw1 : IntKind.i64.wrap ((k : Int) - 1) = (k : Int) - 1 := IntWalk.i64_in _ (by omega)
        have hw2 : (0 : Int) ≤ (k : Int) - 1 := by omega
        have hw3 : ((k : Int) - 1).toNat = k - 1 := by omega
        have hw4 : (k : Int) - 1 < m := by omega
        have hg2 : decide (sq ≤ oq) = false := decide_eq_false (by omega)
        clear ha hcs hp hpp hpg hba hea hbx hstep hsr hsb2 htop hpk hk0 n0 n1 ho
        go_upto_region 12 with fail
        rw [← hwb, HBX.out]
        clear hwb m0 m1 m2 m3 m4 m5
        go_wp2_with fail
        go_quiet (fail)
        go_wp2_with fail
        exact ⟨⟨k + 1, by omega, by go_num, ⟨_, by go_num, HSTEP.out.symm⟩, Lib.hid (below_drewN HWB.out _)⟩, by simp [intOf]; omega⟩
    · have hltz : ¬ (k : Int) < m := by omega
      obtain rfl : k = m := by omega
      have hbe : bk = bt := by rw [HBK.out, List.take_of_length_le (by rw [HM.out]; exact Nat.le_refl _), HBT.out]
      subst hbe
      have HSr := Lib.hid (HS8.out.next HW.out)
      obtain ⟨I2, hRI2, hsj⟩ := subjects_any HSr.out (by omega) HML.out ⟨#[62]⟩ (by decide)
      rw [show (⟨#[62]⟩ : ByteArray).data.toList = [62] from rfl, find_all, show Subj.err true [62] = 0 by decide] at hsj
      have HRI2 := Lib.hid hRI2
      have HSJ := Lib.hid hsj
      have hsum := counts_sum hRI2.sorted hRI2.count
      have HSUM := Lib.hid hsum
      have hil : I2.length ≤ 200 := by
        rw [counts_dist hRI2.sorted hRI2.count]
        refine Nat.le_trans ?_ hRI2.few
        exact nodup_le_subjs L
      have HBr := Lib.hid (HB8.out.trans (HW.out.mono HB8.out.size))
      clear hRI2 hsj hsum x0 x1 x2 x3 xf hsl
      go_wp2_with fail
      refine HSJ.out.mono ?_
      rintro e w9 ⟨hb9, hcase⟩
      rcases hcase with ⟨h0, _⟩ | ⟨_, v9, rfl, hr9, ho9⟩
      · exact absurd rfl h0
      obtain ⟨ni, hni⟩ : ∃ ni, I2.length = ni := ⟨_, rfl⟩
      rw [hni] at hr9 hil
      have HNI := Lib.hid hni
      obtain ⟨a9, c9, rfl⟩ := hr9.slice
      have HR9 := Lib.hid hr9
      have HB9 := Lib.hid (HBr.out.trans (hb9.mono HBr.out.size))
      have hsr9 := (hb9.block sb (heap_lt hsr)).trans hsr
      have HSR9 := Lib.hid hsr9
      have HRR9 := Lib.hid ((HR8.out.below HW.out (Nat.le_refl _)).below hb9 (Nat.le_refl _))
      clear hr9 ho9 hb9 hni hsr9 hsr HSJ
      go_wp2_with fail
      go_loopw [12, 85] (fun c i wr => ∃ q : Nat, q ≤ ni ∧ i = .int .i64 q ∧ (∃ z : Int, c = .int .i64 z ∧ z = ((I2.take q).map (·.2)).sum) ∧ Hid (Below w9.heap.size w9 wr)) (fun _ i _ => ni - (intOf i).toNat)
      case atStart => exact ⟨0, Nat.zero_le _, rfl, ⟨0, rfl, rfl⟩, Lib.hid (Below.refl _ _)⟩
      case round =>
        obtain ⟨q, hq, rfl, ⟨z, rfl, hz⟩, HW2⟩ := hrel
        have hzb := sum_take HRI2.out.count HRI2.out.few q
        rw [← hz] at hzb
        have HZ := Lib.hid hz
        clear hz
        by_cases hlt : q < ni
        · have hltz : (q : Int) < ni := by omega
          obtain ⟨p, hp⟩ : ∃ p, I2[q]? = some p := ⟨_, List.getElem?_eq_getElem (by rw [HNI.out]; exact hlt)⟩
          have hrr := HR9.out.kept (w' := wr) fun j _ hj => HW2.out.block j hj
          rcases hrr.2 with ⟨_, h0⟩ | ⟨g, off, cp, cur, ev, _⟩
          · omega
          simp only [Value.slice.injEq, true_and] at ev
          obtain ⟨rfl, rfl⟩ := ev
          obtain ⟨d0, d1⟩ := cells_pull hrr q p hp hlt
          have hzs := take_sum hp
          rw [← HZ.out] at hzs
          have hpb : 0 ≤ p.2 ∧ p.2 ≤ 200 := by
            have h1 := ((HRI2.out.count p.1 p.2).1 (List.mem_of_getElem? hp)).1
            have h2 : cntR L p.1 ≤ L.length := List.countP_le_length
            have h3 := HRI2.out.few
            omega
          obtain ⟨S, hS⟩ : ∃ S : ByteArray, (⟨p.1.toArray⟩ : ByteArray) = S := ⟨_, rfl⟩
          obtain ⟨pn, hpn⟩ : ∃ pn, p.2 = pn := ⟨_, rfl⟩
          rw [hS] at d0
          rw [hpn] at d1 hzs hpb
          have HZS := Lib.hid hzs
          obtain ⟨wb, hwb⟩ : ∃ wb, wb = wr.alloc (.cells #[.string S, .int .i64 pn] 40) := ⟨_, rfl⟩
          have hba : Below wr.heap.size wr wb := by rw [hwb]; exact (Below.refl _ _).alloc (Nat.le_refl _) _
          have hea : wb.heap[wr.heap.size]? = some (.cells #[.string S, .int .i64 pn] 40 (0, 0)) := by rw [hwb]; exact heap_alloc_new wr _
          obtain ⟨bx, hbx⟩ : ∃ bx, wr.heap.size = bx := ⟨_, rfl⟩
          rw [hbx] at hea
          have q1 : wb.cell? ⟨bx, 1, none⟩ = some (.int .i64 pn) := by rw [cell_of_row wb bx 1 _ _ _ hea]; rfl
          have HBX := Lib.hid hbx; have HWB := Lib.hid (HW2.out.trans (hba.mono HW2.out.size))
          have hadd : -9223372036854775808 ≤ z + pn ∧ z + pn ≤ 9223372036854775807 := by omega
          clear hp hrr hzs hS hpn hba hea hbx HW2
          go_upto_region 21 with fail
          rw [← hwb, HBX.out]
          clear hwb d0 d1
          go_wp2_with fail
          exact ⟨⟨q + 1, by omega, by go_num, ⟨z + pn, by first | rfl | go_num, HZS.out.symm⟩, HWB⟩, by simp [intOf]; omega⟩
        · have hltz : ¬ (q : Int) < ni := by omega
          obtain rfl : q = ni := by omega
          have hzm : z = (k : Int) := by
            rw [HZ.out, List.take_of_length_le (by rw [HNI.out]; exact Nat.le_refl _), HSUM.out, HM.out]
          subst hzm
          have hsr2 := (HW2.out.block sb (heap_lt HSR9.out)).trans HSR9.out
          obtain ⟨x0, x1, x2, x3, xf⟩ := fourS hsr2
          have hsl2 := heap_lt hsr2
          have HFI := Lib.hid (HB9.out.trans (HW2.out.mono HB9.out.size))
          clear hsr2
          by_cases hk0 : k = 0
          · have hL : L = [] := List.eq_nil_of_length_eq_zero (by rw [HM.out]; exact hk0)
            obtain rfl : fz = 0 := by rw [← HFZ.out, hL]; rfl
            have e1 : ((k : Int) == 0) = true := by rw [beq_iff_eq]; omega
            have e2 : (k == 0) = true := by rw [beq_iff_eq]; exact hk0
            have e3 : decide (k = 0) = true := decide_eq_true hk0
            have e4 : decide ((k : Int) = 0) = true := decide_eq_true (by omega)
            clear hL
            go_wp2_with fail
            go_quiet (fail)
            go_wp2_with fail
            go_ret
            exact ⟨by simp, below_drewN HFI.out _⟩
          · obtain ⟨p, hp⟩ : ∃ p, L[0]? = some p := ⟨_, List.getElem?_eq_getElem (by rw [HM.out]; omega)⟩
            have hz : fz = p.seq := by rw [← HFZ.out, List.head?_eq_getElem?, hp]; rfl
            obtain ⟨a', c', hv, ha⟩ := HRR9.out.below HW2.out (Nat.le_refl _)
            simp only [Value.slice.injEq] at hv
            obtain ⟨rfl, hv0, rfl⟩ := hv
            clear hv0
            obtain ⟨g, off, rfl, hcs⟩ := ha (fun e => by rw [e] at hp; simp at hp)
            obtain ⟨_, m1, _⟩ := hcs 0 p hp
            simp only [Nat.zero_mul, Nat.add_zero] at m1
            rw [← hz] at m1
            have e1 : ((k : Int) == 0) = false := by rw [beq_eq_false_iff_ne]; omega
            have e2 : (k == 0) = false := by rw [beq_eq_false_iff_ne]; exact hk0
            have e3 : decide (k = 0) = false := decide_eq_false hk0
            have e4 : decide ((k : Int) = 0) = false := decide_eq_false (by omega)
            have e5 : (0 : Int) < k := by omega
            have e6 : decide ((0 : Int) < k) = true := decide_eq_true e5
            have e7 : 0 < k := by omega
            have e8 : decide (0 < k) = true := decide_eq_true e7
            clear ha hcs hp hz
            go_wp2_with fail
            go_quiet (fail)
            go_wp2_with fail
            go_ret
            exact ⟨by simp, below_drewN HFI.out _⟩
end
end Go.Proofs.YtpmffneohcbhbaaDoor.Sto
