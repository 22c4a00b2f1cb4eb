/- Parts of the proof, joined: The reference's consumer: told, walked. -/
import Derived.Test.YthhgfdeegnimjaaGreatDoorConsumerPlaysUptoM29
import Derived.Test.YthhgfdeegnimjaaGreatDoorConsumerPlaysUptoM42
import Derived.Test.YthhgfdeegnimjaaGreatDoorConsumerPlaysUptoM44
import Derived.BigQuiet
import Derived.Deep.QuietTactic
import Derived.Deep.RegionHeld3
import Derived.StillTailTactics
namespace Go.Proofs.YthhgfdeegnimjaaGreatDoor.Hnd
open Go.RowKit Heap Con
open Subj (Tok TakerP ML takes pieces errT errT_facts)
open Sto (ChAt Right tk parts sixC recC twoC cells_rec recsV good_parts below6 set6)
open Rec (Rc far)
open Idx (Ents)

theorem left_take {t : TakerP} {L : List Rc} {place : Int} {k : Nat} {p : Rc} (h : L[k]? = some p) : leftC t (L.take (k + 1)) place = leftC t (L.take k) place + (if want t place p then 1 else 0) := by
  obtain ⟨hk, e⟩ := List.getElem?_eq_some_iff.1 h
  unfold leftC
  rw [List.take_succ_eq_append_getElem hk, e, List.countP_append, List.countP_singleton]

theorem left_few (t : TakerP) (L : List Rc) (place : Int) (k : Nat) : leftC t (L.take k) place ≤ L.length := by
  unfold leftC
  have h1 : (L.take k).countP (want t place) ≤ (L.take k).length := List.countP_le_length
  rw [List.length_take] at h1
  omega

abbrev th : TypeId := 144
abbrev tq : TypeId := 154

/-- The reference's consumer and its chest, side by side. -/
structure HPair (W : World) (C : Nat) (vC : Value) (L : List Rc) (last : Int) (K : Nat) (t : TakerP) (vb v : Value) (c : Cn) (w : World) : Prop where
  ch : ChAt W C vC L last w
  hd : CAt th tq W K t vb v c w
  nK : K ≠ C ∧ ¬ own vC K
  nv : ∀ k, own v k → k ≠ C ∧ ¬ own vC k

section
variable {W w w1 : World} {C K : Nat} {vC : Value} {L : List Rc} {last : Int} {t : TakerP} {vb v : Value} {c c' : Cn} {I : Ents}

theorem HPair.next (h : HPair W C vC L last K t vb v c w) (hb : Below w.heap.size w w1) : HPair W C vC L last K t vb v c w1 := ⟨h.ch.next hb, h.hd.next hb, h.nK, h.nv⟩

/-- The hand is turned, the chest stays. -/
theorem HPair.turn (h : HPair W C vC L last K t vb v c w) (hn : NextC th tq W K t vb v w c' w1) : ∃ v', HPair W C vC L last K t vb v' c' w1 ∧ ∀ k, own v' k → own v k ∨ w.heap.size ≤ k := by
  obtain ⟨v', h1, ht, ho⟩ := hn
  have hnv : ∀ k, own v' k → k ≠ C ∧ ¬ own vC k := fun k hk => by
    rcases ho k hk with e | e
    · exact h.nv k e
    · refine ⟨fun e2 => ?_, fun e2 => ?_⟩
      · have := heap_lt h.ch.cell; omega
      · have := h.ch.row.lt k e2; omega
  refine ⟨v', ⟨⟨(ht.block C (heap_lt h.ch.cell) fun e => ?_).trans h.ch.cell, h.ch.row.kept fun k hk hlt => ht.block k hlt fun e => ?_, h.ch.old, h.ch.mine, h1.below⟩, h1, h.nK, hnv⟩, ho⟩
  · rcases e with e | e
    · exact h.nK.1 e.symm
    · exact (h.nv C e).1 rfl
  · rcases e with rfl | e
    · exact h.nK.2 hk
    · exact (h.nv k e).2 hk

/-- Another count, another place. -/
theorem set_h (h : CAt th tq W K t vb v c w) {j : Nat} {u : Value} (hc : (conC t vb v c).setIfInBounds j u = conC t vb v c') (hl : c'.l = c.l) : CAt th tq W K t vb v c' (w.setCell ⟨K, j, none⟩ u) ∧ Heap.Touch (fun k => k = K ∨ own v k) w (w.setCell ⟨K, j, none⟩ u) := by
  have ht : Heap.Touch (fun k => k = K ∨ own v k) w (w.setCell ⟨K, j, none⟩ u) := (touch_K w K j u).mono fun k _ e => .inl e
  refine ⟨h.put ht ?_ ?_ (fun k hk => .inl hk) h.ne, ht⟩
  · rw [← hc]; exact heap_setCell_same _ _ _ _ _ _ h.cell
  · rw [hl]; exact h.row.kept fun k hk hlt => (touch_K w K j u).block k hlt (h.ne k hk)

theorem setCount_h (h : CAt th tq W K t vb v c w) (n : Int) : CAt th tq W K t vb v ⟨c.place, n, c.l⟩ (w.setCell ⟨K, 11, none⟩ (.int .i64 n)) ∧ Heap.Touch (fun k => k = K ∨ own v k) w (w.setCell ⟨K, 11, none⟩ (.int .i64 n)) :=
  set_h h (c' := ⟨c.place, n, c.l⟩) (by simp [conC]) rfl
theorem setPlace_h (h : CAt th tq W K t vb v c w) (n : Int) : CAt th tq W K t vb v ⟨n, c.count, c.l⟩ (w.setCell ⟨K, 10, none⟩ (.int .i64 n)) ∧ Heap.Touch (fun k => k = K ∨ own v k) w (w.setCell ⟨K, 10, none⟩ (.int .i64 n)) :=
  set_h h (c' := ⟨n, c.count, c.l⟩) (by simp [conC]) rfl

set_option maxHeartbeats 4000000 in
set_option maxRecDepth 100000 in
theorem told_h (h : HPair W C vC L last K t vb v c w) (hR : Right L last I) (hk : 1 ≤ c.place ∧ c.place ≤ far + 1) (hn : 0 ≤ c.count ∧ c.count ≤ 1000000000) (ht : errT t = 0) (x : Rc) (nth : Int) :
    Calls Tryz.prog 71 #[.pointer (some ⟨K, 0, none⟩), .pointer (some ⟨C, 0, none⟩), Sto.recV x, .int .i64 nth] w fun e w' => e = .returned (delV (tellP t L c x nth).2) ∧ CAt th tq W K t vb v (tellP t L c x nth).1 w' ∧ Heap.Touch (fun k => k = K) w w' := by
  have hfar : far = 1099511627776 := rfl
  have hfl := filt_len ht
  obtain ⟨s, hd, d, hp⟩ := parts x
  unfold tellP delV Sto.recV
  rw [hp.s1, hp.h1, hp.d1]
  simp only
  obtain ⟨w1, hw1⟩ : ∃ w1, w1 = w.alloc (.cells #[.int .i64 x.kind, .int .i64 x.seq, .int .i64 x.time, .string s, .string hd, .string d] 33) := ⟨_, rfl⟩
  have hb1 : Below w.heap.size w w1 := by rw [hw1]; exact (Below.refl _ _).alloc (Nat.le_refl _) _
  have he1 : w1.heap[w.heap.size]? = some (.cells #[.int .i64 x.kind, .int .i64 x.seq, .int .i64 x.time, .string s, .string hd, .string d] 33 (0, 0)) := by rw [hw1]; exact heap_alloc_new w _
  obtain ⟨bx, hbx⟩ : ∃ bx, w.heap.size = bx := ⟨_, rfl⟩
  obtain ⟨w2, hw2⟩ : ∃ w2, w2 = w1.alloc (.cells #[.int .i64 0, .string ⟨#[]⟩, .string ⟨#[]⟩, .int .i64 0, .int .i64 0, .int .i64 0] 47) := ⟨_, rfl⟩
  have hb2 : Below w1.heap.size w1 w2 := by rw [hw2]; exact (Below.refl _ _).alloc (Nat.le_refl _) _
  have he2 : w2.heap[w1.heap.size]? = some (.cells #[.int .i64 0, .string ⟨#[]⟩, .string ⟨#[]⟩, .int .i64 0, .int .i64 0, .int .i64 0] 47 (0, 0)) := by rw [hw2]; exact heap_alloc_new w1 _
  obtain ⟨rb, hrb⟩ : ∃ rb, w1.heap.size = rb := ⟨_, rfl⟩
  have hbw := hb1.trans (hb2.mono hb1.size)
  have h2 := h.next hbw
  have he1' := (hb2.block w.heap.size (heap_lt he1)).trans he1
  rw [hbx] at he1'
  rw [hrb] at he2
  have hKl := heap_lt h.hd.cell
  have hlr : bx < rb ∧ K < bx := by have := heap_lt he1; omega
  have hCl := heap_lt h.ch.cell
  have h3 := setCount_h h2.hd (c.count + 1)
  have ht23 : Heap.Touch (fun k => k = K) w2 (w2.setCell ⟨K, 11, none⟩ (.int .i64 (c.count + 1))) := touch_K w2 K 11 _
  have hC3 : ChAt W C vC L last (w2.setCell ⟨K, 11, none⟩ (.int .i64 (c.count + 1))) :=
    ⟨(ht23.block C (heap_lt h2.ch.cell) (fun e => h.nK.1 e.symm)).trans h2.ch.cell, h2.ch.row.kept fun k hk hlt => ht23.block k hlt fun e => h.nK.2 (by rw [← e]; exact hk), h2.ch.old, h2.ch.mine, h3.1.below⟩
  have he13 : (w2.setCell ⟨K, 11, none⟩ (.int .i64 (c.count + 1))).heap[bx]? = _ := (heap_setCell_other _ _ _ _ (show bx ≠ K by omega)).trans he1'
  have he23 : (w2.setCell ⟨K, 11, none⟩ (.int .i64 (c.count + 1))).heap[rb]? = _ := (heap_setCell_other _ _ _ _ (show rb ≠ K by omega)).trans he2
  have ht3 : Heap.Touch (fun k => k = K) w (w2.setCell ⟨K, 11, none⟩ (.int .i64 (c.count + 1))) := (Heap.Touch.ofBelow hbw).after ht23
  obtain ⟨w3, hw3⟩ : ∃ w3, w3 = w2.setCell ⟨K, 11, none⟩ (.int .i64 (c.count + 1)) := ⟨_, rfl⟩
  rw [← hw3] at h3 hC3 he13 he23 ht3
  have c11 := h2.hd.cells.2.2.2.2.2.2.2.2.2.2.2.1
  have cf := h2.hd.cells.2.2.2.2.2.2.2.2.2.2.2.2.2
  have hKl2 := heap_lt h2.hd.cell
  have hw : IntKind.i64.wrap (c.count + 1) = c.count + 1 := IntWalk.i64_in _ (by omega)
  obtain ⟨n, hnL⟩ : ∃ n, L.length = n := ⟨_, rfl⟩
  have hn200 : n ≤ 200 := by rw [← hnL]; exact hR.few
  obtain ⟨va, vc, hv⟩ := h.ch.row.slice
  rw [hnL] at hv
  subst hv
  have HN := Lib.hid hnL
  have HRC := Lib.hid (show bx + 1 = rb by rw [← hrb, ← hbx, hw1]; simp)
  have HN0 := Lib.hid (show W.heap.size ≤ w.heap.size ∧ (∀ k, own v k → k < w.heap.size) ∧ ∀ k, own vb k → k < w.heap.size from ⟨h.hd.below.size, fun k hk => h.hd.row.lt k hk, fun k hk => (h.hd.fb k hk).1⟩)
  obtain ⟨fb, hfb⟩ : ∃ fb : ByteArray, (⟨t.filt.toArray⟩ : ByteArray) = fb := ⟨_, rfl⟩
  have hfb2 : fb.data.toList = t.filt := by rw [← hfb]
  have hfbs : fb.size ≤ 1048576 := by rw [← hfb]; show t.filt.toArray.size ≤ _; simp; omega
  have HFB := Lib.hid hfb2
  have HTK := Lib.hid (fun x w1 hx => Subj.takesS_ref fb x w1 hfbs hx)
  have HGD := Lib.hid hR.good
  have HCL := Lib.hid (show ∀ w', Below w3.heap.size w3 w' → w'.cell? ⟨K, 1, none⟩ = some (.string fb) ∧ w'.cell? ⟨K, 10, none⟩ = some (.int .i64 c.place) ∧ w'.cell? ⟨K, 11, none⟩ = some (.int .i64 (c.count + 1)) ∧ K < w'.heap.size ∧ w'.cell? ⟨C, 0, none⟩ = some (.slice va n vc) ∧ C < w'.heap.size ∧ Row w' 33 6 (.slice va n vc) n (recsV L) from fun w' hb => by
    obtain ⟨_, d1, _, _, _, _, _, _, _, _, d10, d11, _, _⟩ := (h3.1.next hb).cells
    rw [hfb] at d1
    obtain ⟨e0, _, _⟩ := twoC (hC3.next hb).cell
    have hrw := (hC3.next hb).row
    rw [hnL] at hrw
    exact ⟨d1, d10, d11, heap_lt (h3.1.next hb).cell, e0, heap_lt (hC3.next hb).cell, hrw⟩)
  have HCA := Lib.hid (show ∀ w', Below w3.heap.size w3 w' → CAt th tq W K t vb v ⟨c.place, c.count + 1, c.l⟩ w' from fun w' hb => h3.1.next hb)
  obtain ⟨lf, hlfe⟩ : ∃ lf, leftC t L c.place = lf := ⟨_, rfl⟩
  rw [hlfe]
  have HLF := Lib.hid hlfe
  have HT3 := Lib.hid ht3; have HE1 := Lib.hid he13; have HE2 := Lib.hid he23; have HBX := Lib.hid hbx; have HRB := Lib.hid hrb; have HPL := Lib.hid hk
  have HKC := Lib.hid (And.intro h.nK hlr)
  obtain ⟨pl, hpl⟩ : ∃ pl, c.place = pl := ⟨_, rfl⟩
  have HPE := Lib.hid hpl
  rw [hpl] at HCL
  clear h hR hb1 he1 hb2 he2 hbw h2 he1' h3 hC3 he13 he23 ht3 ht23 hlfe hbx hrb ht hp hk hnL hfb hfb2 hfbs hfl hpl
  go_enter Tryz.func71, Tryz.ntmps71
  go_upto_region 1 with fail
  rw [← hw1, ← hw2, HBX.out, HRC.out]
  clear hw1 hw2
  go_upto_region 2 with fail
  rw [← hw3]
  clear hw3 c11 cf hKl2
  go_wp2_with fail
  go_loopw [9, 10] (fun lv i wr => ∃ j : Nat, j ≤ n ∧ i = .int .i64 j ∧ lv = .int .i64 (leftC t (L.take j) pl : Nat) ∧ Hid (Below w3.heap.size w3 wr)) (fun _ i _ => n - (intOf i).toNat)
  case atStart => exact ⟨0, Nat.zero_le _, rfl, rfl, Lib.hid (Below.refl _ _)⟩
  case round =>
    obtain ⟨j, hj, rfl, rfl, HB⟩ := hrel
    obtain ⟨d1, d10, d11, dk, e0, ec, hrow⟩ := HCL.out wr HB.out
    have hlf2 := left_few t L pl j
    rw [HN.out] at hlf2
    obtain ⟨lj, hlj⟩ : ∃ lj, leftC t (L.take j) pl = lj := ⟨_, rfl⟩
    have HLJ := Lib.hid hlj
    rw [hlj] at hlf2 ⊢
    by_cases hjn : j < n
    · have hjz : (j : Int) < n := by omega
      obtain ⟨p, hp⟩ : ∃ p, L[j]? = some p := ⟨L[j]'(by rw [HN.out]; exact hjn), by simp⟩
      rcases hrow.2 with ⟨e, _⟩ | ⟨g, off, cap, cur, e, _⟩
      · simp at e; omega
      obtain ⟨rfl, rfl⟩ : va = some ⟨g, off, none⟩ ∧ vc = cap := by simp at e; exact e
      clear e
      obtain ⟨m0, m1, m2, m3, m4, m5⟩ := cells_rec hrow j p hp hjn
      obtain ⟨ps, ph, pd, pp⟩ := parts p
      rw [pp.s1] at m3
      have hcap := hrow.cap_le.1
      have hg := HGD.out p (List.mem_of_getElem? hp)
      have htk := fun w1 => HTK.out ps w1 (by rw [pp.s3]; have := (good_parts hg.1 hg.2).2.1; omega)
      rw [HFB.out, pp.s2] at htk
      have hst := left_take (t := t) (place := pl) hp
      rw [hlj] at hst
      obtain ⟨tb, htb⟩ : ∃ tb, takes (pieces t.filt) (pieces p.subj) = tb := ⟨_, rfl⟩
      rw [htb] at htk
      have hwt : want t pl p = (decide (pl ≤ p.seq) && tb) := by unfold want tk; rw [htb]
      rw [hwt] at hst
      have HST := Lib.hid hst; have HTK1 := Lib.hid htk
      have HSS := Lib.hid (show ∀ w', Below wr.heap.size wr w' → w'.cell? ⟨C, 0, none⟩ = some (.slice (some ⟨g, off, none⟩) n vc) ∧ w'.cell? ⟨K, 10, none⟩ = some (.int .i64 pl) ∧ w'.cell? ⟨K, 1, none⟩ = some (.string fb) ∧ w'.cell? ⟨g, off + j * 6 + 1, none⟩ = some (.int .i64 p.seq) ∧ w'.cell? ⟨g, off + j * 6 + 3, none⟩ = some (.string ps) from fun w' hb => by
        obtain ⟨x1, x10, _, _, x0, _, hr2⟩ := HCL.out w' (HB.out.trans (hb.mono HB.out.size))
        obtain ⟨_, y1, _, y3, _, _⟩ := cells_rec hr2 j p hp hjn
        rw [pp.s1] at y3
        exact ⟨x0, x10, x1, y1, y3⟩)
      have hbd : Below wr.heap.size wr wr.drew := (Below.refl _ _).drew
      clear hp hrow pp hg htk hst htb hwt hlj m0 m2 m4 m5
      go_upto_region 6 with fail
      go_cut [55] from 27 to 55 (fun s55 wx => s55 = .bool (decide (pl ≤ p.seq) && tb) ∧ Hid (Below wr.heap.size wr wx))
      case first =>
        by_cases hq : pl ≤ p.seq
        · have hqd : decide (pl ≤ p.seq) = true := decide_eq_true hq
          go_region_held3 (fun w' => w'.cell? ⟨C, 0, none⟩ = some (.slice (some ⟨g, off, none⟩) n vc) ∧ w'.cell? ⟨K, 10, none⟩ = some (.int .i64 pl) ∧ w'.cell? ⟨K, 1, none⟩ = some (.string fb) ∧ w'.cell? ⟨g, off + j * 6 + 1, none⟩ = some (.int .i64 p.seq) ∧ w'.cell? ⟨g, off + j * 6 + 3, none⟩ = some (.string ps)) (first | (with_reducible exact HSS.out _ (Below.refl _ _)) | (with_reducible exact HSS.out _ hbd) | (with_reducible exact HSS.out _ (by assumption)) | go_keep)
            ((go_at_call 57; ((refine (HTK1.out _).mono ?_); rintro e wT ⟨rfl, hbT⟩; have hbT' := Vlt.low_to (w0 := wr) (by first | assumption | exact Below.refl _ _) hbT; clear hbT)))
          have HBT := Lib.hid hbT'
          clear hbT' hbd
          go_wp2_with fail
          go_meet
          exact ⟨by simp [hqd], HBT⟩
        · have hqd : decide (pl ≤ p.seq) = false := decide_eq_false hq
          go_quiet (fail)
          go_wp2_with fail
          go_meet
          exact ⟨by simp [hqd], Lib.hid (below_drewN (Below.refl _ _) _)⟩
      case rest =>
      obtain ⟨rfl, hbc⟩ := hcut
      have HBc := Lib.hid (HB.out.trans (hbc.out.mono HB.out.size))
      clear hbc d1 d10 d11 dk e0 ec m1 m3 hcap hbd HSS
      obtain ⟨B, hB⟩ : ∃ B, (decide (pl ≤ p.seq) && tb) = B := ⟨_, rfl⟩
      rw [hB] at HST ⊢
      clear hB
      cases B with
      | false =>
        have HS2 := Lib.hid (show leftC t (L.take (j + 1)) pl = lj from by rw [HST.out]; simp)
        go_wp2_with fail
        exact ⟨⟨j + 1, by omega, by go_num, by rw [HS2.out], HBc⟩, by simp [intOf]; omega⟩
      | true =>
        have HS2 := Lib.hid (show leftC t (L.take (j + 1)) pl = lj + 1 from by rw [HST.out]; simp)
        go_wp2_with fail
        exact ⟨⟨j + 1, by omega, by go_num, by rw [HS2.out]; rfl, HBc⟩, by simp [intOf]; omega⟩
    · have hjz : ¬ (j : Int) < n := by omega
      obtain rfl : j = n := by omega
      have hlf : lj = lf := by
        rw [← HLJ.out, List.take_of_length_le (by rw [HN.out]; exact Nat.le_refl _), ← HPE.out]
        exact HLF.out
      subst hlf
      have e1 := (HB.out.block bx (heap_lt HE1.out)).trans HE1.out
      have e2 := (HB.out.block rb (heap_lt HE2.out)).trans HE2.out
      obtain ⟨q0, q1, q2, q3, q4, q5⟩ := sixC e1
      obtain ⟨r0, r1, r2, r3, r4, r5⟩ := sixC e2
      have rf : ∀ j, wr.frozen? ⟨rb, j, none⟩ = false := fun j => frozen_of_row wr rb j _ _ e2
      have hrl := heap_lt e2
      have hlr := HKC.out.2
      have hT4 := HT3.out.after (Heap.Touch.ofBelow HB.out)
      have hbr : w.heap.size ≤ rb ∧ w.heap.size = bx ∧ bx < rb := ⟨by have := HBX.out; omega, HBX.out, hlr.1⟩
      have hHB := HCA.out wr HB.out
      obtain ⟨x8, hx8⟩ : ∃ x8, x8 = wr.drew := ⟨_, rfl⟩
      have hb8 : Below wr.heap.size wr x8 := by rw [hx8]; exact (Below.refl _ _).drew
      have hT8 := hT4.after (Heap.Touch.ofBelow hb8)
      have HFI := Lib.hid (show CAt th tq W K t vb v ⟨c.place, c.count + 1, c.l⟩ (((((((x8.setCell ⟨rb, 0, none⟩ (.int .i64 x.seq)).setCell ⟨rb, 1, none⟩ (.string s)).setCell ⟨rb, 2, none⟩ (.string d)).setCell ⟨rb, 3, none⟩ (.int .i64 (c.count + 1))).setCell ⟨rb, 4, none⟩ (.int .i64 nth)).setCell ⟨rb, 5, none⟩ (.int .i64 lj))) ∧ Heap.Touch (fun k => k = K) w (((((((x8.setCell ⟨rb, 0, none⟩ (.int .i64 x.seq)).setCell ⟨rb, 1, none⟩ (.string s)).setCell ⟨rb, 2, none⟩ (.string d)).setCell ⟨rb, 3, none⟩ (.int .i64 (c.count + 1))).setCell ⟨rb, 4, none⟩ (.int .i64 nth)).setCell ⟨rb, 5, none⟩ (.int .i64 lj))) from by
        refine ⟨(hHB.next hb8).touch (F := fun k => k = rb) (touch_set6 (F := fun k => k = rb) (R := rb) (Heap.Touch.refl _ x8) (.inl rfl) _ _ _ _ _ _) (fun k hk => ?_) (fun e => ?_) (fun k hk e => ?_) (fun k hk e => ?_), touch_set6 hT8 (.inr hbr.1) _ _ _ _ _ _⟩
        · have := HN0.out.1; omega
        · omega
        · have := HN0.out.2.1 k hk; omega
        · have := HN0.out.2.2 k hk; omega)
      have e28 := (hb8.block rb hrl).trans e2
      have HE28 := Lib.hid e28
      have HR6 := Lib.hid (set6 (.int .i64 x.seq) (.string s) (.string d) (.int .i64 (c.count + 1)) (.int .i64 nth) (.int .i64 lj) e28)
      clear hT4 hHB e1 e2 hrow d1 d10 hlr hbr r0 r1 r2 r3 r4 r5 rf hrl hb8 hT8 e28
      go_upto_region 8 with fail
      go_wp2_with fail
      go_still_tail 13, (by kernel_rfl)
      change wpList _ _ _ _ _ wr.drew
      rw [← hx8]
      clear hx8 q0 q1 q2 q3 q4 q5 d11 e0 ec
      obtain ⟨r0, r1, r2, r3, r4, r5⟩ := sixC HE28.out
      have rf : ∀ j, x8.frozen? ⟨rb, j, none⟩ = false := fun j => frozen_of_row x8 rb j _ _ HE28.out
      have hrl := heap_lt HE28.out
      go_wp2_with fail
      refine bodyPost_ret (v := .agg #[.int .i64 x.seq, .string s, .string d, .int .i64 (c.count + 1), .int .i64 nth, .int .i64 lj]) (res_del 8 Tryz.results71 _ _ rb rfl HR6.out) rfl ?_
      exact ⟨rfl, HFI.out⟩
end
end Go.Proofs.YthhgfdeegnimjaaGreatDoor.Hnd
