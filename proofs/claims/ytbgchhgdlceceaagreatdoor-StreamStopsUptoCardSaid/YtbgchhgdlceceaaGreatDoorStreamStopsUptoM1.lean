/- Parts of the proof, joined: The law StreamStops, walked: it returns true.; StreamStops, from what it is handed. -/
import Derived.Test.YtbgchhgdlceceaaGreatDoorStrmBaseM35
import Derived.Deep.RegionHeld3
import Derived.BigQuiet
import Derived.Deep.QuietTactic
import Derived.Deep.DeepCutAuto
import Derived.OpenShut
import Derived.ChangeMaps5
namespace Go.Proofs.YtbgchhgdlceceaaGreatDoor.Strm
open Go.RowKit Heap
open Subj (Tok ML Strs Small planErr planCells ten)
open Vlt (all_vlt sums_vlt low_to)
open Rec (Rc far)
open Sto (Right sixC fourS recsV RecsAt row_recs equal_recs sumsV sums_any all_any)

/-- Behind so many posts. -/
def LvStops (W : World) (K : Nat) (room size : Int) (name : ByteArray) (p : Pl) (k : Nat) (wr : World) : Prop :=
  ∃ F S c s, SmAt W F K S c room size name p s wr ∧ c + s.v.L.length ≤ 4 * k ∧ s.ids.length ≤ k ∧ s.v.last ≤ k

section
variable {w : World}

theorem LvStops.low {W w w1 : World} {K k : Nat} {room size : Int} {name : ByteArray} {p : Pl} (h : LvStops W K room size name p k w) (hb : Below w.heap.size w w1) : LvStops W K room size name p k w1 := by
  obtain ⟨F, S, c, s, h1, h2⟩ := h
  exact ⟨F, S, c, s, h1.low hb, h2⟩

theorem LvStops.below {W w : World} {K k : Nat} {room size : Int} {name : ByteArray} {p : Pl} (h : LvStops W K room size name p k w) : Below W.heap.size W w := by
  obtain ⟨F, S, c, s, h1, _⟩ := h
  exact h1.below

set_option maxHeartbeats 8000000 in
set_option maxRecDepth 100000 in
theorem streamStops_walk (hm : ML w) (name : ByteArray) (v : Value) (p : Pl) (hS : Strs w v p.fs) (hz : Small p.fs) (hl : p.fs.length ≤ 1048576) (hnm : name.size ≤ 1048576) {vl : Value} {l : List StP} (hL : StepsAt w vl l) (hfx : ∀ t ∈ l, FitsP t.x) (keep : Int) :
    Calls Tryz.prog 10 #[.agg (planCells name v p.msgs p.bytes p.age p.per p.size p.disc p.keep p.win), vl, .int .i64 keep] w fun e w' => e = .returned (.bool true) ∧ Below w.heap.size w w' := by
  obtain ⟨n, hnL⟩ : ∃ n, l.length = n := ⟨_, rfl⟩
  have HN := Lib.hid hnL
  obtain ⟨la, lc, rfl⟩ : ∃ la lc, vl = .slice la l.length lc := by
    obtain ⟨a, c, e, _⟩ := hL
    exact ⟨a, c, e⟩
  rw [hnL] at hL ⊢
  have hFF := fitsF_of hz hl
  obtain ⟨fs, x0, x1, x2, x3, x4, x5, x6, x7⟩ := p
  simp only at hS hz hl hFF ⊢
  obtain ⟨fo, fc, rfl⟩ : ∃ fo fc, v = .slice fo fs.length fc := by
    obtain ⟨a, c, e, _⟩ := hS
    exact ⟨a, c, e⟩
  obtain ⟨w1, hw1⟩ : ∃ w1, w1 = w.alloc (.cells (planCells name (.slice fo fs.length fc) x0 x1 x2 x3 x4 x5 x6 x7) 62) := ⟨_, rfl⟩
  have hb1 : Below w.heap.size w w1 := by rw [hw1]; exact (Below.refl _ _).alloc (Nat.le_refl _) _
  have he1 : w1.heap[w.heap.size]? = some (.cells (planCells name (.slice fo fs.length fc) x0 x1 x2 x3 x4 x5 x6 x7) 62 (0, 0)) := by rw [hw1]; exact heap_alloc_new w _
  obtain ⟨bp, hbp⟩ : ∃ bp, w.heap.size = bp := ⟨_, rfl⟩
  rw [hbp] at he1
  obtain ⟨w2, hw2⟩ : ∃ w2, w2 = w1 := ⟨_, rfl⟩
  have he12 : w2.heap[bp]? = some (.cells (planCells name (.slice fo fs.length fc) x0 x1 x2 x3 x4 x5 x6 x7) 62 (0, 0)) := by rw [hw2]; exact he1
  have hbw : Below w.heap.size w w2 := by rw [hw2]; exact hb1
  have HBP := Lib.hid hbp; have HBW := Lib.hid hbw; have HE1 := Lib.hid he12; have HL := Lib.hid (hL.below hbw); have HS := Lib.hid (hS.below hbw); have HM := Lib.hid (hm.below hbw); have HZ := Lib.hid (And.intro hz (And.intro hl hnm)); have HFL := Lib.hid hfx; have HFF := Lib.hid hFF
  have HPB := Lib.hid (published_any (hm.below hbw))
  clear hnL hL hm hS hz hl hnm hfx hFF hb1 he1 hbp hbw he12
  unfold planCells at hw1 HE1 ⊢
  go_enter Tryz.func10, Tryz.ntmps10
  go_upto_region 1 with fail
  rw [← hw1, HBP.out]
  rw [← hw2]
  clear hw1 hw2
  go_wp2_with fail
  refine HPB.out.mono ?_
  rintro e w3 ⟨rfl, hb3⟩
  have HE3 := Lib.hid ((hb3.block bp (heap_lt HE1.out)).trans HE1.out)
  have HB3 := Lib.hid (HBW.out.trans (hb3.mono HBW.out.size))
  have HL3 := Lib.hid (HL.out.below hb3); have HM3 := Lib.hid (HM.out.below hb3)
  have hnw := new_sm (W := w3) (Below.refl _ _) HM3.out name _ ⟨fs, x0, x1, x2, x3, x4, x5, x6, x7⟩ 65536 4096 (HS.out.below hb3) HZ.out.1 HZ.out.2.1 HZ.out.2.2
  unfold planCells at hnw
  have HNW := Lib.hid hnw
  clear hb3 hnw HE1 HL HM HPB HBW HS
  obtain ⟨q0, q1, q2, q3, q4, q5, q6, q7, q8, q9, qf⟩ := ten HE3.out
  have hbl := heap_lt HE3.out
  go_wp2_with fail
  refine HNW.out.mono ?_
  rintro e w4 ⟨hb4, hcase⟩
  have HB4 := Lib.hid hb4
  clear hb4 HNW q0 q1 q2 q3 q4 q5 q6 q7 q8 q9 qf hbl
  obtain ⟨pl, hpl⟩ : ∃ pl : Pl, ⟨fs, x0, x1, x2, x3, x4, x5, x6, x7⟩ = pl := ⟨_, rfl⟩
  rw [hpl] at hcase HFF
  have HPL := Lib.hid hpl
  rcases hcase with ⟨h0, rfl⟩ | ⟨h0, F, K, S, rfl, h4, _⟩
  · obtain ⟨er, her⟩ : ∃ er, newErr name.data.toList pl 65536 4096 = er := ⟨_, rfl⟩
    rw [her] at h0 ⊢
    have h0z : ((er : Int) == 0) = false := by simpa using h0
    have h0y : ((er : Int) != 0) = true := by simpa using h0
    have HF := Lib.hid (low_to HB3.out HB4.out)
    clear her h0 hpl
    go_wp2_with fail
    go_ret
    exact ⟨rfl, HF.out⟩
  · have hpn := plan_nums (newErr_plan h0).1
    have HPN := Lib.hid hpn
    clear hpl hpn h0
    by_cases h60 : 60 < n
    · have h60z : (60 : Int) < n := by omega
      have HF := Lib.hid (low_to HB3.out HB4.out)
      clear h4
      go_wp2_with fail
      go_ret
      exact ⟨rfl, HF.out⟩
    · have h60z : ¬ (60 : Int) < n := by omega
      have h0 := Lib.hid (show LvStops w3 K 65536 4096 name pl 0 w4 from ⟨F, S, 0, s0, h4, by show 0 + 0 ≤ 4 * 0; omega, by show 0 ≤ 0; omega, by show (0 : Int) ≤ 0; omega⟩)
      clear h4
      go_wp2_with fail
      go_loopw [29] (fun i wr => ∃ k : Nat, k ≤ n ∧ i = .int .i64 k ∧ Hid (LvStops w3 K 65536 4096 name pl k wr)) (fun i _ => n - (intOf i).toNat)
      case atStart => exact ⟨0, Nat.zero_le _, rfl, h0⟩
      case round =>
        obtain ⟨k, hk, rfl, HR⟩ := hrel
        clear h0
        by_cases hlt : k < n
        · have hltz : (k : Int) < n := by omega
          obtain ⟨F, S, c, s, h, hc, hi, hla⟩ := HR.out
          obtain ⟨t, ht⟩ : ∃ t, l[k]? = some t := ⟨_, List.getElem?_eq_getElem (by rw [HN.out]; exact hlt)⟩
          have hft := HFL.out t (List.mem_of_getElem? ht)
          obtain ⟨tS, tI, tH, tD, tp⟩ := partsP t.x
          have hlr := HL3.out.below h.below
          obtain ⟨g, off, rfl, m0, m1, m2, m3, m4, m5, m6, m7, m8, m9⟩ := hlr.at ht tp
          have hlcap : n ≤ lc ∨ True := .inr trivial
          obtain ⟨tF, htF⟩ : ∃ tF : ByteArray, (⟨t.filt.toArray⟩ : ByteArray) = tF := ⟨_, rfl⟩
          rw [htF] at m9
          obtain ⟨wa, hwa⟩ : ∃ wa, wa = wr.alloc (.cells #[.int .i64 t.kind, .int .i64 t.now, .int .i64 t.n, .string tS, .string tI, .string tH, .string tD, .int .i64 t.x.exp, .int .i64 t.x.roll, .string tF] 114) := ⟨_, rfl⟩
          have hba : Below wr.heap.size wr wa := by rw [hwa]; exact (Below.refl _ _).alloc (Nat.le_refl _) _
          have hea : wa.heap[wr.heap.size]? = some (.cells #[.int .i64 t.kind, .int .i64 t.now, .int .i64 t.n, .string tS, .string tI, .string tH, .string tD, .int .i64 t.x.exp, .int .i64 t.x.roll, .string tF] 114 (0, 0)) := by rw [hwa]; exact heap_alloc_new wr _
          obtain ⟨ba, hbae⟩ : ∃ ba, wr.heap.size = ba := ⟨_, rfl⟩
          rw [hbae] at hea
          obtain ⟨q0, q1, q2, q3, q4, q5, q6, q7, q8, q9, qf⟩ := ten hea
          have hpu := pub_sm (h.low hba) (by omega) HM3.out HFF.out hft HPN.out.1 (by omega) t.now
          rw [tp.v] at hpu
          have HPU := Lib.hid hpu; have HBAE := Lib.hid hbae
          obtain ⟨I, hRt⟩ := h.right
          have HST := Lib.hid (show c + s.v.L.length ≤ 4 * k ∧ s.ids.length ≤ k ∧ s.v.last ≤ k ∧ s.v.L.length ≤ 200 ∧ 0 ≤ s.v.last from ⟨hc, hi, hla, hRt.few, hRt.range.1⟩)
          clear h hc hi hla ht hft tp hlr hlcap htF hba hea hbae hpu HR hRt
          go_upto_region 9 with fail
          rw [← hwa, HBAE.out]
          clear hwa m0 m1 m2 m3 m4 m5 m6 m7 m8 m9
          go_wp2_with fail
          refine HPU.out.mono ?_
          rintro e w5 ⟨rfl, c5, ⟨⟨F5, h5, _⟩, _⟩, hc5⟩
          have hmo := pub_more (p := pl) (room := 65536) (size := 4096) (now := t.now) (x := t.x) (s := s) HST.out.2.2.2.1 HST.out.2.2.2.2
          obtain ⟨R, hRe⟩ : ∃ R, pubP pl 65536 4096 t.now t.x s = R := ⟨_, rfl⟩
          rw [hRe] at h5 hc5 hmo ⊢
          obtain ⟨Rs, rn, ra, re⟩ := R
          simp only at h5 hc5 hmo ⊢
          have HC5 := Lib.hid (show c5 + Rs.v.L.length ≤ 4 * (k + 1) ∧ Rs.ids.length ≤ k + 1 ∧ Rs.v.last ≤ (k + 1 : Nat) from ⟨by have := HST.out.1; omega, by have := HST.out.2.1; omega, by have := HST.out.2.2.1; omega⟩)
          have H5 := Lib.hid h5
          have HSTO := Lib.hid (store_sm h5)
          obtain ⟨F2, hst⟩ := h5.st
          have HALL := Lib.hid (all_any hst)
          obtain ⟨I5, hR5⟩ := h5.right
          have HFEW := Lib.hid hR5.few
          clear h5 hc5 hmo HPU q0 q1 q2 q3 q4 q5 q6 q7 q8 q9 qf hRe hst hR5 HST
          go_wp2_with fail
          refine HSTO.out.mono ?_
          rintro e w' ⟨rfl, rfl⟩
          go_wp2_with fail
          refine HALL.out.mono ?_
          rintro e w6 ⟨v6, rfl, hr6, hb6, ho6⟩
          have HR6 := Lib.hid (And.intro hr6 (And.intro hb6 ho6))
          have HSTO6 := Lib.hid (store_sm (H5.out.low hb6))
          obtain ⟨F3, hst⟩ := (H5.out.low hb6).st
          have hsu := sums_any hst
          obtain ⟨z1, z2, z3, z4, hsf⟩ := Vlt.sums_form Rs.v.L Rs.v.last
          rw [hsf] at hsu
          have HSU := Lib.hid hsu; have HSF := Lib.hid hsf
          clear hr6 hb6 ho6 hst hsu hsf HALL HSTO
          go_wp2_with fail
          refine HSTO6.out.mono ?_
          rintro e w' ⟨rfl, rfl⟩
          go_wp2_with fail
          refine HSU.out.mono ?_
          rintro e w7 ⟨rfl, hb7⟩
          obtain ⟨w8, hw8⟩ : ∃ w8, w8 = w7.alloc (.cells #[.int .i64 z1, .int .i64 z2, .int .i64 z3, .int .i64 z4] 116) := ⟨_, rfl⟩
          have hb8 : Below w7.heap.size w7 w8 := by rw [hw8]; exact (Below.refl _ _).alloc (Nat.le_refl _) _
          have he8 : w8.heap[w7.heap.size]? = some (.cells #[.int .i64 z1, .int .i64 z2, .int .i64 z3, .int .i64 z4] 116 (0, 0)) := by rw [hw8]; exact heap_alloc_new w7 _
          obtain ⟨sx, hsx⟩ : ∃ sx, w7.heap.size = sx := ⟨_, rfl⟩
          rw [hsx] at he8
          have HSX := Lib.hid hsx
          have hb68 := hb7.trans (hb8.mono hb7.size)
          have HK8 := Lib.hid (show SmAt w3 F5 K S c5 65536 4096 name pl Rs w8 ∧ Row w8 33 6 v6 Rs.v.L.length (recsV Rs.v.L) ∧ w8.heap[sx]? = some (.cells #[.int .i64 z1, .int .i64 z2, .int .i64 z3, .int .i64 z4] 116 (0, 0)) ∧ (∀ j, own v6 j → ¬ F5 j) ∧ ¬ F5 sx from by
            refine ⟨(H5.out.low HR6.out.2.1).low hb68, HR6.out.1.kept fun j _ hj => hb68.block j hj, he8, fun j hj e => ?_, fun e => ?_⟩
            · have := HR6.out.2.2 j hj; have := H5.out.bF j e; omega
            · have := H5.out.bF sx e; have := HR6.out.2.1.size; have := hb7.size; omega)
          obtain ⟨a6, n6, rfl⟩ := HR6.out.1.slice
          clear hb7 hb8 he8 hsx hb68 HSU HSTO6 H5 HR6
          go_upto_region 11 with fail
          rw [← hw8, HSX.out]
          clear hw8
          go_upto_if 48 with fail
          go_cut [] from 48 to 51 (fun wx => Hid (∃ F S ids, SmAt w3 F K S c5 65536 4096 name pl ⟨Rs.v, ids⟩ wx ∧ ids.length ≤ k + 1 ∧ Row wx 33 6 (.slice a6 Rs.v.L.length n6) Rs.v.L.length (recsV Rs.v.L) ∧ wx.heap[sx]? = some (.cells #[.int .i64 z1, .int .i64 z2, .int .i64 z3, .int .i64 z4] 116 (0, 0))))
          case first =>
            generalize ((k : Int) % 3 == 0) = B
            cases B with
            | true =>
              have HCR := Lib.hid (crash_sm HK8.out.1 (by have := HC5.out.1; omega) HM3.out keep)
              go_wp2_with fail
              refine HCR.out.mono ?_
              rintro e w9 ⟨rfl, S9, ⟨F9, h9, _⟩, ht9⟩
              have HX9 := Lib.hid (show ∃ F S ids, SmAt w3 F K S c5 65536 4096 name pl ⟨Rs.v, ids⟩ w9 ∧ ids.length ≤ k + 1 ∧ Row w9 33 6 (.slice a6 Rs.v.L.length n6) Rs.v.L.length (recsV Rs.v.L) ∧ w9.heap[sx]? = some (.cells #[.int .i64 z1, .int .i64 z2, .int .i64 z3, .int .i64 z4] 116 (0, 0)) from
                ⟨F9, S9, [], h9, Nat.zero_le _, HK8.out.2.1.kept fun j hj hlt => ht9.block j hlt (HK8.out.2.2.2.1 j hj), box_stays ht9 HK8.out.2.2.2.2 HK8.out.2.2.1⟩)
              clear h9 ht9 HCR
              go_wp2_with fail
              go_meet
              exact HX9
            | false =>
              have HX9 := Lib.hid (show ∃ F S ids, SmAt w3 F K S c5 65536 4096 name pl ⟨Rs.v, ids⟩ w8 ∧ ids.length ≤ k + 1 ∧ Row w8 33 6 (.slice a6 Rs.v.L.length n6) Rs.v.L.length (recsV Rs.v.L) ∧ w8.heap[sx]? = some (.cells #[.int .i64 z1, .int .i64 z2, .int .i64 z3, .int .i64 z4] 116 (0, 0)) from
                ⟨F5, S, Rs.ids, HK8.out.1, HC5.out.2.1, HK8.out.2.1, HK8.out.2.2.1⟩)
              go_wp2_with fail
              go_meet
              exact HX9
          case rest =>
          obtain ⟨F9, S9, ids9, h9, hi9, hr9, hx9⟩ := hcut.out
          have HV9 := Lib.hid (show ∀ w', Below wc.heap.size wc w' → SmAt w3 F9 K S9 c5 65536 4096 name pl ⟨Rs.v, ids9⟩ w' from fun w' hb => h9.low hb)
          have HI9 := Lib.hid hi9
          have HR9 := Lib.hid (show ∀ w', Below wc.heap.size wc w' → Row w' 33 6 (.slice a6 Rs.v.L.length n6) Rs.v.L.length (recsV Rs.v.L) from fun w' hb => hr9.kept fun j _ hj => hb.block j hj)
          have HB9 := Lib.hid (show ∀ w', Below wc.heap.size wc w' → w'.cell? ⟨sx, 0, none⟩ = some (.int .i64 z1) ∧ w'.cell? ⟨sx, 1, none⟩ = some (.int .i64 z2) ∧ w'.cell? ⟨sx, 2, none⟩ = some (.int .i64 z3) ∧ w'.cell? ⟨sx, 3, none⟩ = some (.int .i64 z4) from fun w' hb => by
            obtain ⟨d0, d1, d2, d3, _⟩ := fourS ((hb.block sx (heap_lt hx9)).trans hx9)
            exact ⟨d0, d1, d2, d3⟩)
          have HAL9 := Lib.hid (show ∀ w', Below wc.heap.size wc w' → Calls Tryz.prog 64 #[.pointer (some ⟨S9, 0, none⟩)] w' (Sto.Copied w' Rs.v.L) from fun w' hb => by
            obtain ⟨F3, hst⟩ := (h9.low hb).st
            exact all_any hst)
          have HSU9 := Lib.hid (show ∀ w', Below wc.heap.size wc w' → Calls Tryz.prog 61 #[.pointer (some ⟨S9, 0, none⟩)] w' fun e w'' => e = .returned (.agg #[.int .i64 z1, .int .i64 z2, .int .i64 z3, .int .i64 z4]) ∧ Below w'.heap.size w' w'' from fun w' hb => by
            obtain ⟨F3, hst⟩ := (h9.low hb).st
            have := sums_any hst
            rw [HSF.out] at this
            exact this)
          have hbd : Below wc.heap.size wc wc.drew := (Below.refl _ _).drew
          clear h9 hi9 hr9 hx9 hcut HK8
          go_upto_region 13 with fail
          go_region_held3 (fun w' => w'.cell? ⟨sx, 0, none⟩ = some (.int .i64 z1) ∧ w'.cell? ⟨sx, 1, none⟩ = some (.int .i64 z2) ∧ w'.cell? ⟨sx, 2, none⟩ = some (.int .i64 z3) ∧ w'.cell? ⟨sx, 3, none⟩ = some (.int .i64 z4)) (first | (with_reducible exact HB9.out _ hbd) | (with_reducible exact HB9.out _ (Below.refl _ _)) | (with_reducible exact HB9.out _ (by assumption)) | go_keep)
            (first
              | (go_at_call 60; ((refine (store_sm (HV9.out _ (by first | assumption | exact Below.refl _ _))).mono ?_); rintro e w' ⟨rfl, rfl⟩))
              | (go_at_call 64; ((refine (HAL9.out _ (by first | assumption | exact Below.refl _ _)).mono ?_); rintro e wA ⟨vA, rfl, hrA, hbA, hoA⟩; have hbA2 := low_to (w0 := wc) (by first | assumption | exact Below.refl _ _) hbA; clear hbA hoA))
              | (go_at_call 45; ((refine (equal_recs (row_recs hrA) (row_recs (HR9.out _ hbA2)) (by have := HFEW.out; omega)).mono ?_); rintro e wE ⟨rfl, q, rfl⟩; have hbE := below_drewN hbA2 q))
              | (go_at_call 61; ((refine (HSU9.out _ hbE).mono ?_); rintro e wS ⟨rfl, hbS⟩; have hbS2 := low_to (w0 := wc) hbE hbS; clear hbS)))
          have HX := Lib.hid (show LvStops w3 K 65536 4096 name pl (k + 1) wS from ⟨F9, S9, c5, ⟨Rs.v, ids9⟩, HV9.out _ hbS2, HC5.out.1, HI9.out, HC5.out.2.2⟩)
          clear HV9 HR9 HB9 HAL9 HSU9 hbd hrA hbA2 hbE hbS2
          go_wp2_with fail
          exact ⟨⟨k + 1, by omega, by go_num, HX⟩, by simp [intOf]; omega⟩
        · have hltz : ¬ (k : Int) < n := by omega
          obtain rfl : k = n := by omega
          have HF := Lib.hid (low_to HB3.out HR.out.below)
          clear HR
          go_wp2_with fail
          go_ret
          exact ⟨rfl, HF.out⟩
end
end Go.Proofs.YtbgchhgdlceceaaGreatDoor.Strm

namespace Go.Proofs.YtbgchhgdlceceaaGreatDoor.Strm
open Go.RowKit Go.ChangeMaps Go.ChangeAt
open Subj (ML open_plan PlanArg)

set_option maxRecDepth 100000 in
open Go.WideShapes Go.ChangeShapes in
theorem streamStops_calls {H : Type} (enc : TypeId × Value → H) (W : World) (base : Nat) (v0 v1 v2 : Value) (d0 d1 d2 : DataW H) (p0 p1 p2 : List MemPlace)
    (h0 : DataW.Trod enc Tryz.prog W 0 (fun _ => true) true 62 v0 d0 p0) (h1 : DataW.Trod enc Tryz.prog W 0 (fun _ => true) true 109 v1 d1 p1) (h2 : DataW.Trod enc Tryz.prog W 0 (fun _ => true) true 3 v2 d2 p2)
    (o0 : Value.okWide Tryz.prog W .any base 62 v0) (o1 : Value.okWide Tryz.prog W .any base 109 v1) (o2 : Value.okWide Tryz.prog W .any base 3 v2)
    (hk : Rows.uptoSmall H ([d0, d1, d2] ++ []) = true) (hM : ML W) :
    Calls Tryz.prog 10 #[v0, v1, v2] W fun e w' => e = .returned (.bool true) ∧ Below W.heap.size W w' := by
  have hb0 : Rows.uptoBulk d0 ≤ 1048576 := by
    have h1 := bulk_bound hk
    have h2 := bulk_part (d := d0) (l := [d0, d1, d2] ++ []) (by simp)
    omega
  have hb1 : Rows.uptoBulk d1 ≤ 1048576 := by
    have h1 := bulk_bound hk
    have h2 := bulk_part (d := d1) (l := [d0, d1, d2] ++ []) (by simp)
    omega
  obtain ⟨name, ao, n, cap, fs, x0, x1, x2, x3, x4, x5, x6, x7, rfl, hfn, hS, hz, hn, hnm⟩ := open_plan h0 o0 hb0
  subst hfn
  obtain ⟨a1, m1, c1, rfl⟩ := okWide_slice Tryz.underlying109 o1
  obtain ⟨fuel, hf⟩ := h1
  obtain ⟨a', m', c', l, hcs, hl, hft⟩ := open_steps hf hb1
  simp [Value.cells] at hcs
  obtain ⟨rfl, rfl, rfl⟩ := hcs
  obtain ⟨n2, rfl, _, _, wf2⟩ := open_int Tryz.underlying3 o2 h2
  exact streamStops_walk hM name _ ⟨fs, x0, x1, x2, x3, x4, x5, x6, x7⟩ hS hz hn hnm hl (fun t ht => (hft t ht).1) n2
end Go.Proofs.YtbgchhgdlceceaaGreatDoor.Strm
