/- Parts of the proof, joined: The law StreamRolls, walked: it returns true.; StreamRolls, from what it is handed. -/
import Derived.Test.YtbgchhgdlceceaaGreatDoorStrmBaseM35
import Derived.Deep.RegionHeld3
import Derived.BigQuiet
import Derived.Deep.QuietTactic
import Derived.OpenShut
import Derived.ChangeMaps5
namespace Go.Proofs.YtbgchhgdlceceaaGreatDoor.Strm
open Go.RowKit Heap
open Subj (Tok ML Strs Small planErr planCells ten)
open Vlt (all_vlt sums_vlt low_to)
open Rec (Rc far)
open Sto (Right sixC fourS recsV RecsAt row_recs equal_recs sumsV sums_any all_any)

/-- Behind so many posts. -/
def LvRolls (W : World) (K : Nat) (room size : Int) (name : ByteArray) (p : Pl) (k : Nat) (wr : World) : Prop :=
  ∃ F S c s, SmAt W F K S c room size name p s wr ∧ c + s.v.L.length ≤ 4 * k ∧ s.ids.length ≤ k ∧ s.v.last ≤ k

section
variable {w : World}

theorem LvRolls.low {W w w1 : World} {K k : Nat} {room size : Int} {name : ByteArray} {p : Pl} (h : LvRolls W K room size name p k w) (hb : Below w.heap.size w w1) : LvRolls W K room size name p k w1 := by
  obtain ⟨F, S, c, s, h1, h2⟩ := h
  exact ⟨F, S, c, s, h1.low hb, h2⟩

theorem LvRolls.below {W w : World} {K k : Nat} {room size : Int} {name : ByteArray} {p : Pl} (h : LvRolls W K room size name p k w) : Below W.heap.size W w := by
  obtain ⟨F, S, c, s, h1, _⟩ := h
  exact h1.below

set_option maxHeartbeats 8000000 in
set_option maxRecDepth 100000 in
theorem streamRolls_walk (hm : ML w) (name : ByteArray) (v : Value) (p : Pl) (hS : Strs w v p.fs) (hz : Small p.fs) (hl : p.fs.length ≤ 1048576) (hnm : name.size ≤ 1048576) {vl : Value} {l : List StP} (hL : StepsAt w vl l) (hfx : ∀ t ∈ l, FitsP t.x) (x : Po) (hx : FitsP x) :
    Calls Tryz.prog 7 #[.agg (planCells name v p.msgs p.bytes p.age p.per p.size p.disc p.keep p.win), vl, postV x] w fun e w' => e = .returned (.bool true) ∧ Below w.heap.size w w' := by
  obtain ⟨n, hnL⟩ : ∃ n, l.length = n := ⟨_, rfl⟩
  have HN := Lib.hid hnL
  obtain ⟨la, lc, rfl⟩ : ∃ la lc, vl = .slice la l.length lc := by
    obtain ⟨a, c, e, _⟩ := hL
    exact ⟨a, c, e⟩
  rw [hnL] at hL ⊢
  have hFF := fitsF_of hz hl
  obtain ⟨fs, x0, x1, x2, x3, x4, x5, x6, x7⟩ := p
  simp only at hS hz hl hFF ⊢
  obtain ⟨fo, fc, rfl⟩ : ∃ fo fc, v = .slice fo fs.length fc := by
    obtain ⟨a, c, e, _⟩ := hS
    exact ⟨a, c, e⟩
  obtain ⟨w1, hw1⟩ : ∃ w1, w1 = w.alloc (.cells (planCells name (.slice fo fs.length fc) x0 x1 x2 x3 x4 x5 x6 x7) 62) := ⟨_, rfl⟩
  have hb1 : Below w.heap.size w w1 := by rw [hw1]; exact (Below.refl _ _).alloc (Nat.le_refl _) _
  have he1 : w1.heap[w.heap.size]? = some (.cells (planCells name (.slice fo fs.length fc) x0 x1 x2 x3 x4 x5 x6 x7) 62 (0, 0)) := by rw [hw1]; exact heap_alloc_new w _
  obtain ⟨bp, hbp⟩ : ∃ bp, w.heap.size = bp := ⟨_, rfl⟩
  rw [hbp] at he1
  obtain ⟨sb, ib, hb, db, hp⟩ := partsP x
  rw [hp.v]
  obtain ⟨w2, hw2⟩ : ∃ w2, w2 = w1.alloc (.cells #[.string sb, .string ib, .string hb, .string db, .int .i64 x.exp, .int .i64 x.roll] 112) := ⟨_, rfl⟩
  have hb2 : Below w1.heap.size w1 w2 := by rw [hw2]; exact (Below.refl _ _).alloc (Nat.le_refl _) _
  have he2 : w2.heap[w1.heap.size]? = some (.cells #[.string sb, .string ib, .string hb, .string db, .int .i64 x.exp, .int .i64 x.roll] 112 (0, 0)) := by rw [hw2]; exact heap_alloc_new w1 _
  have hs1 : w1.heap.size = bp + 1 := by rw [hw1, ← hbp]; simp
  obtain ⟨bx, hbx⟩ : ∃ bx, w1.heap.size = bx := ⟨_, rfl⟩
  rw [hbx] at he2
  have he12 := (hb2.block bp (heap_lt he1)).trans he1
  have hbw := hb1.trans (hb2.mono hb1.size)
  have HBX := Lib.hid (show bp + 1 = bx by omega)
  have HPX := Lib.hid hp; have HFX := Lib.hid hx; have HE2 := Lib.hid he2
  have HBP := Lib.hid hbp; have HBW := Lib.hid hbw; have HE1 := Lib.hid he12; have HL := Lib.hid (hL.below hbw); have HS := Lib.hid (hS.below hbw); have HM := Lib.hid (hm.below hbw); have HZ := Lib.hid (And.intro hz (And.intro hl hnm)); have HFL := Lib.hid hfx; have HFF := Lib.hid hFF
  have HPB := Lib.hid (published_any (hm.below hbw))
  clear hnL hL hm hS hz hl hnm hfx hFF hb1 he1 hbp hbw he12 hb2 he2 hbx hs1 hp hx
  unfold planCells at hw1 HE1 ⊢
  go_enter Tryz.func7, Tryz.ntmps7
  go_upto_region 1 with fail
  rw [← hw1, HBP.out]
  rw [← hw2, HBX.out]
  clear hw1 hw2
  go_wp2_with fail
  refine HPB.out.mono ?_
  rintro e w3 ⟨rfl, hb3⟩
  have HE3 := Lib.hid ((hb3.block bp (heap_lt HE1.out)).trans HE1.out)
  have HB3 := Lib.hid (HBW.out.trans (hb3.mono HBW.out.size))
  have HL3 := Lib.hid (HL.out.below hb3); have HM3 := Lib.hid (HM.out.below hb3)
  have hnw := new_sm (W := w3) (Below.refl _ _) HM3.out name _ ⟨fs, x0, x1, x2, x3, x4, x5, x6, x7⟩ 65536 4096 (HS.out.below hb3) HZ.out.1 HZ.out.2.1 HZ.out.2.2
  unfold planCells at hnw
  have HNW := Lib.hid hnw
  have HE4 := Lib.hid ((hb3.block bx (heap_lt HE2.out)).trans HE2.out)
  clear hb3 hnw HE1 HL HM HPB HBW HS HE2
  obtain ⟨q0, q1, q2, q3, q4, q5, q6, q7, q8, q9, qf⟩ := ten HE3.out
  have hbl := heap_lt HE3.out
  go_wp2_with fail
  refine HNW.out.mono ?_
  rintro e w4 ⟨hb4, hcase⟩
  have HB4 := Lib.hid hb4
  clear hb4 HNW q0 q1 q2 q3 q4 q5 q6 q7 q8 q9 qf hbl
  obtain ⟨pl, hpl⟩ : ∃ pl : Pl, ⟨fs, x0, x1, x2, x3, x4, x5, x6, x7⟩ = pl := ⟨_, rfl⟩
  rw [hpl] at hcase HFF
  have HPL := Lib.hid hpl
  rcases hcase with ⟨h0, rfl⟩ | ⟨h0, F, K, S, rfl, h4, _⟩
  · obtain ⟨er, her⟩ : ∃ er, newErr name.data.toList pl 65536 4096 = er := ⟨_, rfl⟩
    rw [her] at h0 ⊢
    have h0z : ((er : Int) == 0) = false := by simpa using h0
    have h0y : ((er : Int) != 0) = true := by simpa using h0
    have HF := Lib.hid (low_to HB3.out HB4.out)
    clear her h0 hpl
    go_wp2_with fail
    go_ret
    exact ⟨rfl, HF.out⟩
  · have hpn := plan_nums (newErr_plan h0).1
    have HPN := Lib.hid hpn
    clear hpl hpn h0
    by_cases h60 : 60 < n
    · have h60z : (60 : Int) < n := by omega
      have HF := Lib.hid (low_to HB3.out HB4.out)
      clear h4
      go_wp2_with fail
      go_ret
      exact ⟨rfl, HF.out⟩
    · have h60z : ¬ (60 : Int) < n := by omega
      have h0 := Lib.hid (show LvRolls w3 K 65536 4096 name pl 0 w4 from ⟨F, S, 0, s0, h4, by show 0 + 0 ≤ 4 * 0; omega, by show 0 ≤ 0; omega, by show (0 : Int) ≤ 0; omega⟩)
      clear h4
      go_wp2_with fail
      go_loopw [32] (fun i wr => ∃ k : Nat, k ≤ n ∧ i = .int .i64 k ∧ Hid (LvRolls w3 K 65536 4096 name pl k wr)) (fun i _ => n - (intOf i).toNat)
      case atStart => exact ⟨0, Nat.zero_le _, rfl, h0⟩
      case round =>
        obtain ⟨k, hk, rfl, HR⟩ := hrel
        clear h0
        by_cases hlt : k < n
        · have hltz : (k : Int) < n := by omega
          obtain ⟨F, S, c, s, h, hc, hi, hla⟩ := HR.out
          obtain ⟨t, ht⟩ : ∃ t, l[k]? = some t := ⟨_, List.getElem?_eq_getElem (by rw [HN.out]; exact hlt)⟩
          have hft := HFL.out t (List.mem_of_getElem? ht)
          obtain ⟨tS, tI, tH, tD, tp⟩ := partsP t.x
          have hlr := HL3.out.below h.below
          obtain ⟨g, off, rfl, m0, m1, m2, m3, m4, m5, m6, m7, m8, m9⟩ := hlr.at ht tp
          have hlcap : n ≤ lc ∨ True := .inr trivial
          obtain ⟨tF, htF⟩ : ∃ tF : ByteArray, (⟨t.filt.toArray⟩ : ByteArray) = tF := ⟨_, rfl⟩
          rw [htF] at m9
          obtain ⟨wa, hwa⟩ : ∃ wa, wa = wr.alloc (.cells #[.int .i64 t.kind, .int .i64 t.now, .int .i64 t.n, .string tS, .string tI, .string tH, .string tD, .int .i64 t.x.exp, .int .i64 t.x.roll, .string tF] 114) := ⟨_, rfl⟩
          have hba : Below wr.heap.size wr wa := by rw [hwa]; exact (Below.refl _ _).alloc (Nat.le_refl _) _
          have hea : wa.heap[wr.heap.size]? = some (.cells #[.int .i64 t.kind, .int .i64 t.now, .int .i64 t.n, .string tS, .string tI, .string tH, .string tD, .int .i64 t.x.exp, .int .i64 t.x.roll, .string tF] 114 (0, 0)) := by rw [hwa]; exact heap_alloc_new wr _
          obtain ⟨ba, hbae⟩ : ∃ ba, wr.heap.size = ba := ⟨_, rfl⟩
          rw [hbae] at hea
          obtain ⟨q0, q1, q2, q3, q4, q5, q6, q7, q8, q9, qf⟩ := ten hea
          have hpu := pub_sm (h.low hba) (by omega) HM3.out HFF.out hft HPN.out.1 (by omega) t.now
          rw [tp.v] at hpu
          have HPU := Lib.hid hpu; have HBAE := Lib.hid hbae
          obtain ⟨I, hRt⟩ := h.right
          have HST := Lib.hid (show c + s.v.L.length ≤ 4 * k ∧ s.ids.length ≤ k ∧ s.v.last ≤ k ∧ s.v.L.length ≤ 200 ∧ 0 ≤ s.v.last from ⟨hc, hi, hla, hRt.few, hRt.range.1⟩)
          clear h hc hi hla ht hft tp hlr hlcap htF hba hea hbae hpu HR hRt
          go_upto_region 9 with fail
          rw [← hwa, HBAE.out]
          clear hwa m0 m1 m2 m3 m4 m5 m6 m7 m8 m9
          go_wp2_with fail
          refine HPU.out.mono ?_
          rintro e w5 ⟨rfl, c5, ⟨⟨F5, h5, _⟩, _⟩, hc5⟩
          have hmo := pub_more (p := pl) (room := 65536) (size := 4096) (now := t.now) (x := t.x) (s := s) HST.out.2.2.2.1 HST.out.2.2.2.2
          have HX := Lib.hid (show LvRolls w3 K 65536 4096 name pl (k + 1) w5 from ⟨F5, S, c5, _, h5, by have := HST.out.1; omega, by have := HST.out.2.1; omega, by have := HST.out.2.2.1; omega⟩)
          clear h5 hc5 hmo HPU q0 q1 q2 q3 q4 q5 q6 q7 q8 q9 qf
          go_wp2_with fail
          exact ⟨⟨k + 1, by omega, by go_num, HX⟩, by simp [intOf]; omega⟩
        · have hltz : ¬ (k : Int) < n := by omega
          obtain rfl : k = n := by omega
          obtain ⟨F, S, c, s, h, hc, hi, hla⟩ := HR.out
          obtain ⟨I, hRt⟩ := h.right
          have HRT := Lib.hid hRt
          have hpu := pub_sm h (by omega) HM3.out HFF.out HFX.out HPN.out.1 (by omega) 1073741824
          rw [HPX.out.v] at hpu
          have HPU := Lib.hid hpu
          have hE4 := (h.below.block bx (heap_lt HE4.out)).trans HE4.out
          obtain ⟨q0, q1, q2, q3, q4, q5⟩ := sixC hE4
          have hbl := heap_lt hE4
          clear h hc hi hla HR hRt hpu hE4
          go_wp2_with fail
          refine HPU.out.mono ?_
          rintro e w6 ⟨rfl, c6, ⟨⟨F6, h6, _⟩, _⟩, hc6⟩
          have HRL := Lib.hid (fun h0 ha hr => pub_rolls (p := pl) (room := 65536) (size := 4096) (now := 1073741824) (x := x) (s := s) HRT.out h0 ha hr)
          obtain ⟨R, hRe⟩ : ∃ R, pubP pl 65536 4096 1073741824 x s = R := ⟨_, rfl⟩
          rw [hRe] at HRL h6 ⊢
          obtain ⟨Rs, rn, ra, re⟩ := R
          simp only at HRL h6 ⊢
          have hE4 := (h6.below.block bx (heap_lt HE4.out)).trans HE4.out
          have HEND := Lib.hid (low_to HB3.out h6.below)
          have HSTO := Lib.hid (store_sm h6)
          obtain ⟨F7, hst⟩ := h6.st
          have HALL := Lib.hid (all_any hst)
          obtain ⟨I6, hR6⟩ := h6.right
          have HFEW := Lib.hid hR6.few
          clear h6 hc6 hRe hst hR6 q0 q1 q2 q3 q4 q5 hbl HPU
          obtain ⟨q0, q1, q2, q3, q4, q5⟩ := sixC hE4
          have hbl := heap_lt hE4
          have HE6 := Lib.hid hE4
          clear hE4
          obtain ⟨xr, hxr⟩ : ∃ xr, x.roll = xr := ⟨_, rfl⟩
          have HXR := Lib.hid hxr
          rw [hxr] at q5
          clear hxr
          by_cases e0 : re = 0
          · subst e0
            cases ra with
            | true =>
              go_wp2_with fail
              go_ret
              exact ⟨rfl, HEND.out⟩
            | false =>
              by_cases er0 : xr = 0
              · subst er0
                go_wp2_with fail
                go_ret
                exact ⟨rfl, HEND.out⟩
              · have er0z : (xr == 0) = false := by simpa using er0
                obtain ⟨lr, m, hLL, hms, hlr⟩ := HRL.out rfl rfl (by rw [HXR.out]; exact er0)
                rw [HXR.out] at hlr
                obtain ⟨L, hL⟩ : ∃ L, Rs.v.L = L := ⟨_, rfl⟩
                rw [hL] at HALL HFEW hLL
                have HLL := Lib.hid hLL; have HMS := Lib.hid hms; have HLR := Lib.hid hlr
                clear hLL hms hlr hL er0 HRL
                go_wp2_with fail
                refine HSTO.out.mono ?_
                rintro e w' ⟨rfl, rfl⟩
                go_wp2_with fail
                refine HALL.out.mono ?_
                rintro e w7 ⟨v7, rfl, hr7, hb7, _⟩
                obtain ⟨nn, hnn⟩ : ∃ nn, L.length = nn := ⟨_, rfl⟩
                have HNN := Lib.hid hnn
                rw [hnn] at hr7
                obtain ⟨a7, n7, rfl⟩ := hr7.slice
                have HR7 := Lib.hid hr7
                have HE7 := Lib.hid (low_to HEND.out hb7)
                have HX7 := Lib.hid ((hb7.block bx hbl).trans HE6.out)
                have hn0 : 1 ≤ nn := by rw [← hnn, HLL.out]; simp
                have hn2 : nn ≤ 200 := by rw [← hnn]; exact HFEW.out
                clear hr7 hb7 hnn q0 q1 q2 q3 q4 q5 hbl HALL HSTO HEND HE6
                go_wp2_with fail
                go_loopw [65] (fun i wx => ∃ j : Nat, j ≤ nn ∧ i = .int .i64 j ∧ Hid (Below w7.heap.size w7 wx)) (fun i _ => nn - (intOf i).toNat)
                case atStart => exact ⟨0, Nat.zero_le _, rfl, Lib.hid (Below.refl _ _)⟩
                case round =>
                  obtain ⟨j, hj, rfl, HB⟩ := hrel
                  have hrow := HR7.out.kept (w' := wr) fun i _ hi => HB.out.block i hi
                  rcases hrow.2 with ⟨_, h0'⟩ | ⟨g, off, cap, cur, ev, _⟩
                  · omega
                  obtain ⟨rfl, rfl⟩ : a7 = some ⟨g, off, none⟩ ∧ n7 = cap := by simp at ev; exact ev
                  clear ev
                  have hcap := hrow.cap_le.1
                  by_cases hjn : j < nn
                  · have hjz : (j : Int) < nn := by omega
                    obtain ⟨r, hr⟩ : ∃ r, L[j]? = some r := ⟨L[j]'(by rw [HNN.out]; exact hjn), by simp⟩
                    obtain ⟨m0, m1, m2, m3, m4, m5⟩ := Sto.cells_rec hrow j r hr hjn
                    obtain ⟨rS, rH, rD, rp⟩ := Sto.parts r
                    rw [rp.s1] at m3
                    rw [rp.h1] at m4
                    rw [rp.d1] at m5
                    obtain ⟨wa, hwa⟩ : ∃ wa, wa = wr.alloc (.cells #[.int .i64 r.kind, .int .i64 r.seq, .int .i64 r.time, .string rS, .string rH, .string rD] 33) := ⟨_, rfl⟩
                    have hba : Below wr.heap.size wr wa := by rw [hwa]; exact (Below.refl _ _).alloc (Nat.le_refl _) _
                    have hea : wa.heap[wr.heap.size]? = some (.cells #[.int .i64 r.kind, .int .i64 r.seq, .int .i64 r.time, .string rS, .string rH, .string rD] 33 (0, 0)) := by rw [hwa]; exact heap_alloc_new wr _
                    obtain ⟨ba, hbae⟩ : ∃ ba, wr.heap.size = ba := ⟨_, rfl⟩
                    rw [hbae] at hea
                    have HBAE := Lib.hid hbae
                    have HBA := Lib.hid (low_to HB.out hba)
                    obtain ⟨z0, z1, z2, z3, z4, z5⟩ := sixC hea
                    have hzl := heap_lt hea
                    have hxa := (HBA.out.block bx (heap_lt HX7.out)).trans HX7.out
                    obtain ⟨q0, q1, q2, q3, q4, q5⟩ := sixC hxa
                    rw [HXR.out] at q5
                    have hbl := heap_lt hxa
                    have HRP := Lib.hid (And.intro hr rp)
                    clear hrow hr rp hba hea hbae hxa
                    go_upto_region 18 with fail
                    rw [← hwa, HBAE.out]
                    clear hwa m0 m1 m2 m3 m4 m5 hcap
                    by_cases hsq : r.seq = rn
                    · have hsqz : (r.seq != rn) = false := by simpa using hsq
                      clear hsq
                      go_wp2_with fail
                      exact ⟨⟨j + 1, by omega, by go_num, HBA⟩, by simp [intOf]; omega⟩
                    · have hsqz : (r.seq != rn) = true := by simpa using hsq
                      have hin : r ∈ lr := by
                        have hm := List.mem_of_getElem? HRP.out.1
                        rw [HLL.out] at hm
                        rcases List.mem_append.1 hm with hm | hm
                        · exact hm
                        · have : r = m := by simpa using hm
                          exact absurd (by rw [this]; exact HMS.out) hsq
                      have hne := HLR.out r hin
                      have h2z : (xr == 2) = false := by simpa using hne.1
                      have hsz : (rS.toList == sb.toList) = false := by
                        rw [ByteArray.toList_eq, ByteArray.toList_eq, HRP.out.2.s2, HPX.out.s2]
                        simpa using hne.2
                      clear hsq hin hne
                      go_wp2_with fail
                      exact ⟨⟨j + 1, by omega, by go_num, HBA⟩, by simp [intOf]; omega⟩
                  · have hjz : ¬ (j : Int) < nn := by omega
                    obtain rfl : j = nn := by omega
                    have hlast : L[j - 1]? = some m := by
                      have : j - 1 = lr.length := by rw [← HNN.out, HLL.out]; simp
                      rw [this, HLL.out]; simp
                    obtain ⟨_, m1, _⟩ := Sto.cells_rec hrow (j - 1) m hlast (by omega)
                    rw [HMS.out] at m1
                    have ei : ((j : Int) - 1) = ((j - 1 : Nat) : Int) := by omega
                    have hw1 : IntKind.i64.wrap ((j : Int) - 1) = ((j - 1 : Nat) : Int) := by rw [← ei]; exact IntWalk.i64_in _ (by omega)
                    obtain ⟨i, hi⟩ : ∃ i, j - 1 = i := ⟨_, rfl⟩
                    rw [hi] at m1 hw1
                    have hiz : (i : Int) < j ∧ (0 : Int) < j := by omega
                    have HF := Lib.hid (low_to HE7.out HB.out)
                    clear hrow hlast ei hi
                    go_wp2_with fail
                    go_ret
                    exact ⟨by simp, HF.out⟩
          · have e0z : ((re : Int) == 0) = false := by simpa using e0
            have e0y : ((re : Int) != 0) = true := by simpa using e0
            clear e0
            go_wp2_with fail
            go_ret
            exact ⟨rfl, HEND.out⟩
end
end Go.Proofs.YtbgchhgdlceceaaGreatDoor.Strm

namespace Go.Proofs.YtbgchhgdlceceaaGreatDoor.Strm
open Go.RowKit Go.ChangeMaps Go.ChangeAt
open Subj (ML open_plan PlanArg)

set_option maxRecDepth 100000 in
open Go.WideShapes Go.ChangeShapes in
theorem streamRolls_calls {H : Type} (enc : TypeId × Value → H) (W : World) (base : Nat) (v0 v1 v2 : Value) (d0 d1 d2 : DataW H) (p0 p1 p2 : List MemPlace)
    (h0 : DataW.Trod enc Tryz.prog W 0 (fun _ => true) true 62 v0 d0 p0) (h1 : DataW.Trod enc Tryz.prog W 0 (fun _ => true) true 109 v1 d1 p1) (h2 : DataW.Trod enc Tryz.prog W 0 (fun _ => true) true 112 v2 d2 p2)
    (o0 : Value.okWide Tryz.prog W .any base 62 v0) (o1 : Value.okWide Tryz.prog W .any base 109 v1) (o2 : Value.okWide Tryz.prog W .any base 112 v2)
    (hk : Rows.uptoSmall H ([d0, d1, d2] ++ []) = true) (hM : ML W) :
    Calls Tryz.prog 7 #[v0, v1, v2] W fun e w' => e = .returned (.bool true) ∧ Below W.heap.size W w' := by
  have hb0 : Rows.uptoBulk d0 ≤ 1048576 := by
    have h1 := bulk_bound hk
    have h2 := bulk_part (d := d0) (l := [d0, d1, d2] ++ []) (by simp)
    omega
  have hb1 : Rows.uptoBulk d1 ≤ 1048576 := by
    have h1 := bulk_bound hk
    have h2 := bulk_part (d := d1) (l := [d0, d1, d2] ++ []) (by simp)
    omega
  have hb2 : Rows.uptoBulk d2 ≤ 1048576 := by
    have h1 := bulk_bound hk
    have h2 := bulk_part (d := d2) (l := [d0, d1, d2] ++ []) (by simp)
    omega
  obtain ⟨name, ao, n, cap, fs, x0, x1, x2, x3, x4, x5, x6, x7, rfl, hfn, hS, hz, hn, hnm⟩ := open_plan h0 o0 hb0
  subst hfn
  obtain ⟨a1, m1, c1, rfl⟩ := okWide_slice Tryz.underlying109 o1
  obtain ⟨fuel, hf⟩ := h1
  obtain ⟨a', m', c', l, hcs, hl, hft⟩ := open_steps hf hb1
  simp [Value.cells] at hcs
  obtain ⟨rfl, rfl, rfl⟩ := hcs
  obtain ⟨x, rfl, hx⟩ := open_post h2 o2 hb2
  exact streamRolls_walk hM name _ ⟨fs, x0, x1, x2, x3, x4, x5, x6, x7⟩ hS hz hn hnm hl (fun t ht => (hft t ht).1) x hx
end Go.Proofs.YtbgchhgdlceceaaGreatDoor.Strm
