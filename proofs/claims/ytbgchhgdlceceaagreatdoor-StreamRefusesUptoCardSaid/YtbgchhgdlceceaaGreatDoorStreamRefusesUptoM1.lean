/- Parts of the proof, joined: The law StreamRefuses, walked: it returns true.; StreamRefuses, from what it is handed. -/
import Derived.Test.YtbgchhgdlceceaaGreatDoorStrmBaseM35
import Derived.Deep.RegionHeld3
import Derived.BigQuiet
import Derived.Deep.QuietTactic
import Derived.OpenShut
import Derived.ChangeMaps5
namespace Go.Proofs.YtbgchhgdlceceaaGreatDoor.Strm
open Go.RowKit Heap
open Subj (Tok ML Strs Small planErr planCells ten)
open Vlt (all_vlt sums_vlt low_to)
open Rec (Rc far)
open Sto (Right sixC fourS recsV RecsAt row_recs equal_recs sumsV sums_any all_any)

/-- Behind so many posts. -/
def LvRefuses (W : World) (K : Nat) (room size : Int) (name : ByteArray) (p : Pl) (k : Nat) (wr : World) : Prop :=
  ∃ F S c s, SmAt W F K S c room size name p s wr ∧ c + s.v.L.length ≤ 4 * k ∧ s.ids.length ≤ k ∧ s.v.last ≤ k ∧ Num (410 * k) s.v.A

section
variable {w : World}

theorem LvRefuses.low {W w w1 : World} {K k : Nat} {room size : Int} {name : ByteArray} {p : Pl} (h : LvRefuses W K room size name p k w) (hb : Below w.heap.size w w1) : LvRefuses W K room size name p k w1 := by
  obtain ⟨F, S, c, s, h1, h2⟩ := h
  exact ⟨F, S, c, s, h1.low hb, h2⟩

theorem LvRefuses.below {W w : World} {K k : Nat} {room size : Int} {name : ByteArray} {p : Pl} (h : LvRefuses W K room size name p k w) : Below W.heap.size W w := by
  obtain ⟨F, S, c, s, h1, _⟩ := h
  exact h1.below

set_option maxHeartbeats 8000000 in
set_option maxRecDepth 100000 in
theorem streamRefuses_walk (hm : ML w) (name : ByteArray) (v : Value) (p : Pl) (hS : Strs w v p.fs) (hz : Small p.fs) (hl : p.fs.length ≤ 1048576) (hnm : name.size ≤ 1048576) {vl : Value} {l : List StP} (hL : StepsAt w vl l) (hfx : ∀ t ∈ l, FitsP t.x) (x : Po) (hx : FitsP x) :
    Calls Tryz.prog 9 #[.agg (planCells name v p.msgs p.bytes p.age p.per p.size p.disc p.keep p.win), vl, postV x] w fun e w' => e = .returned (.bool true) ∧ Below w.heap.size w w' := by
  obtain ⟨n, hnL⟩ : ∃ n, l.length = n := ⟨_, rfl⟩
  have HN := Lib.hid hnL
  obtain ⟨la, lc, rfl⟩ : ∃ la lc, vl = .slice la l.length lc := by
    obtain ⟨a, c, e, _⟩ := hL
    exact ⟨a, c, e⟩
  rw [hnL] at hL ⊢
  have hFF := fitsF_of hz hl
  obtain ⟨fs, x0, x1, x2, x3, x4, x5, x6, x7⟩ := p
  simp only at hS hz hl hFF ⊢
  obtain ⟨fo, fc, rfl⟩ : ∃ fo fc, v = .slice fo fs.length fc := by
    obtain ⟨a, c, e, _⟩ := hS
    exact ⟨a, c, e⟩
  obtain ⟨w1, hw1⟩ : ∃ w1, w1 = w.alloc (.cells (planCells name (.slice fo fs.length fc) x0 x1 x2 x3 x4 x5 x6 x7) 62) := ⟨_, rfl⟩
  have hb1 : Below w.heap.size w w1 := by rw [hw1]; exact (Below.refl _ _).alloc (Nat.le_refl _) _
  have he1 : w1.heap[w.heap.size]? = some (.cells (planCells name (.slice fo fs.length fc) x0 x1 x2 x3 x4 x5 x6 x7) 62 (0, 0)) := by rw [hw1]; exact heap_alloc_new w _
  obtain ⟨bp, hbp⟩ : ∃ bp, w.heap.size = bp := ⟨_, rfl⟩
  rw [hbp] at he1
  obtain ⟨sb, ib, hb, db, hp⟩ := partsP x
  rw [hp.v]
  obtain ⟨w2, hw2⟩ : ∃ w2, w2 = w1.alloc (.cells #[.string sb, .string ib, .string hb, .string db, .int .i64 x.exp, .int .i64 x.roll] 112) := ⟨_, rfl⟩
  have hb2 : Below w1.heap.size w1 w2 := by rw [hw2]; exact (Below.refl _ _).alloc (Nat.le_refl _) _
  have he2 : w2.heap[w1.heap.size]? = some (.cells #[.string sb, .string ib, .string hb, .string db, .int .i64 x.exp, .int .i64 x.roll] 112 (0, 0)) := by rw [hw2]; exact heap_alloc_new w1 _
  have hs1 : w1.heap.size = bp + 1 := by rw [hw1, ← hbp]; simp
  obtain ⟨bx, hbx⟩ : ∃ bx, w1.heap.size = bx := ⟨_, rfl⟩
  rw [hbx] at he2
  have he12 := (hb2.block bp (heap_lt he1)).trans he1
  have hbw := hb1.trans (hb2.mono hb1.size)
  have HBX := Lib.hid (show bp + 1 = bx by omega)
  have HPX := Lib.hid hp; have HFX := Lib.hid hx; have HE2 := Lib.hid he2
  have HBP := Lib.hid hbp; have HBW := Lib.hid hbw; have HE1 := Lib.hid he12; have HL := Lib.hid (hL.below hbw); have HS := Lib.hid (hS.below hbw); have HM := Lib.hid (hm.below hbw); have HZ := Lib.hid (And.intro hz (And.intro hl hnm)); have HFL := Lib.hid hfx; have HFF := Lib.hid hFF
  have HPB := Lib.hid (published_any (hm.below hbw))
  clear hnL hL hm hS hz hl hnm hfx hFF hb1 he1 hbp hbw he12 hb2 he2 hbx hs1 hp hx
  unfold planCells at hw1 HE1 ⊢
  go_enter Tryz.func9, Tryz.ntmps9
  go_upto_region 1 with fail
  rw [← hw1, HBP.out]
  rw [← hw2, HBX.out]
  clear hw1 hw2
  go_wp2_with fail
  refine HPB.out.mono ?_
  rintro e w3 ⟨rfl, hb3⟩
  have HE3 := Lib.hid ((hb3.block bp (heap_lt HE1.out)).trans HE1.out)
  have HB3 := Lib.hid (HBW.out.trans (hb3.mono HBW.out.size))
  have HL3 := Lib.hid (HL.out.below hb3); have HM3 := Lib.hid (HM.out.below hb3)
  have hnw := new_sm (W := w3) (Below.refl _ _) HM3.out name _ ⟨fs, x0, x1, x2, x3, x4, x5, x6, x7⟩ 65536 4096 (HS.out.below hb3) HZ.out.1 HZ.out.2.1 HZ.out.2.2
  unfold planCells at hnw
  have HNW := Lib.hid hnw
  have HE4 := Lib.hid ((hb3.block bx (heap_lt HE2.out)).trans HE2.out)
  clear hb3 hnw HE1 HL HM HPB HBW HS HE2
  obtain ⟨q0, q1, q2, q3, q4, q5, q6, q7, q8, q9, qf⟩ := ten HE3.out
  have hbl := heap_lt HE3.out
  go_wp2_with fail
  refine HNW.out.mono ?_
  rintro e w4 ⟨hb4, hcase⟩
  have HB4 := Lib.hid hb4
  clear hb4 HNW q0 q1 q2 q3 q4 q5 q6 q7 q8 q9 qf hbl
  obtain ⟨pl, hpl⟩ : ∃ pl : Pl, ⟨fs, x0, x1, x2, x3, x4, x5, x6, x7⟩ = pl := ⟨_, rfl⟩
  rw [hpl] at hcase HFF
  have HPL := Lib.hid hpl
  rcases hcase with ⟨h0, rfl⟩ | ⟨h0, F, K, S, rfl, h4, _⟩
  · obtain ⟨er, her⟩ : ∃ er, newErr name.data.toList pl 65536 4096 = er := ⟨_, rfl⟩
    rw [her] at h0 ⊢
    have h0z : ((er : Int) == 0) = false := by simpa using h0
    have h0y : ((er : Int) != 0) = true := by simpa using h0
    have HF := Lib.hid (low_to HB3.out HB4.out)
    clear her h0 hpl
    go_wp2_with fail
    go_ret
    exact ⟨rfl, HF.out⟩
  · have hpn := plan_nums (newErr_plan h0).1
    have HPN := Lib.hid hpn
    clear hpl hpn h0
    by_cases h60 : 60 < n
    · have h60z : (60 : Int) < n := by omega
      have HF := Lib.hid (low_to HB3.out HB4.out)
      clear h4
      go_wp2_with fail
      go_ret
      exact ⟨rfl, HF.out⟩
    · have h60z : ¬ (60 : Int) < n := by omega
      have h0 := Lib.hid (show LvRefuses w3 K 65536 4096 name pl 0 w4 from ⟨F, S, 0, s0, h4, by show 0 + 0 ≤ 4 * 0; omega, by show 0 ≤ 0; omega, by show (0 : Int) ≤ 0; omega, fun n hn => by simp [s0] at hn⟩)
      clear h4
      go_wp2_with fail
      go_loopw [28] (fun i wr => ∃ k : Nat, k ≤ n ∧ i = .int .i64 k ∧ Hid (LvRefuses w3 K 65536 4096 name pl k wr)) (fun i _ => n - (intOf i).toNat)
      case atStart => exact ⟨0, Nat.zero_le _, rfl, h0⟩
      case round =>
        obtain ⟨k, hk, rfl, HR⟩ := hrel
        clear h0
        by_cases hlt : k < n
        · have hltz : (k : Int) < n := by omega
          obtain ⟨F, S, c, s, h, hc, hi, hla, hnu⟩ := HR.out
          obtain ⟨t, ht⟩ : ∃ t, l[k]? = some t := ⟨_, List.getElem?_eq_getElem (by rw [HN.out]; exact hlt)⟩
          have hft := HFL.out t (List.mem_of_getElem? ht)
          obtain ⟨tS, tI, tH, tD, tp⟩ := partsP t.x
          have hlr := HL3.out.below h.below
          obtain ⟨g, off, rfl, m0, m1, m2, m3, m4, m5, m6, m7, m8, m9⟩ := hlr.at ht tp
          have hlcap : n ≤ lc ∨ True := .inr trivial
          obtain ⟨tF, htF⟩ : ∃ tF : ByteArray, (⟨t.filt.toArray⟩ : ByteArray) = tF := ⟨_, rfl⟩
          rw [htF] at m9
          obtain ⟨wa, hwa⟩ : ∃ wa, wa = wr.alloc (.cells #[.int .i64 t.kind, .int .i64 t.now, .int .i64 t.n, .string tS, .string tI, .string tH, .string tD, .int .i64 t.x.exp, .int .i64 t.x.roll, .string tF] 114) := ⟨_, rfl⟩
          have hba : Below wr.heap.size wr wa := by rw [hwa]; exact (Below.refl _ _).alloc (Nat.le_refl _) _
          have hea : wa.heap[wr.heap.size]? = some (.cells #[.int .i64 t.kind, .int .i64 t.now, .int .i64 t.n, .string tS, .string tI, .string tH, .string tD, .int .i64 t.x.exp, .int .i64 t.x.roll, .string tF] 114 (0, 0)) := by rw [hwa]; exact heap_alloc_new wr _
          obtain ⟨ba, hbae⟩ : ∃ ba, wr.heap.size = ba := ⟨_, rfl⟩
          rw [hbae] at hea
          obtain ⟨q0, q1, q2, q3, q4, q5, q6, q7, q8, q9, qf⟩ := ten hea
          have hpu := pub_sm (h.low hba) (by omega) HM3.out HFF.out hft HPN.out.1 (by omega) t.now
          rw [tp.v] at hpu
          have HPU := Lib.hid hpu; have HBAE := Lib.hid hbae
          obtain ⟨I, hRt⟩ := h.right
          have HST := Lib.hid (show c + s.v.L.length ≤ 4 * k ∧ s.ids.length ≤ k ∧ s.v.last ≤ k ∧ s.v.L.length ≤ 200 ∧ 0 ≤ s.v.last from ⟨hc, hi, hla, hRt.few, hRt.range.1⟩)
          have HNX := Lib.hid (show Num (410 * (k + 1)) (pubP pl 65536 4096 t.now t.x s).1.v.A from by
            have := pub_num (p := pl) (room := 65536) (size := 4096) (now := t.now) (x := t.x) hRt hnu (by show ((410 * k + 410 : Nat) : Int) ≤ 1099511627776; omega)
            exact this)
          clear h hc hi hla ht hft tp hlr hlcap htF hba hea hbae hpu HR hRt hnu
          go_upto_region 9 with fail
          rw [← hwa, HBAE.out]
          clear hwa m0 m1 m2 m3 m4 m5 m6 m7 m8 m9
          go_wp2_with fail
          refine HPU.out.mono ?_
          rintro e w5 ⟨rfl, c5, ⟨⟨F5, h5, _⟩, _⟩, hc5⟩
          have hmo := pub_more (p := pl) (room := 65536) (size := 4096) (now := t.now) (x := t.x) (s := s) HST.out.2.2.2.1 HST.out.2.2.2.2
          have HX := Lib.hid (show LvRefuses w3 K 65536 4096 name pl (k + 1) w5 from ⟨F5, S, c5, _, h5, by have := HST.out.1; omega, by have := HST.out.2.1; omega, by have := HST.out.2.2.1; omega, HNX.out⟩)
          clear h5 hc5 hmo HPU q0 q1 q2 q3 q4 q5 q6 q7 q8 q9 qf HNX
          go_wp2_with fail
          exact ⟨⟨k + 1, by omega, by go_num, HX⟩, by simp [intOf]; omega⟩
        · have hltz : ¬ (k : Int) < n := by omega
          obtain rfl : k = n := by omega
          obtain ⟨F, S, c, s, h, hc, hi, hla, hnu⟩ := HR.out
          obtain ⟨I, hRt⟩ := h.right
          have HRT := Lib.hid hRt
          have HK := Lib.hid (show c + s.v.L.length ≤ 4 * k ∧ s.ids.length ≤ k ∧ s.v.last ≤ k from ⟨hc, hi, hla⟩)
          have HNU := Lib.hid hnu
          have HH := Lib.hid h
          have HSTO := Lib.hid (store_sm h)
          obtain ⟨F2, hst⟩ := h.st
          have HALL := Lib.hid (all_any hst)
          clear h hc hi hla hnu HR hst hRt
          go_wp2_with fail
          refine HSTO.out.mono ?_
          rintro e w' ⟨rfl, rfl⟩
          go_wp2_with fail
          refine HALL.out.mono ?_
          rintro e w5 ⟨v5, rfl, hr5, hb5, ho5⟩
          have HR5 := Lib.hid (And.intro hr5 ho5)
          have hpu := pub_sm (HH.out.low hb5) (by have := HK.out; omega) HM3.out HFF.out HFX.out HPN.out.1 (by have := HK.out; omega) 1073741824
          rw [HPX.out.v] at hpu
          have HPU := Lib.hid hpu
          have HH5 := Lib.hid (HH.out.low hb5)
          have hE4 := (hb5.block bx (heap_lt ((HH.out.below.block bx (heap_lt HE4.out)).trans HE4.out))).trans ((HH.out.below.block bx (heap_lt HE4.out)).trans HE4.out)
          obtain ⟨q0, q1, q2, q3, q4, q5⟩ := sixC hE4
          have hbl := heap_lt hE4
          obtain ⟨a5, n5, rfl⟩ := hr5.slice
          clear hr5 hb5 ho5 hpu hE4 HALL HSTO
          go_wp2_with fail
          refine HPU.out.mono ?_
          rintro e w6 ⟨rfl, c6, hn6, hc6⟩
          have HN6 := Lib.hid hn6
          obtain ⟨⟨F6, h6, hF6⟩, ht6⟩ := hn6
          have HH6 := Lib.hid h6
          have HREF := Lib.hid (fun h0 h8 => pub_refuses (p := pl) (room := 65536) (size := 4096) (now := 1073741824) (x := x) (s := s) HRT.out HNU.out (by have := HK.out.2.2; show ((410 * k + 410 : Nat) : Int) ≤ 1099511627776; omega) (by have := HK.out.2.2; show s.v.last < 1099511627776; omega) HPN.out.2.1 h0 h8)
          obtain ⟨R, hRe⟩ : ∃ R, pubP pl 65536 4096 1073741824 x s = R := ⟨_, rfl⟩
          rw [hRe] at HREF HH6 ⊢
          have hE4 := (h6.below.block bx (heap_lt HE4.out)).trans HE4.out
          have hE3 := (h6.below.block bp (heap_lt HE3.out)).trans HE3.out
          have HS6 := Lib.hid (store_sm HH6.out)
          obtain ⟨F7, hst⟩ := HH6.out.st
          have HALL := Lib.hid (all_any hst)
          obtain ⟨⟨rs, ri⟩, ⟨rn, ra, re⟩⟩ := R
          simp only at HREF HALL HH6 HS6 ⊢
          have hrow5 : Row w6 33 6 (.slice a5 s.v.L.length n5) s.v.L.length (recsV s.v.L) := HR5.out.1.kept fun j hj hlt => ht6.block j hlt fun e => by
            have h1 := HR5.out.2 j hj
            have h2 := HH.out.bF j e
            omega
          have HR6 := Lib.hid hrow5
          have HDI := Lib.hid (show pl.disc = x5 from by rw [← HPL.out])
          have HEND := Lib.hid (low_to HB3.out h6.below)
          clear h6 hF6 ht6 hc6 hRe hst hrow5 q0 q1 q2 q3 q4 q5 hbl HPU HN6
          obtain ⟨q0, q1, q2, q3, q4, q5⟩ := sixC hE4
          obtain ⟨p0, p1, p2, p3, p4, p5, p6, p7, p8, p9, pf⟩ := ten hE3
          have hbl := heap_lt hE4
          have hbl3 := heap_lt hE3
          clear hE3 hE4
          by_cases e0 : re = 0
          · subst e0
            go_wp2_with fail
            go_ret
            exact ⟨rfl, HEND.out⟩
          · have e0z : ((re : Int) == 0) = false := by simpa using e0
            by_cases e8 : re = 8 ∧ (x5 = 0 ∨ x.roll ≠ 0)
            · obtain ⟨rfl, e8⟩ := e8
              clear e0 e0z
              by_cases e5 : x5 = 0
              · subst e5
                go_wp2_with fail
                go_ret
                exact ⟨rfl, HEND.out⟩
              · have e5z : (x5 == 0) = false := by simpa using e5
                have e7 : (x.roll != 0) = true := by simpa using e8.resolve_left e5
                clear e8 e5
                go_wp2_with fail
                go_ret
                exact ⟨rfl, HEND.out⟩
            · have heq := HREF.out e0 (by rw [HDI.out]; exact e8)
              have HEQ := Lib.hid heq
              have HFEW := Lib.hid HRT.out.few
              have h8s : ((re : Int) == 8) = false ∨ (((re : Int) == 8) = true ∧ (x5 == 0) = false ∧ (x.roll != 0) = false) := by
                by_cases e : re = 8
                · refine .inr ⟨by rw [beq_iff_eq]; omega, ?_, ?_⟩
                  · have : ¬ x5 = 0 := fun h => e8 ⟨e, .inl h⟩
                    simpa using this
                  · have : x.roll = 0 := Classical.byContradiction fun h => e8 ⟨e, .inr h⟩
                    simpa using this
                · refine .inl ?_
                  rw [beq_eq_false_iff_ne]; omega
              clear e8 e0 heq
              rcases h8s with e8z | ⟨e8z, e5z, e7z⟩
              all_goals
                go_wp2_with fail
                refine HS6.out.mono ?_
                rintro e w' ⟨rfl, rfl⟩
                go_wp2_with fail
                refine HALL.out.mono ?_
                rintro e w7 ⟨v7, rfl, hr7, hb7, _⟩
                rw [HEQ.out] at hr7
                have HEQC := Lib.hid (equal_recs (row_recs hr7) (row_recs (HR6.out.kept fun j hj hlt => hb7.block j hlt)) (by have := HFEW.out; omega))
                have HE7 := Lib.hid (low_to HEND.out hb7)
                clear hr7 hb7
                go_wp2_with fail
                refine HEQC.out.mono ?_
                rintro e w8 ⟨rfl, q, rfl⟩
                go_wp2_with fail
                go_ret
                exact ⟨rfl, below_drewN HE7.out q⟩
end
end Go.Proofs.YtbgchhgdlceceaaGreatDoor.Strm

namespace Go.Proofs.YtbgchhgdlceceaaGreatDoor.Strm
open Go.RowKit Go.ChangeMaps Go.ChangeAt
open Subj (ML open_plan PlanArg)

set_option maxRecDepth 100000 in
open Go.WideShapes Go.ChangeShapes in
theorem streamRefuses_calls {H : Type} (enc : TypeId × Value → H) (W : World) (base : Nat) (v0 v1 v2 : Value) (d0 d1 d2 : DataW H) (p0 p1 p2 : List MemPlace)
    (h0 : DataW.Trod enc Tryz.prog W 0 (fun _ => true) true 62 v0 d0 p0) (h1 : DataW.Trod enc Tryz.prog W 0 (fun _ => true) true 109 v1 d1 p1) (h2 : DataW.Trod enc Tryz.prog W 0 (fun _ => true) true 112 v2 d2 p2)
    (o0 : Value.okWide Tryz.prog W .any base 62 v0) (o1 : Value.okWide Tryz.prog W .any base 109 v1) (o2 : Value.okWide Tryz.prog W .any base 112 v2)
    (hk : Rows.uptoSmall H ([d0, d1, d2] ++ []) = true) (hM : ML W) :
    Calls Tryz.prog 9 #[v0, v1, v2] W fun e w' => e = .returned (.bool true) ∧ Below W.heap.size W w' := by
  have hb0 : Rows.uptoBulk d0 ≤ 1048576 := by
    have h1 := bulk_bound hk
    have h2 := bulk_part (d := d0) (l := [d0, d1, d2] ++ []) (by simp)
    omega
  have hb1 : Rows.uptoBulk d1 ≤ 1048576 := by
    have h1 := bulk_bound hk
    have h2 := bulk_part (d := d1) (l := [d0, d1, d2] ++ []) (by simp)
    omega
  have hb2 : Rows.uptoBulk d2 ≤ 1048576 := by
    have h1 := bulk_bound hk
    have h2 := bulk_part (d := d2) (l := [d0, d1, d2] ++ []) (by simp)
    omega
  obtain ⟨name, ao, n, cap, fs, x0, x1, x2, x3, x4, x5, x6, x7, rfl, hfn, hS, hz, hn, hnm⟩ := open_plan h0 o0 hb0
  subst hfn
  obtain ⟨a1, m1, c1, rfl⟩ := okWide_slice Tryz.underlying109 o1
  obtain ⟨fuel, hf⟩ := h1
  obtain ⟨a', m', c', l, hcs, hl, hft⟩ := open_steps hf hb1
  simp [Value.cells] at hcs
  obtain ⟨rfl, rfl, rfl⟩ := hcs
  obtain ⟨x, rfl, hx⟩ := open_post h2 o2 hb2
  exact streamRefuses_walk hM name _ ⟨fs, x0, x1, x2, x3, x4, x5, x6, x7⟩ hS hz hn hnm hl (fun t ht => (hft t ht).1) x hx
end Go.Proofs.YtbgchhgdlceceaaGreatDoor.Strm
