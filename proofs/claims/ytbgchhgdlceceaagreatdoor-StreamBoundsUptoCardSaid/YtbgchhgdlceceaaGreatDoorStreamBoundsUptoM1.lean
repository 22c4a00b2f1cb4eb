/- Parts of the proof, joined: The law StreamBounds, walked: it returns true.; StreamBounds, from what it is handed. -/
import Derived.Test.YtbgchhgdlceceaaGreatDoorStrmBaseM35
import Derived.Deep.RegionHeld3
import Derived.BigQuiet
import Derived.Deep.QuietTactic
import Derived.Deep.DeepCutAuto
import Derived.OpenShut
import Derived.ChangeMaps5
namespace Go.Proofs.YtbgchhgdlceceaaGreatDoor.Strm
open Go.RowKit Heap
open Subj (Tok ML Strs Small planErr planCells ten)
open Vlt (all_vlt sums_vlt low_to)
open Rec (Rc far)
open Sto (Right sixC fourS recsV RecsAt row_recs equal_recs sumsV sums_any all_any)

/-- Behind so many posts. -/
def LvBounds (W : World) (K : Nat) (room size : Int) (name : ByteArray) (p : Pl) (k : Nat) (wr : World) : Prop :=
  ∃ F S c s, SmAt W F K S c room size name p s wr ∧ c + s.v.L.length ≤ 4 * k ∧ s.ids.length ≤ k ∧ s.v.last ≤ k ∧ Bd p s.v.L

section
variable {w : World}

theorem LvBounds.low {W w w1 : World} {K k : Nat} {room size : Int} {name : ByteArray} {p : Pl} (h : LvBounds W K room size name p k w) (hb : Below w.heap.size w w1) : LvBounds W K room size name p k w1 := by
  obtain ⟨F, S, c, s, h1, h2⟩ := h
  exact ⟨F, S, c, s, h1.low hb, h2⟩

theorem LvBounds.below {W w : World} {K k : Nat} {room size : Int} {name : ByteArray} {p : Pl} (h : LvBounds W K room size name p k w) : Below W.heap.size W w := by
  obtain ⟨F, S, c, s, h1, _⟩ := h
  exact h1.below

set_option maxHeartbeats 8000000 in
set_option maxRecDepth 100000 in
theorem streamBounds_walk (hm : ML w) (name : ByteArray) (v : Value) (p : Pl) (hS : Strs w v p.fs) (hz : Small p.fs) (hl : p.fs.length ≤ 1048576) (hnm : name.size ≤ 1048576) {vl : Value} {l : List StP} (hL : StepsAt w vl l) (hfx : ∀ t ∈ l, FitsP t.x) (room size : Int) :
    Calls Tryz.prog 6 #[.agg (planCells name v p.msgs p.bytes p.age p.per p.size p.disc p.keep p.win), .int .i64 room, .int .i64 size, vl] w fun e w' => e = .returned (.bool true) ∧ Below w.heap.size w w' := by
  obtain ⟨n, hnL⟩ : ∃ n, l.length = n := ⟨_, rfl⟩
  have HN := Lib.hid hnL
  obtain ⟨la, lc, rfl⟩ : ∃ la lc, vl = .slice la l.length lc := by
    obtain ⟨a, c, e, _⟩ := hL
    exact ⟨a, c, e⟩
  rw [hnL] at hL ⊢
  have hFF := fitsF_of hz hl
  obtain ⟨fs, x0, x1, x2, x3, x4, x5, x6, x7⟩ := p
  simp only at hS hz hl hFF ⊢
  obtain ⟨fo, fc, rfl⟩ : ∃ fo fc, v = .slice fo fs.length fc := by
    obtain ⟨a, c, e, _⟩ := hS
    exact ⟨a, c, e⟩
  obtain ⟨w1, hw1⟩ : ∃ w1, w1 = w.alloc (.cells (planCells name (.slice fo fs.length fc) x0 x1 x2 x3 x4 x5 x6 x7) 62) := ⟨_, rfl⟩
  have hb1 : Below w.heap.size w w1 := by rw [hw1]; exact (Below.refl _ _).alloc (Nat.le_refl _) _
  have he1 : w1.heap[w.heap.size]? = some (.cells (planCells name (.slice fo fs.length fc) x0 x1 x2 x3 x4 x5 x6 x7) 62 (0, 0)) := by rw [hw1]; exact heap_alloc_new w _
  obtain ⟨bp, hbp⟩ : ∃ bp, w.heap.size = bp := ⟨_, rfl⟩
  rw [hbp] at he1
  obtain ⟨w2, hw2⟩ : ∃ w2, w2 = w1 := ⟨_, rfl⟩
  have he12 : w2.heap[bp]? = some (.cells (planCells name (.slice fo fs.length fc) x0 x1 x2 x3 x4 x5 x6 x7) 62 (0, 0)) := by rw [hw2]; exact he1
  have hbw : Below w.heap.size w w2 := by rw [hw2]; exact hb1
  have HBP := Lib.hid hbp; have HBW := Lib.hid hbw; have HE1 := Lib.hid he12; have HL := Lib.hid (hL.below hbw); have HS := Lib.hid (hS.below hbw); have HM := Lib.hid (hm.below hbw); have HZ := Lib.hid (And.intro hz (And.intro hl hnm)); have HFL := Lib.hid hfx; have HFF := Lib.hid hFF
  have HPB := Lib.hid (published_any (hm.below hbw))
  clear hnL hL hm hS hz hl hnm hfx hFF hb1 he1 hbp hbw he12
  unfold planCells at hw1 HE1 ⊢
  go_enter Tryz.func6, Tryz.ntmps6
  go_upto_region 1 with fail
  rw [← hw1, HBP.out]
  rw [← hw2]
  clear hw1 hw2
  go_wp2_with fail
  refine HPB.out.mono ?_
  rintro e w3 ⟨rfl, hb3⟩
  have HE3 := Lib.hid ((hb3.block bp (heap_lt HE1.out)).trans HE1.out)
  have HB3 := Lib.hid (HBW.out.trans (hb3.mono HBW.out.size))
  have HL3 := Lib.hid (HL.out.below hb3); have HM3 := Lib.hid (HM.out.below hb3)
  have hnw := new_sm (W := w3) (Below.refl _ _) HM3.out name _ ⟨fs, x0, x1, x2, x3, x4, x5, x6, x7⟩ room size (HS.out.below hb3) HZ.out.1 HZ.out.2.1 HZ.out.2.2
  unfold planCells at hnw
  have HNW := Lib.hid hnw
  clear hb3 hnw HE1 HL HM HPB HBW HS
  obtain ⟨q0, q1, q2, q3, q4, q5, q6, q7, q8, q9, qf⟩ := ten HE3.out
  have hbl := heap_lt HE3.out
  go_wp2_with fail
  refine HNW.out.mono ?_
  rintro e w4 ⟨hb4, hcase⟩
  have HB4 := Lib.hid hb4
  clear hb4 HNW q0 q1 q2 q3 q4 q5 q6 q7 q8 q9 qf hbl
  obtain ⟨pl, hpl⟩ : ∃ pl : Pl, ⟨fs, x0, x1, x2, x3, x4, x5, x6, x7⟩ = pl := ⟨_, rfl⟩
  rw [hpl] at hcase HFF
  have HPL := Lib.hid hpl
  rcases hcase with ⟨h0, rfl⟩ | ⟨h0, F, K, S, rfl, h4, _⟩
  · obtain ⟨er, her⟩ : ∃ er, newErr name.data.toList pl room size = er := ⟨_, rfl⟩
    rw [her] at h0 ⊢
    have h0z : ((er : Int) == 0) = false := by simpa using h0
    have h0y : ((er : Int) != 0) = true := by simpa using h0
    have HF := Lib.hid (low_to HB3.out HB4.out)
    clear her h0 hpl
    go_wp2_with fail
    go_ret
    exact ⟨rfl, HF.out⟩
  · have hpn := plan_nums (newErr_plan h0).1
    have HPN := Lib.hid hpn
    clear hpl hpn h0
    by_cases h60 : 60 < n
    · have h60z : (60 : Int) < n := by omega
      have HF := Lib.hid (low_to HB3.out HB4.out)
      clear h4
      go_wp2_with fail
      go_ret
      exact ⟨rfl, HF.out⟩
    · have h60z : ¬ (60 : Int) < n := by omega
      have h0 := Lib.hid (show LvBounds w3 K room size name pl 0 w4 from ⟨F, S, 0, s0, h4, by show 0 + 0 ≤ 4 * 0; omega, by show 0 ≤ 0; omega, by show (0 : Int) ≤ 0; omega, Bd.nil _⟩)
      clear h4
      go_wp2_with fail
      go_loopw [44] (fun i wr => ∃ k : Nat, k ≤ n ∧ i = .int .i64 k ∧ Hid (LvBounds w3 K room size name pl k wr)) (fun i _ => n - (intOf i).toNat)
      case atStart => exact ⟨0, Nat.zero_le _, rfl, h0⟩
      case round =>
        obtain ⟨k, hk, rfl, HR⟩ := hrel
        clear h0
        by_cases hlt : k < n
        · have hltz : (k : Int) < n := by omega
          obtain ⟨F, S, c, s, h, hc, hi, hla, hbdd⟩ := HR.out
          obtain ⟨t, ht⟩ : ∃ t, l[k]? = some t := ⟨_, List.getElem?_eq_getElem (by rw [HN.out]; exact hlt)⟩
          have hft := HFL.out t (List.mem_of_getElem? ht)
          obtain ⟨tS, tI, tH, tD, tp⟩ := partsP t.x
          have hlr := HL3.out.below h.below
          obtain ⟨g, off, rfl, m0, m1, m2, m3, m4, m5, m6, m7, m8, m9⟩ := hlr.at ht tp
          have hlcap : n ≤ lc ∨ True := .inr trivial
          obtain ⟨tF, htF⟩ : ∃ tF : ByteArray, (⟨t.filt.toArray⟩ : ByteArray) = tF := ⟨_, rfl⟩
          rw [htF] at m9
          obtain ⟨wa, hwa⟩ : ∃ wa, wa = wr.alloc (.cells #[.int .i64 t.kind, .int .i64 t.now, .int .i64 t.n, .string tS, .string tI, .string tH, .string tD, .int .i64 t.x.exp, .int .i64 t.x.roll, .string tF] 114) := ⟨_, rfl⟩
          have hba : Below wr.heap.size wr wa := by rw [hwa]; exact (Below.refl _ _).alloc (Nat.le_refl _) _
          have hea : wa.heap[wr.heap.size]? = some (.cells #[.int .i64 t.kind, .int .i64 t.now, .int .i64 t.n, .string tS, .string tI, .string tH, .string tD, .int .i64 t.x.exp, .int .i64 t.x.roll, .string tF] 114 (0, 0)) := by rw [hwa]; exact heap_alloc_new wr _
          obtain ⟨ba, hbae⟩ : ∃ ba, wr.heap.size = ba := ⟨_, rfl⟩
          rw [hbae] at hea
          obtain ⟨q0, q1, q2, q3, q4, q5, q6, q7, q8, q9, qf⟩ := ten hea
          have hpu := pub_sm (h.low hba) (by omega) HM3.out HFF.out hft HPN.out.1 (by omega) t.now
          rw [tp.v] at hpu
          have HPU := Lib.hid hpu; have HBAE := Lib.hid hbae
          obtain ⟨I, hRt⟩ := h.right
          have HST := Lib.hid (show c + s.v.L.length ≤ 4 * k ∧ s.ids.length ≤ k ∧ s.v.last ≤ k ∧ s.v.L.length ≤ 200 ∧ 0 ≤ s.v.last from ⟨hc, hi, hla, hRt.few, hRt.range.1⟩)
          have HSM := Lib.hid (h.low hba); have HBD := Lib.hid hbdd; have HEA := Lib.hid hea; have HFT := Lib.hid hft; have HTP := Lib.hid tp
          have HNBA := Lib.hid (show ¬ F ba from fun e => by have := h.bF ba e; omega)
          clear h hc hi hla ht hft tp hlr hlcap htF hba hea hbae hpu HR hRt hbdd
          go_upto_region 9 with fail
          rw [← hwa, HBAE.out]
          clear hwa m0 m1 m2 m3 m4 m5 m6 m7 m8 m9
          go_wp2_with fail
          refine (store_sm HSM.out).mono ?_
          rintro e w' ⟨rfl, rfl⟩
          obtain ⟨F2, hst⟩ := HSM.out.st
          have hsu := sums_any hst
          unfold sumsV at hsu
          obtain ⟨la, hlae⟩ : ∃ la, s.v.last = la := ⟨_, rfl⟩
          have HLAE := Lib.hid hlae
          rw [hlae] at hsu
          have HSU := Lib.hid hsu
          have fl := fldS
          clear hst hsu HPU hlae
          go_wp2_with fail
          refine HSU.out.mono ?_
          rintro e w5 ⟨rfl, hb5⟩
          have hea5 := (hb5.block ba (heap_lt HEA.out)).trans HEA.out
          have HNA := Lib.hid (show ¬ F ba from HNBA.out)
          have hpu := pub_sm (HSM.out.low hb5) (by have := HST.out.1; omega) HM3.out HFF.out HFT.out HPN.out.1 (by have := HST.out.2.1; omega) t.now
          rw [HTP.out.v] at hpu
          have HPU := Lib.hid hpu
          have HEA5 := Lib.hid hea5
          clear q0 q1 q2 q3 q4 q5 q6 q7 q8 q9 qf hb5 hpu hea5 HSU
          obtain ⟨q0, q1, q2, q3, q4, q5, q6, q7, q8, q9, qf⟩ := ten HEA5.out
          have hbal := heap_lt HEA5.out
          go_wp2_with fail
          refine HPU.out.mono ?_
          rintro e w6 ⟨rfl, c6, ⟨⟨F6, h6, _⟩, ht6⟩, hc6⟩
          have hmo := pub_more (p := pl) (room := room) (size := size) (now := t.now) (x := t.x) (s := s) HST.out.2.2.2.1 HST.out.2.2.2.2
          have hbd := pub_bounds (p := pl) (room := room) (size := size) (now := t.now) (x := t.x) (s := s) HST.out.2.2.2.1 HBD.out
          have htold := pub_told pl room size t.now t.x s
          rw [HLAE.out] at htold
          have HX := Lib.hid (show LvBounds w3 K room size name pl (k + 1) w6 from ⟨F6, S, c6, _, h6, by have := HST.out.1; omega, by have := HST.out.2.1; omega, by have := HST.out.2.2.1; omega, hbd⟩)
          obtain ⟨R, hRe⟩ : ∃ R, pubP pl room size t.now t.x s = R := ⟨_, rfl⟩
          rw [hRe] at h6 hbd htold ⊢
          obtain ⟨Rs, rn, ra, re⟩ := R
          simp only at h6 hbd htold ⊢
          have hea6 := box_stays ht6 HNA.out HEA5.out
          have HEA6 := Lib.hid hea6
          have HSM6 := Lib.hid h6
          have HSMC := Lib.hid (show 16 * c6 ≤ 80000 from by have := HST.out.1; omega)
          have HTO := Lib.hid htold; have HBD6 := Lib.hid hbd
          obtain ⟨I6, hR6⟩ := h6.right
          have HFEW := Lib.hid hR6.few
          obtain ⟨F7, hst⟩ := h6.st
          have hsu := sums_any hst
          unfold sumsV at hsu
          have HSU := Lib.hid hsu
          have HB6 := Lib.hid h6.below
          obtain ⟨L, hL⟩ : ∃ L, Rs.v.L = L := ⟨_, rfl⟩
          have HLE := Lib.hid hL
          rw [hL] at HSU HBD6 HFEW
          obtain ⟨n1, hn1⟩ : ∃ n1, L.length = n1 := ⟨_, rfl⟩
          obtain ⟨n2, hn2⟩ : ∃ n2, Sto.bytesR L = n2 := ⟨_, rfl⟩
          obtain ⟨fi, hfi⟩ : ∃ fi, (L.head?.map (·.seq)).getD 0 = fi := ⟨_, rfl⟩
          obtain ⟨l6, hl6⟩ : ∃ l6, Rs.v.last = l6 := ⟨_, rfl⟩
          rw [hn1, hn2, hfi, hl6] at HSU
          have HN1 := Lib.hid (And.intro hn1 (And.intro hn2 hl6))
          clear h6 ht6 hc6 hmo hbd htold hRe hea6 hst hsu hL hn1 hn2 hfi hl6 hR6 HPU q0 q1 q2 q3 q4 q5 q6 q7 q8 q9 qf hbal fl
          go_wp2_with fail
          refine (store_sm HSM6.out).mono ?_
          rintro e w' ⟨rfl, rfl⟩
          go_wp2_with fail
          refine HSU.out.mono ?_
          rintro e w7 ⟨rfl, hb7⟩
          obtain ⟨w8, hw8⟩ : ∃ w8, w8 = w7.alloc (.cells #[.int .i64 (n1 : Nat), .int .i64 (n2 : Nat), .int .i64 fi, .int .i64 l6] 116) := ⟨_, rfl⟩
          have hb8 : Below w7.heap.size w7 w8 := by rw [hw8]; exact (Below.refl _ _).alloc (Nat.le_refl _) _
          have he8 : w8.heap[w7.heap.size]? = some (.cells #[.int .i64 (n1 : Nat), .int .i64 (n2 : Nat), .int .i64 fi, .int .i64 l6] 116 (0, 0)) := by rw [hw8]; exact heap_alloc_new w7 _
          obtain ⟨sx, hsx⟩ : ∃ sx, w7.heap.size = sx := ⟨_, rfl⟩
          rw [hsx] at he8
          have HSX := Lib.hid hsx
          have hb68 := hb7.trans (hb8.mono hb7.size)
          have HB68 := Lib.hid hb68
          have HE8 := Lib.hid he8
          obtain ⟨d0, d1, d2, d3, df⟩ := fourS he8
          have hsl := heap_lt he8
          clear hb7 hb8 he8 hsx hb68 HSU
          go_upto_region 12 with fail
          rw [← hw8, HSX.out]
          clear hw8
          by_cases e0 : re = 0
          · subst e0
            have htn : (ra = true ∧ l6 = la ∧ checkP pl t.now t.x = 0) ∨ (ra = false ∧ rn = la + 1 ∧ checkP pl t.now t.x = 0) := by
              rcases HTO.out with ⟨h, _⟩ | ⟨_, h1, h2, h3⟩ | ⟨_, h1, h2, h3⟩
              · exact absurd rfl h
              · exact .inl ⟨h1, by rw [← HN1.out.2.2, h2]; exact HLAE.out, h3⟩
              · exact .inr ⟨h1, h2, h3⟩
            have hck : checkP pl t.now t.x = 0 := by rcases htn with h | h <;> exact h.2.2
            have HSE := Lib.hid (check_facts hck).2.1
            have hwla : IntKind.i64.wrap (la + 1) = la + 1 := IntWalk.i64_in _ (by have := HST.out.2.2.1; have := HST.out.2.2.2.2; have := HLAE.out; omega)
            have HTN := Lib.hid htn
            clear htn hck
            go_upto_region 15 with fail
            go_cut [88] from 72 to 88 (fun c wx => c = .bool false ∧ w8 = wx)
            case first =>
              rcases HTN.out with ⟨rfl, rfl, _⟩ | ⟨rfl, rfl, _⟩
              · have hz : (l6 != l6) = false := by simp
                go_wp2_with fail
                go_meet
                exact ⟨by first | rfl | simp, rfl⟩
              · have hz : (la + 1 != la + 1) = false := by simp
                go_wp2_with fail
                go_meet
                exact ⟨by first | rfl | simp, rfl⟩
            case rest =>
            obtain ⟨rfl, rfl⟩ := hcut
            obtain ⟨m, hm⟩ : ∃ m, Sto.cntR L t.x.subj = m := ⟨_, rfl⟩
            have HMM := Lib.hid hm
            have HST8 := Lib.hid (show ∀ w', Below w8.heap.size w8 w' → Calls Tryz.prog 60 #[.pointer (some ⟨K, 0, none⟩)] w' fun e w'' => e = .returned (.pointer (some ⟨S, 0, none⟩)) ∧ w' = w'' from fun w' hb => store_sm ((HSM6.out.low HB68.out).low hb))
            have HSB8 := Lib.hid (show ∀ w', Below w8.heap.size w8 w' → Calls Tryz.prog 63 #[.pointer (some ⟨S, 0, none⟩), .string tS] w' fun e w'' => ∃ v, e = .returned (.tuple #[v, .int .i64 (0 : Nat)]) ∧ Below w'.heap.size w' w'' ∧ ∃ R : Idx.Ents, R = (if m = 0 then [] else [(t.x.subj, (m : Int))]) ∧ Row w'' 124 2 v R.length (Idx.entV R) from fun w' hb => by
              obtain ⟨F2, hst⟩ := ((HSM6.out.low HB68.out).low hb).st
              obtain ⟨I, hRI, hc2⟩ := Sto.subjects_any hst (by have := HSMC.out; omega) HM3.out tS (by rw [HTP.out.s3]; exact HFT.out.s)
              have het : Subj.err true tS.data.toList = 0 := by rw [HTP.out.s2]; exact Subj.err_wild t.x.subj HSE.out
              refine hc2.mono fun e w'' hp2 => ?_
              obtain ⟨v, h1, h2, R, h3, h4⟩ := Sto.find_row2 hp2
              rw [het] at h1
              refine ⟨v, h1, h2, R, ?_, h4⟩
              rw [h3, if_pos het, HTP.out.s2, find_one hRI.sorted hRI.count HSE.out, HLE.out, hm])
            have hea8 := (HB68.out.block ba (heap_lt HEA6.out)).trans HEA6.out
            have HSS := Lib.hid (show ∀ w', Below w8.heap.size w8 w' → w'.cell? ⟨ba, 3, none⟩ = some (.string tS) from fun w' hb => (ten ((hb.block ba (heap_lt hea8)).trans hea8)).2.2.2.1)
            have hbd : Below w8.heap.size w8 w8.drew := (Below.refl _ _).drew
            clear hm hea8
            go_upto_region 17 with fail
            go_region_held3 (fun w' => w'.cell? ⟨ba, 3, none⟩ = some (.string tS)) (first | (with_reducible exact HSS.out _ (Below.refl _ _)) | (with_reducible exact HSS.out _ hbd) | (with_reducible exact HSS.out _ (by assumption)) | go_keep)
              (first
                | (go_at_call 60; ((refine (HST8.out _ (by first | assumption | exact Below.refl _ _)).mono ?_); rintro e w' ⟨rfl, rfl⟩))
                | (go_at_call 63; ((refine (HSB8.out _ (by first | assumption | exact Below.refl _ _)).mono ?_); rintro e w9 ⟨v9, rfl, hb9, R9, hR9, hr9⟩; have hb9' := low_to (w0 := w8) (by first | assumption | exact Below.refl _ _) hb9; clear hb9)))
            have HX9 := Lib.hid ((HX.out.low HB68.out).low hb9')
            have HBW9 := Lib.hid (low_to (low_to HB6.out HB68.out) hb9')
            have he9 := (hb9'.block sx (heap_lt HE8.out)).trans HE8.out
            have hp9 := (HBW9.out.block bp (heap_lt HE3.out)).trans HE3.out
            have HS9 := Lib.hid (show w9.cell? ⟨bp, 2, none⟩ = some (.int .i64 x0) ∧ w9.cell? ⟨bp, 3, none⟩ = some (.int .i64 x1) ∧ w9.cell? ⟨bp, 5, none⟩ = some (.int .i64 x3) ∧ w9.cell? ⟨sx, 0, none⟩ = some (.int .i64 (n1 : Nat)) ∧ w9.cell? ⟨sx, 1, none⟩ = some (.int .i64 (n2 : Nat)) from by
              obtain ⟨_, _, p2, p3, _, p5, _⟩ := ten hp9
              obtain ⟨d0, d1, _⟩ := fourS he9
              exact ⟨p2, p3, p5, d0, d1⟩)
            have HBB := Lib.hid (show (0 < x0 → (n1 : Int) ≤ x0) ∧ (0 < x1 → (n2 : Int) ≤ x1) ∧ (0 < x3 → (m : Int) ≤ x3) from by
              have e0 : pl.msgs = x0 := by rw [← HPL.out]
              have e1 : pl.bytes = x1 := by rw [← HPL.out]
              have e3 : pl.per = x3 := by rw [← HPL.out]
              have h1 := HBD6.out.msgs
              have h2 := HBD6.out.bytes
              have h3 := HBD6.out.per
              rw [e0, HN1.out.1] at h1
              rw [e1, HN1.out.2.1] at h2
              rw [e3] at h3
              exact ⟨h1, h2, fun e => by have := h3 e t.x.subj; rw [HMM.out] at this; exact this⟩)
            clear hb9' hbd HST8 HSB8 HSS he9 hp9 d0 d1 d2 d3 df hsl
            obtain ⟨a9, n9, rfl⟩ := hr9.slice
            obtain ⟨p2, p3, p5, d0, d1⟩ := HS9.out
            by_cases hm0 : m = 0
            · rw [if_pos hm0] at hR9
              subst hR9
              simp only [List.length_nil]
              clear hr9
              have HM0 := Lib.hid hm0
              clear hm0
              go_upto_region 18 with fail
              go_cut [138] from 98 to 138 (fun c wx => c = .bool false ∧ Hid (∃ q, wx = w9.drewN q))
              case first =>
                by_cases g0 : 0 < x0
                · have g0d : decide (0 < x0) = true := decide_eq_true g0
                  have g0e : decide (x0 < (n1 : Int)) = false := decide_eq_false (by have := HBB.out.1 g0; omega)
                  by_cases g1 : 0 < x1
                  · have g1d : decide (0 < x1) = true := decide_eq_true g1
                    have g1e : decide (x1 < (n2 : Int)) = false := decide_eq_false (by have := HBB.out.2.1 g1; omega)
                    by_cases g2 : 0 < x3
                    · have g2d : decide (0 < x3) = true := decide_eq_true g2
                      go_quiet (fail)
                      go_wp2_with fail
                      go_meet
                      exact ⟨by first | rfl | simp, Lib.hid ⟨_, rfl⟩⟩
                    · have g2d : decide (0 < x3) = false := decide_eq_false g2
                      go_quiet (fail)
                      go_wp2_with fail
                      go_meet
                      exact ⟨by first | rfl | simp, Lib.hid ⟨_, rfl⟩⟩
                  · have g1d : decide (0 < x1) = false := decide_eq_false g1
                    by_cases g2 : 0 < x3
                    · have g2d : decide (0 < x3) = true := decide_eq_true g2
                      go_quiet (fail)
                      go_wp2_with fail
                      go_meet
                      exact ⟨by first | rfl | simp, Lib.hid ⟨_, rfl⟩⟩
                    · have g2d : decide (0 < x3) = false := decide_eq_false g2
                      go_quiet (fail)
                      go_wp2_with fail
                      go_meet
                      exact ⟨by first | rfl | simp, Lib.hid ⟨_, rfl⟩⟩
                · have g0d : decide (0 < x0) = false := decide_eq_false g0
                  by_cases g1 : 0 < x1
                  · have g1d : decide (0 < x1) = true := decide_eq_true g1
                    have g1e : decide (x1 < (n2 : Int)) = false := decide_eq_false (by have := HBB.out.2.1 g1; omega)
                    by_cases g2 : 0 < x3
                    · have g2d : decide (0 < x3) = true := decide_eq_true g2
                      go_quiet (fail)
                      go_wp2_with fail
                      go_meet
                      exact ⟨by first | rfl | simp, Lib.hid ⟨_, rfl⟩⟩
                    · have g2d : decide (0 < x3) = false := decide_eq_false g2
                      go_quiet (fail)
                      go_wp2_with fail
                      go_meet
                      exact ⟨by first | rfl | simp, Lib.hid ⟨_, rfl⟩⟩
                  · have g1d : decide (0 < x1) = false := decide_eq_false g1
                    by_cases g2 : 0 < x3
                    · have g2d : decide (0 < x3) = true := decide_eq_true g2
                      go_quiet (fail)
                      go_wp2_with fail
                      go_meet
                      exact ⟨by first | rfl | simp, Lib.hid ⟨_, rfl⟩⟩
                    · have g2d : decide (0 < x3) = false := decide_eq_false g2
                      go_quiet (fail)
                      go_wp2_with fail
                      go_meet
                      exact ⟨by first | rfl | simp, Lib.hid ⟨_, rfl⟩⟩
              case rest =>
              obtain ⟨rfl, hcq⟩ := hcut
              obtain ⟨qq, rfl⟩ := hcq.out
              have HX10 := Lib.hid (HX9.out.low (below_drewN (Below.refl _ _) qq))
              clear hcq p2 p3 p5 d0 d1
              go_wp2_with fail
              exact ⟨⟨k + 1, by omega, by go_num, HX10⟩, by simp [intOf]; omega⟩
            · rw [if_neg hm0] at hR9
              subst hR9
              simp only [List.length_cons, List.length_nil, Nat.zero_add] at hr9 ⊢
              rcases hr9.2 with ⟨_, h0'⟩ | ⟨gg, of9, cap9, cur, e, _⟩
              · omega
              obtain ⟨rfl, rfl⟩ : a9 = some ⟨gg, of9, none⟩ ∧ n9 = cap9 := by simp at e; exact e
              have hce : w9.cell? ⟨gg, of9 + 1, none⟩ = some (.int .i64 m) := (hr9.cell 1 (by omega)).1
              clear e hr9 hm0
              go_upto_region 18 with fail
              go_cut [138] from 98 to 138 (fun c wx => c = .bool false ∧ Hid (∃ q, wx = w9.drewN q))
              case first =>
                by_cases g0 : 0 < x0
                · have g0d : decide (0 < x0) = true := decide_eq_true g0
                  have g0e : decide (x0 < (n1 : Int)) = false := decide_eq_false (by have := HBB.out.1 g0; omega)
                  by_cases g1 : 0 < x1
                  · have g1d : decide (0 < x1) = true := decide_eq_true g1
                    have g1e : decide (x1 < (n2 : Int)) = false := decide_eq_false (by have := HBB.out.2.1 g1; omega)
                    by_cases g2 : 0 < x3
                    · have g2d : decide (0 < x3) = true := decide_eq_true g2
                      have g2e : decide (x3 < (m : Int)) = false := decide_eq_false (by have := HBB.out.2.2 g2; omega)
                      go_quiet (fail)
                      go_wp2_with fail
                      go_meet
                      exact ⟨by first | rfl | simp, Lib.hid ⟨_, rfl⟩⟩
                    · have g2d : decide (0 < x3) = false := decide_eq_false g2
                      go_quiet (fail)
                      go_wp2_with fail
                      go_meet
                      exact ⟨by first | rfl | simp, Lib.hid ⟨_, rfl⟩⟩
                  · have g1d : decide (0 < x1) = false := decide_eq_false g1
                    by_cases g2 : 0 < x3
                    · have g2d : decide (0 < x3) = true := decide_eq_true g2
                      have g2e : decide (x3 < (m : Int)) = false := decide_eq_false (by have := HBB.out.2.2 g2; omega)
                      go_quiet (fail)
                      go_wp2_with fail
                      go_meet
                      exact ⟨by first | rfl | simp, Lib.hid ⟨_, rfl⟩⟩
                    · have g2d : decide (0 < x3) = false := decide_eq_false g2
                      go_quiet (fail)
                      go_wp2_with fail
                      go_meet
                      exact ⟨by first | rfl | simp, Lib.hid ⟨_, rfl⟩⟩
                · have g0d : decide (0 < x0) = false := decide_eq_false g0
                  by_cases g1 : 0 < x1
                  · have g1d : decide (0 < x1) = true := decide_eq_true g1
                    have g1e : decide (x1 < (n2 : Int)) = false := decide_eq_false (by have := HBB.out.2.1 g1; omega)
                    by_cases g2 : 0 < x3
                    · have g2d : decide (0 < x3) = true := decide_eq_true g2
                      have g2e : decide (x3 < (m : Int)) = false := decide_eq_false (by have := HBB.out.2.2 g2; omega)
                      go_quiet (fail)
                      go_wp2_with fail
                      go_meet
                      exact ⟨by first | rfl | simp, Lib.hid ⟨_, rfl⟩⟩
                    · have g2d : decide (0 < x3) = false := decide_eq_false g2
                      go_quiet (fail)
                      go_wp2_with fail
                      go_meet
                      exact ⟨by first | rfl | simp, Lib.hid ⟨_, rfl⟩⟩
                  · have g1d : decide (0 < x1) = false := decide_eq_false g1
                    by_cases g2 : 0 < x3
                    · have g2d : decide (0 < x3) = true := decide_eq_true g2
                      have g2e : decide (x3 < (m : Int)) = false := decide_eq_false (by have := HBB.out.2.2 g2; omega)
                      go_quiet (fail)
                      go_wp2_with fail
                      go_meet
                      exact ⟨by first | rfl | simp, Lib.hid ⟨_, rfl⟩⟩
                    · have g2d : decide (0 < x3) = false := decide_eq_false g2
                      go_quiet (fail)
                      go_wp2_with fail
                      go_meet
                      exact ⟨by first | rfl | simp, Lib.hid ⟨_, rfl⟩⟩
              case rest =>
              obtain ⟨rfl, hcq⟩ := hcut
              obtain ⟨qq, rfl⟩ := hcq.out
              have HX10 := Lib.hid (HX9.out.low (below_drewN (Below.refl _ _) qq))
              clear hcq p2 p3 p5 d0 d1
              go_wp2_with fail
              exact ⟨⟨k + 1, by omega, by go_num, HX10⟩, by simp [intOf]; omega⟩
          · have e0z : ((re : Int) == 0) = false := by simpa using e0
            have hto := HTO.out.resolve_right (fun h => by rcases h with ⟨h, _⟩ | ⟨h, _⟩ <;> exact e0 h)
            obtain ⟨_, rfl, rfl⟩ := hto
            have HX8 := Lib.hid (HX.out.low HB68.out)
            clear e0
            go_wp2_with fail
            exact ⟨⟨k + 1, by omega, by go_num, HX8⟩, by simp [intOf]; omega⟩
        · have hltz : ¬ (k : Int) < n := by omega
          obtain rfl : k = n := by omega
          have HF := Lib.hid (low_to HB3.out HR.out.below)
          clear HR
          go_wp2_with fail
          go_ret
          exact ⟨rfl, HF.out⟩
end
end Go.Proofs.YtbgchhgdlceceaaGreatDoor.Strm

namespace Go.Proofs.YtbgchhgdlceceaaGreatDoor.Strm
open Go.RowKit Go.ChangeMaps Go.ChangeAt
open Subj (ML open_plan PlanArg)

set_option maxRecDepth 100000 in
open Go.WideShapes Go.ChangeShapes in
theorem streamBounds_calls {H : Type} (enc : TypeId × Value → H) (W : World) (base : Nat) (v0 v1 v2 v3 : Value) (d0 d1 d2 d3 : DataW H) (p0 p1 p2 p3 : List MemPlace)
    (h0 : DataW.Trod enc Tryz.prog W 0 (fun _ => true) true 62 v0 d0 p0) (h1 : DataW.Trod enc Tryz.prog W 0 (fun _ => true) true 3 v1 d1 p1) (h2 : DataW.Trod enc Tryz.prog W 0 (fun _ => true) true 3 v2 d2 p2) (h3 : DataW.Trod enc Tryz.prog W 0 (fun _ => true) true 109 v3 d3 p3)
    (o0 : Value.okWide Tryz.prog W .any base 62 v0) (o1 : Value.okWide Tryz.prog W .any base 3 v1) (o2 : Value.okWide Tryz.prog W .any base 3 v2) (o3 : Value.okWide Tryz.prog W .any base 109 v3)
    (hk : Rows.uptoSmall H ([d0, d1, d2, d3] ++ []) = true) (hM : ML W) :
    Calls Tryz.prog 6 #[v0, v1, v2, v3] W fun e w' => e = .returned (.bool true) ∧ Below W.heap.size W w' := by
  have hb0 : Rows.uptoBulk d0 ≤ 1048576 := by
    have h1 := bulk_bound hk
    have h2 := bulk_part (d := d0) (l := [d0, d1, d2, d3] ++ []) (by simp)
    omega
  have hb3 : Rows.uptoBulk d3 ≤ 1048576 := by
    have h1 := bulk_bound hk
    have h2 := bulk_part (d := d3) (l := [d0, d1, d2, d3] ++ []) (by simp)
    omega
  obtain ⟨name, ao, n, cap, fs, x0, x1, x2, x3, x4, x5, x6, x7, rfl, hfn, hS, hz, hn, hnm⟩ := open_plan h0 o0 hb0
  subst hfn
  obtain ⟨n1, rfl, _, _, wf1⟩ := open_int Tryz.underlying3 o1 h1
  obtain ⟨n2, rfl, _, _, wf2⟩ := open_int Tryz.underlying3 o2 h2
  obtain ⟨a3, m3, c3, rfl⟩ := okWide_slice Tryz.underlying109 o3
  obtain ⟨fuel, hf⟩ := h3
  obtain ⟨a', m', c', l, hcs, hl, hft⟩ := open_steps hf hb3
  simp [Value.cells] at hcs
  obtain ⟨rfl, rfl, rfl⟩ := hcs
  exact streamBounds_walk hM name _ ⟨fs, x0, x1, x2, x3, x4, x5, x6, x7⟩ hS hz hn hnm hl (fun t ht => (hft t ht).1) n1 n2
end Go.Proofs.YtbgchhgdlceceaaGreatDoor.Strm
