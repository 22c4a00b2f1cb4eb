/- Parts of the proof, joined: The law StreamTwice, walked: it returns true.; StreamTwice, from what it is handed. -/
import Derived.Test.YtbgchhgdlceceaaGreatDoorStrmBaseM35
import Derived.BigQuiet
import Derived.Deep.QuietTactic
import Derived.OpenShut
import Derived.ChangeMaps5
namespace Go.Proofs.YtbgchhgdlceceaaGreatDoor.Strm
open Go.RowKit Heap
open Subj (Tok ML Strs Small planErr planCells ten)
open Vlt (low_to)
open Rec (Rc far)
open Sto (Right sixC recsV RecsAt row_recs equal_recs all_any)

section
variable {w : World}

theorem pub_out {p : Pl} {room size now : Int} {x : Po} {s : Sm} (h : now < 0 ∨ far < now) : pubP p room size now x s = (s, ⟨0, false, 1⟩) := by
  have := check_out (p := p) (x := x) h
  unfold pubP
  rw [this, if_pos (by decide)]

set_option maxHeartbeats 8000000 in
set_option maxRecDepth 100000 in
theorem streamTwice_walk (hm : ML w) (name : ByteArray) (v : Value) (p : Pl) (hS : Strs w v p.fs) (hz : Small p.fs) (hl : p.fs.length ≤ 1048576) (hnm : name.size ≤ 1048576) (x : Po) (hx : FitsP x) (now later : Int) (hlt : -9223372036854775808 ≤ later ∧ later ≤ 9223372036854775807) :
    Calls Tryz.prog 8 #[.agg (planCells name v p.msgs p.bytes p.age p.per p.size p.disc p.keep p.win), .int .i64 now, .int .i64 later, postV x] w fun e w' => e = .returned (.bool true) ∧ Below w.heap.size w w' := by
  have hfar : far = 1099511627776 := rfl
  have hFF := fitsF_of hz hl
  obtain ⟨fs, x0, x1, x2, x3, x4, x5, x6, x7⟩ := p
  simp only at hS hz hl hFF ⊢
  obtain ⟨fo, fc, rfl⟩ : ∃ fo fc, v = .slice fo fs.length fc := by
    obtain ⟨a, c, e, _⟩ := hS
    exact ⟨a, c, e⟩
  obtain ⟨w1, hw1⟩ : ∃ w1, w1 = w.alloc (.cells (planCells name (.slice fo fs.length fc) x0 x1 x2 x3 x4 x5 x6 x7) 62) := ⟨_, rfl⟩
  have hb1 : Below w.heap.size w w1 := by rw [hw1]; exact (Below.refl _ _).alloc (Nat.le_refl _) _
  have he1 : w1.heap[w.heap.size]? = some (.cells (planCells name (.slice fo fs.length fc) x0 x1 x2 x3 x4 x5 x6 x7) 62 (0, 0)) := by rw [hw1]; exact heap_alloc_new w _
  obtain ⟨bp, hbp⟩ : ∃ bp, w.heap.size = bp := ⟨_, rfl⟩
  rw [hbp] at he1
  obtain ⟨sb, ib, hb, db, hp⟩ := partsP x
  rw [hp.v]
  obtain ⟨w2, hw2⟩ : ∃ w2, w2 = w1.alloc (.cells #[.string sb, .string ib, .string hb, .string db, .int .i64 x.exp, .int .i64 x.roll] 112) := ⟨_, rfl⟩
  have hb2 : Below w1.heap.size w1 w2 := by rw [hw2]; exact (Below.refl _ _).alloc (Nat.le_refl _) _
  have he2 : w2.heap[w1.heap.size]? = some (.cells #[.string sb, .string ib, .string hb, .string db, .int .i64 x.exp, .int .i64 x.roll] 112 (0, 0)) := by rw [hw2]; exact heap_alloc_new w1 _
  have hs1 : w1.heap.size = bp + 1 := by rw [hw1, ← hbp]; simp
  obtain ⟨bx, hbx⟩ : ∃ bx, w1.heap.size = bx := ⟨_, rfl⟩
  rw [hbx] at he2
  have he12 := (hb2.block bp (heap_lt he1)).trans he1
  have hbw := hb1.trans (hb2.mono hb1.size)
  have HBX := Lib.hid (show bp + 1 = bx by omega)
  have HPX := Lib.hid hp; have HFX := Lib.hid hx; have HE2 := Lib.hid he2
  have HBP := Lib.hid hbp; have HBW := Lib.hid hbw; have HE1 := Lib.hid he12; have HS := Lib.hid (hS.below hbw); have HM := Lib.hid (hm.below hbw); have HZ := Lib.hid (And.intro hz (And.intro hl hnm)); have HFF := Lib.hid hFF
  have HPB := Lib.hid (published_any (hm.below hbw))
  have HLT := Lib.hid hlt
  clear hm hS hz hl hnm hFF hb1 he1 hbp hbw he12 hb2 he2 hbx hs1 hp hx hlt
  unfold planCells at hw1 HE1 ⊢
  go_enter Tryz.func8, Tryz.ntmps8
  go_upto_region 1 with fail
  rw [← hw1, HBP.out]
  rw [← hw2, HBX.out]
  clear hw1 hw2
  go_wp2_with fail
  refine HPB.out.mono ?_
  rintro e w3 ⟨rfl, hb3⟩
  have HE3 := Lib.hid ((hb3.block bp (heap_lt HE1.out)).trans HE1.out)
  have HB3 := Lib.hid (HBW.out.trans (hb3.mono HBW.out.size))
  have HM3 := Lib.hid (HM.out.below hb3)
  have hnw := new_sm (W := w3) (Below.refl _ _) HM3.out name _ ⟨fs, x0, x1, x2, x3, x4, x5, x6, x7⟩ 65536 4096 (HS.out.below hb3) HZ.out.1 HZ.out.2.1 HZ.out.2.2
  unfold planCells at hnw
  have HNW := Lib.hid hnw
  have HE4 := Lib.hid ((hb3.block bx (heap_lt HE2.out)).trans HE2.out)
  clear hb3 hnw HE1 HM HPB HBW HS HE2
  obtain ⟨q0, q1, q2, q3, q4, q5, q6, q7, q8, q9, qf⟩ := ten HE3.out
  have hbl := heap_lt HE3.out
  go_wp2_with fail
  refine HNW.out.mono ?_
  rintro e w4 ⟨hb4, hcase⟩
  have HB4 := Lib.hid hb4
  clear hb4 HNW q0 q1 q2 q3 q4 q5 q6 q7 q8 q9 qf hbl
  obtain ⟨pl, hpl⟩ : ∃ pl : Pl, ⟨fs, x0, x1, x2, x3, x4, x5, x6, x7⟩ = pl := ⟨_, rfl⟩
  rw [hpl] at hcase HFF
  have HPL := Lib.hid hpl
  rcases hcase with ⟨h0, rfl⟩ | ⟨h0, F, K, S, rfl, h4, _⟩
  · obtain ⟨er, her⟩ : ∃ er, newErr name.data.toList pl 65536 4096 = er := ⟨_, rfl⟩
    rw [her] at h0 ⊢
    have h0z : ((er : Int) == 0) = false := by simpa using h0
    have h0y : ((er : Int) != 0) = true := by simpa using h0
    have HF := Lib.hid (low_to HB3.out HB4.out)
    clear her h0 hpl
    go_wp2_with fail
    go_ret
    exact ⟨rfl, HF.out⟩
  · have hpn := plan_nums (newErr_plan h0).1
    have HPN := Lib.hid hpn
    have hpu := pub_sm h4 (by show 16 * (0 + 0 + 4) ≤ 60000; omega) HM3.out HFF.out HFX.out HPN.out.1 (by show 0 ≤ 1000; omega) now
    rw [HPX.out.v] at hpu
    have HPU := Lib.hid hpu
    have hE4 := (HB4.out.block bx (heap_lt HE4.out)).trans HE4.out
    obtain ⟨q0, q1, q2, q3, q4, q5⟩ := sixC hE4
    have hbl := heap_lt hE4
    clear hpl hpn h0 h4 hpu hE4
    go_wp2_with fail
    refine HPU.out.mono ?_
    rintro e w5 ⟨rfl, c5, ⟨⟨F5, h5, _⟩, _⟩, hc5⟩
    have htold := pub_told pl 65536 4096 now x s0
    have hfirst := fun h0 => pub_first (p := pl) (room := 65536) (size := 4096) (now := now) (x := x) h0
    obtain ⟨R, hRe⟩ : ∃ R, pubP pl 65536 4096 now x s0 = R := ⟨_, rfl⟩
    rw [hRe] at h5 htold hfirst hc5 ⊢
    obtain ⟨u, rn, ra, re⟩ := R
    simp only at h5 htold hfirst hc5 ⊢
    have HEND := Lib.hid (low_to HB3.out h5.below)
    by_cases e0 : re = 0
    · subst e0
      obtain ⟨rfl, rfl, hids, hlast, hck⟩ := hfirst rfl
      have HU := Lib.hid (And.intro hids (And.intro hlast hck))
      have H5 := Lib.hid h5
      have HC5 := Lib.hid (show c5 + u.v.L.length ≤ 4 from hc5)
      have HSTO := Lib.hid (store_sm h5)
      obtain ⟨F2, hst⟩ := h5.st
      have HALL := Lib.hid (all_any hst)
      obtain ⟨I5, hR5⟩ := h5.right
      have HFEW := Lib.hid hR5.few
      clear h5 htold hc5 hRe hids hlast hck hst hR5 HPU q0 q1 q2 q3 q4 q5 hbl
      go_wp2_with fail
      refine HSTO.out.mono ?_
      rintro e w' ⟨rfl, rfl⟩
      go_wp2_with fail
      refine HALL.out.mono ?_
      rintro e w6 ⟨v6, rfl, hr6, hb6, ho6⟩
      have HR6 := Lib.hid (And.intro hr6 ho6)
      have hids2 : u.ids.length ≤ 1 := by
        rw [HU.out.1]; unfold idsP
        split
        · exact Nat.zero_le _
        · exact Nat.le_refl _
      have hpu := pub_sm (H5.out.low hb6) (by have := HC5.out; omega) HM3.out HFF.out HFX.out HPN.out.1 (by omega) later
      rw [HPX.out.v] at hpu
      have HPU := Lib.hid hpu
      have hB36 := low_to H5.out.below hb6
      have hE4 := (hB36.block bx (heap_lt HE4.out)).trans HE4.out
      obtain ⟨q0, q1, q2, q3, q4, q5⟩ := sixC hE4
      have hbl := heap_lt hE4
      have HNF := Lib.hid (show ∀ j, own v6 j → ¬ F5 j from fun j hj e => by
        have := ho6 j hj; have := H5.out.bF j e; omega)
      obtain ⟨a6, n6, rfl⟩ := hr6.slice
      clear hr6 hb6 ho6 hids2 hpu hB36 hE4 HSTO HALL
      go_wp2_with fail
      refine HPU.out.mono ?_
      rintro e w7 ⟨rfl, c7, ⟨⟨F7, h7, _⟩, ht7⟩, hc7⟩
      have HEND := Lib.hid (low_to HB3.out h7.below)
      have hE4 := (h7.below.block bx (heap_lt HE4.out)).trans HE4.out
      have hE3 := (h7.below.block bp (heap_lt HE3.out)).trans HE3.out
      have HROW := Lib.hid (show Row w7 33 6 (.slice a6 u.v.L.length n6) u.v.L.length (recsV u.v.L) from HR6.out.1.kept fun j hj hlt => ht7.block j hlt (HNF.out j hj))
      have HST7 := Lib.hid (store_sm h7)
      obtain ⟨F8, hst⟩ := h7.st
      have HAL7 := Lib.hid (all_any hst)
      clear q0 q1 q2 q3 q4 q5 hbl ht7 hc7 hst HPU h7
      obtain ⟨q0, q1, q2, q3, q4, q5⟩ := sixC hE4
      obtain ⟨p0, p1, p2, p3, p4, p5, p6, p7, p8, p9, pf⟩ := ten hE3
      have hbl := heap_lt hE4
      have hbl3 := heap_lt hE3
      clear hE4 hE3
      by_cases hlo : later < 0 ∨ 1099511627776 < later
      · have hR2 := pub_out (p := pl) (room := 65536) (size := 4096) (x := x) (s := u) hlo
        rw [hR2]
        clear hR2
        simp only
        by_cases hl1 : later < 0
        · clear hlo
          go_wp2_with fail
          go_ret
          exact ⟨rfl, HEND.out⟩
        · have hl2 : 1099511627776 < later := by omega
          clear hlo
          go_wp2_with fail
          go_ret
          exact ⟨rfl, HEND.out⟩
      · have hl1 : ¬ later < 0 := by omega
        have hl2 : ¬ 1099511627776 < later := by omega
        have hwin : pl.win = x7 := by rw [← HPL.out]
        obtain ⟨hsA, hsB⟩ := pub_second (p := pl) (room := 65536) (size := 4096) (later := later) HPN.out.1.1 HU.out.1 HU.out.2.1 HU.out.2.2 ⟨by omega, by rw [hfar]; omega⟩
        rw [hwin] at hsA hsB
        have hw7 := HPN.out.1
        rw [hwin] at hw7
        have hwl : IntKind.i64.wrap (later - x7) = later - x7 := IntWalk.i64_in _ (by omega)
        have HSA := Lib.hid hsA; have HSB := Lib.hid hsB
        obtain ⟨R2, hR2⟩ : ∃ R2, pubP pl 65536 4096 later x u = R2 := ⟨_, rfl⟩
        rw [hR2] at HSA HSB HAL7 ⊢
        obtain ⟨u2, n2, ag2, er2⟩ := R2
        simp only at HSA HSB HAL7 ⊢
        clear hsA hsB hwin hw7 hR2 hlo
        by_cases hid : x.id = []
        · have hT0 : ib.toList = [] := by rw [ByteArray.toList_eq, HPX.out.i2]; exact hid
          have hT : (!ib.toList.isEmpty) = false := by rw [hT0]; rfl
          have hB := HSB.out (fun h => h.1 hid)
          obtain ⟨hag, hor⟩ := hB
          subst hag
          clear hT0 hid
          go_upto_region 13 with fail
          go_cut [77] from 62 to 77 (fun c wx => c = .bool false ∧ w7 = wx)
          case first =>
            go_wp2_with fail
            go_meet
            exact ⟨by first | rfl | simp_all, rfl⟩
          case rest =>
          obtain ⟨rfl, rfl⟩ := hcut
          by_cases he2 : er2 = 0
          · subst he2
            obtain rfl : n2 = 2 := hor.resolve_left (fun h => h rfl)
            clear hor
            go_wp2_with fail
            go_ret
            exact ⟨by first | rfl | simp, HEND.out⟩
          · have he2z : ((er2 : Int) == 0) = false := by simpa using he2
            have he2y : ((er2 : Int) != 0) = true := by simpa using he2
            clear hor he2
            go_wp2_with fail
            go_ret
            exact ⟨by first | rfl | simp, HEND.out⟩
        · have hT1 : ¬ ib.toList = [] := by rw [ByteArray.toList_eq, HPX.out.i2]; exact hid
          have hT : (!ib.toList.isEmpty) = true := by simpa using hT1
          by_cases hw0 : 0 < x7
          · by_cases hnw : later - x7 ≤ now
            · obtain ⟨hA1, hA2⟩ := HSA.out ⟨hid, hw0, hnw⟩
              subst hA2
              simp only [An.mk.injEq] at hA1
              obtain ⟨rfl, rfl, rfl⟩ := hA1
              clear hid hT1
              go_upto_region 13 with fail
              go_cut [77] from 62 to 77 (fun c wx => c = .bool true ∧ w7 = wx)
              case first =>
                go_wp2_with fail
                go_meet
                exact ⟨by first | rfl | simp_all, rfl⟩
              case rest =>
              obtain ⟨rfl, rfl⟩ := hcut
              clear hw0 hnw
              go_wp2_with fail
              refine HST7.out.mono ?_
              rintro e w' ⟨rfl, rfl⟩
              go_wp2_with fail
              refine HAL7.out.mono ?_
              rintro e w8 ⟨v8, rfl, hr8, hb8, _⟩
              have HEQ := Lib.hid (equal_recs (row_recs hr8) (row_recs (HROW.out.kept fun j _ hlt => hb8.block j hlt)) (by have := HFEW.out; omega))
              have HE8 := Lib.hid (low_to HEND.out hb8)
              clear hr8 hb8
              go_wp2_with fail
              refine HEQ.out.mono ?_
              rintro e w9 ⟨rfl, q, rfl⟩
              go_wp2_with fail
              go_ret
              exact ⟨rfl, below_drewN HE8.out q⟩
            · have hB := HSB.out (fun h => hnw h.2.2)
              obtain ⟨hag, hor⟩ := hB
              subst hag
              clear hid hT1
              go_upto_region 13 with fail
              go_cut [77] from 62 to 77 (fun c wx => c = .bool false ∧ w7 = wx)
              case first =>
                go_wp2_with fail
                go_meet
                exact ⟨by first | rfl | simp_all, rfl⟩
              case rest =>
              obtain ⟨rfl, rfl⟩ := hcut
              by_cases he2 : er2 = 0
              · subst he2
                obtain rfl : n2 = 2 := hor.resolve_left (fun h => h rfl)
                clear hor
                go_wp2_with fail
                go_ret
                exact ⟨by first | rfl | simp, HEND.out⟩
              · have he2z : ((er2 : Int) == 0) = false := by simpa using he2
                have he2y : ((er2 : Int) != 0) = true := by simpa using he2
                clear hor he2
                go_wp2_with fail
                go_ret
                exact ⟨by first | rfl | simp, HEND.out⟩
          · have hB := HSB.out (fun h => hw0 h.2.1)
            obtain ⟨hag, hor⟩ := hB
            subst hag
            clear hid hT1
            go_upto_region 13 with fail
            go_cut [77] from 62 to 77 (fun c wx => c = .bool false ∧ w7 = wx)
            case first =>
              go_wp2_with fail
              go_meet
              exact ⟨by first | rfl | simp_all, rfl⟩
            case rest =>
            obtain ⟨rfl, rfl⟩ := hcut
            by_cases he2 : er2 = 0
            · subst he2
              obtain rfl : n2 = 2 := hor.resolve_left (fun h => h rfl)
              clear hor
              go_wp2_with fail
              go_ret
              exact ⟨by first | rfl | simp, HEND.out⟩
            · have he2z : ((er2 : Int) == 0) = false := by simpa using he2
              have he2y : ((er2 : Int) != 0) = true := by simpa using he2
              clear hor he2
              go_wp2_with fail
              go_ret
              exact ⟨by first | rfl | simp, HEND.out⟩
    · have hto := htold.resolve_right (fun h => by rcases h with ⟨h, _⟩ | ⟨h, _⟩ <;> exact e0 h)
      obtain ⟨_, rfl, rfl⟩ := hto
      have e0z : ((re : Int) == 0) = false := by simpa using e0
      have e0y : ((re : Int) != 0) = true := by simpa using e0
      clear e0 htold hfirst h5 hc5 hRe
      go_wp2_with fail
      go_ret
      exact ⟨rfl, HEND.out⟩
end
end Go.Proofs.YtbgchhgdlceceaaGreatDoor.Strm

namespace Go.Proofs.YtbgchhgdlceceaaGreatDoor.Strm
open Go.RowKit Go.ChangeMaps Go.ChangeAt
open Subj (ML open_plan PlanArg)

theorem wf_intS {n : Int} (h : (Lit.int .i64 n).wf = true) : -9223372036854775808 ≤ n ∧ n ≤ 9223372036854775807 := by
  simp [Lit.wf] at h
  first | omega | exact h

set_option maxRecDepth 100000 in
open Go.WideShapes Go.ChangeShapes in
theorem streamTwice_calls {H : Type} (enc : TypeId × Value → H) (W : World) (base : Nat) (v0 v1 v2 v3 : Value) (d0 d1 d2 d3 : DataW H) (p0 p1 p2 p3 : List MemPlace)
    (h0 : DataW.Trod enc Tryz.prog W 0 (fun _ => true) true 62 v0 d0 p0) (h1 : DataW.Trod enc Tryz.prog W 0 (fun _ => true) true 3 v1 d1 p1) (h2 : DataW.Trod enc Tryz.prog W 0 (fun _ => true) true 3 v2 d2 p2) (h3 : DataW.Trod enc Tryz.prog W 0 (fun _ => true) true 112 v3 d3 p3)
    (o0 : Value.okWide Tryz.prog W .any base 62 v0) (o1 : Value.okWide Tryz.prog W .any base 3 v1) (o2 : Value.okWide Tryz.prog W .any base 3 v2) (o3 : Value.okWide Tryz.prog W .any base 112 v3)
    (hk : Rows.uptoSmall H ([d0, d1, d2, d3] ++ []) = true) (hM : ML W) :
    Calls Tryz.prog 8 #[v0, v1, v2, v3] W fun e w' => e = .returned (.bool true) ∧ Below W.heap.size W w' := by
  have hb0 : Rows.uptoBulk d0 ≤ 1048576 := by
    have h1 := bulk_bound hk
    have h2 := bulk_part (d := d0) (l := [d0, d1, d2, d3] ++ []) (by simp)
    omega
  have hb3 : Rows.uptoBulk d3 ≤ 1048576 := by
    have h1 := bulk_bound hk
    have h2 := bulk_part (d := d3) (l := [d0, d1, d2, d3] ++ []) (by simp)
    omega
  obtain ⟨name, ao, n, cap, fs, x0, x1, x2, x3, x4, x5, x6, x7, rfl, hfn, hS, hz, hn, hnm⟩ := open_plan h0 o0 hb0
  subst hfn
  obtain ⟨n1, rfl, _, _, wf1⟩ := open_int Tryz.underlying3 o1 h1
  obtain ⟨n2, rfl, _, _, wf2⟩ := open_int Tryz.underlying3 o2 h2
  obtain ⟨x, rfl, hx⟩ := open_post h3 o3 hb3
  exact streamTwice_walk hM name _ ⟨fs, x0, x1, x2, x3, x4, x5, x6, x7⟩ hS hz hn hnm x hx n1 n2 (wf_intS wf2)
end Go.Proofs.YtbgchhgdlceceaaGreatDoor.Strm
