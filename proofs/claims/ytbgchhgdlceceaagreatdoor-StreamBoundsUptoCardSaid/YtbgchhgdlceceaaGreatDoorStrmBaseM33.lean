/- Parts of the proof, joined: (*Stream).Publish, walked.; (*Stream).Store, Crash, walked; what a post does to the ids and the last number. -/
import Derived.Test.YtbgchhgdlceceaaGreatDoorStrmBaseM32
namespace Go.Proofs.YtbgchhgdlceceaaGreatDoor.Strm
open Go.RowKit Heap
open Subj (Tok ML err err_wild)
open Vlt (Vt doV do_any store_vlt sums_vlt low_to Whole)
open Sto (sixC Right recV sumsV)
open Rec (Rc far)

/-- What Publish leaves. -/
def PubPost (W : World) (F : Nat → Prop) (K S N : Nat) (room size : Int) (name : ByteArray) (p : Pl) (w : World) (o : Sm × An) (e : Ending) (w' : World) : Prop :=
  e = .returned (.tuple #[.int .i64 o.2.n, .bool o.2.again, .int .i64 (o.2.er : Nat)]) ∧ ∃ c, NextSm W F K S c room size name p w o.1 w' ∧ c + o.1.v.L.length ≤ N

theorem info_kn : (Tryz.prog.info? 212).map (fun i => (i.zero, i.size, i.bytes)) = some (some (.agg #[.string ⟨#[]⟩, .int .i64 0, .int .i64 0]), 3, 32) := by kernel_rfl

theorem news_kn (w : World) (i : ByteArray) (now q : Int) (t : TypeId) : ∀ j u, ([.string i, .int .i64 now, .int .i64 q] : List Value)[j]? = some u → (w.alloc (.cells #[.string i, .int .i64 now, .int .i64 q] t)).cell? ((⟨w.heap.size, 0, none⟩ : Addr).add j) = some u := fun j u hj => by
  rw [show (⟨w.heap.size, 0, none⟩ : Addr).add j = ⟨w.heap.size, 0 + j, none⟩ by unfold Addr.add; split <;> simp_all, cell_of_row _ _ _ _ _ _ (heap_alloc_new w _), Nat.zero_add]
  simpa using hj

theorem fldS : ∀ (w : World) (a0 a1 a2 a3 : Value), (Instr.field 116 (.agg #[a0, a1, a2, a3]) 3).run Tryz.prog w = .ok a3 w := fun _ _ _ _ _ => by kernel_rfl

section
variable {W w : World} {F : Nat → Prop} {K S c : Nat} {room size : Int} {name : ByteArray} {p : Pl} {s : Sm} {x : Po}

/-- A box of another one's stays. -/
theorem box_stays {F : Nat → Prop} {w w' : World} {bx : Nat} {o : Obj} (ht : Heap.Touch F w w') (hn : ¬ F bx) (h : w.heap[bx]? = some o) : w'.heap[bx]? = some o := (ht.block bx (heap_lt h) hn).trans h

theorem do_len {r : Rc} {v : Vt} : (doV room size v r).1.L.length ≤ v.L.length + 1 := by
  rcases do_cases (room := room) (size := size) (s := v) (r := r) with ⟨_, e, _⟩ | ⟨_, _, e, _⟩
  · rw [e]; omega
  · rw [e]
    by_cases h : r.kind = 1
    · unfold Sto.leftS; rw [if_pos h, List.length_append]; simp
    · have := (leftS_kind (L := v.L) h).length_le; omega

set_option maxHeartbeats 16000000 in
set_option maxRecDepth 100000 in
theorem pub_sm (h : SmAt W F K S c room size name p s w) (hc : 16 * (c + s.v.L.length + 4) ≤ 60000) (hm : ML W) (hF : FitsF p) (hx : FitsP x) (hw : 0 ≤ p.win ∧ p.win ≤ 100000) (hids : s.ids.length ≤ 1000) (now : Int) :
    Calls Tryz.prog 62 #[.pointer (some ⟨K, 0, none⟩), .int .i64 now, postV x] w (PubPost W F K S (c + s.v.L.length + 4) room size name p w (pubP p room size now x s)) := by
  have hfar : far = 1099511627776 := rfl
  obtain ⟨I, hR⟩ := h.right
  have hlr := hR.range
  have hfew := hR.few
  obtain ⟨sb, ib, hb, db, hp⟩ := partsP x
  obtain ⟨w1, hw1⟩ : ∃ w1, w1 = w.alloc (.cells #[.string sb, .string ib, .string hb, .string db, .int .i64 x.exp, .int .i64 x.roll] 112) := ⟨_, rfl⟩
  have hb1 : Below w.heap.size w w1 := by rw [hw1]; exact (Below.refl _ _).alloc (Nat.le_refl _) _
  have he1 : w1.heap[w.heap.size]? = some (.cells #[.string sb, .string ib, .string hb, .string db, .int .i64 x.exp, .int .i64 x.roll] 112 (0, 0)) := by rw [hw1]; exact heap_alloc_new w _
  obtain ⟨bx, hbx⟩ : ∃ bx, w.heap.size = bx := ⟨_, rfl⟩
  have hnb : ¬ F bx := fun e => by have := h.bF bx e; omega
  rw [hbx] at he1
  have h1 := h.low hb1
  have hck := check_sm h1 hm hF hx now
  have hkn := fun w' (hb : Below w1.heap.size w1 w') (hn : 0 ≤ now ∧ now ≤ far) => known_sm (h1.low hb) now hn hw hids ib
  have hro := fun w' (hb : Below w1.heap.size w1 w') (he : err false x.subj = 0) => room_sm (h1.low hb) (by omega) hm hx now he
  have hchk := fun h0 => check_facts (p := p) (now := now) (x := x) h0
  rw [hp.i2] at hkn
  rw [hp.v] at hck hro ⊢
  obtain ⟨ck, hcke⟩ : ∃ ck, checkP p now x = ck := ⟨_, rfl⟩
  obtain ⟨kn, hkne⟩ : ∃ kn, knownP p s.ids now x.id = kn := ⟨_, rfl⟩
  obtain ⟨rm, hrme⟩ : ∃ rm, roomP p room size now x s.v = rm := ⟨_, rfl⟩
  obtain ⟨xe, hxe⟩ : ∃ xe, x.exp = xe := ⟨_, rfl⟩
  obtain ⟨xr, hxr⟩ : ∃ xr, x.roll = xr := ⟨_, rfl⟩
  obtain ⟨la, hla⟩ : ∃ la, s.v.last = la := ⟨_, rfl⟩
  obtain ⟨R, hRe⟩ : ∃ R, pubP p room size now x s = R := ⟨_, rfl⟩
  have HR := Lib.hid (show R = if ck ≠ 0 then (s, ⟨0, false, ck⟩) else if 0 < kn then (s, ⟨kn, true, 0⟩) else if 0 ≤ xe ∧ xe ≠ la then (s, ⟨0, false, 9⟩)
      else if rm.2 ≠ 0 then (⟨rm.1, s.ids⟩, ⟨0, false, rm.2⟩) else writeP room size now (la + 1) x ⟨rm.1, s.ids⟩ from by rw [← hRe, ← hcke, ← hkne, ← hrme, ← hxe, ← hla]; rfl)
  rw [hRe]
  rw [hcke] at hck hchk
  rw [hkne] at hkn
  rw [hrme] at hro
  rw [hxe, hxr] at hck hro he1 hw1
  rw [hxe, hxr]
  rw [hla] at hlr
  have HLA := Lib.hid hla
  have HBC := Lib.hid (show ∀ w' F' c' s', Heap.Touch F w1 w' → SmAt W F' K S c' room size name p s' w' → w'.cell? ⟨bx, 0, none⟩ = some (.string sb) ∧ w'.cell? ⟨bx, 1, none⟩ = some (.string ib) ∧ w'.cell? ⟨bx, 2, none⟩ = some (.string hb) ∧ w'.cell? ⟨bx, 3, none⟩ = some (.string db) ∧ w'.cell? ⟨bx, 4, none⟩ = some (.int .i64 xe) ∧ w'.cell? ⟨bx, 5, none⟩ = some (.int .i64 xr) ∧ bx < w'.heap.size ∧ K < w'.heap.size from fun w' F' c' s' ht h' => by
    have e2 := box_stays ht hnb he1
    obtain ⟨q0, q1, q2, q3, q4, q5⟩ := sixC e2
    obtain ⟨FV, V, D, G, vf, vi, hP, _⟩ := h'.ex
    exact ⟨q0, q1, q2, q3, q4, q5, heap_lt e2, hP.ltK⟩)
  have HFI := Lib.hid (show ∀ (o : Sm × An) (c' : Nat) (w' : World), NextSm W F K S c' room size name p w1 o.1 w' → c' + o.1.v.L.length ≤ c + s.v.L.length + 4 → R = o → PubPost W F K S (c + s.v.L.length + 4) room size name p w R (.returned (.tuple #[.int .i64 o.2.n, .bool o.2.again, .int .i64 (o.2.er : Nat)])) w' from fun o c' w' h1 h2 h3 => by
    subst h3
    exact ⟨rfl, c', NextSm.trans (fun k hk => .inl hk) (Heap.Touch.ofBelow hb1) h1, h2⟩)
  obtain ⟨l, hl⟩ : ∃ l, s.v.L.length = l := ⟨_, rfl⟩
  have HL := Lib.hid hl
  have HH := Lib.hid h1; have HB1 := Lib.hid hb1; have HBX := Lib.hid hbx; have HCK := Lib.hid hck; have HKN := Lib.hid hkn; have HRO := Lib.hid hro; have HCHK := Lib.hid hchk; have HP := Lib.hid hp; have HM := Lib.hid hm; have HX := Lib.hid hx
  have HIDS := Lib.hid hids
  have HRX := Lib.hid (show x.exp = xe ∧ x.roll = xr from ⟨hxe, hxr⟩)
  rw [hl] at hc hfew
  have hwl : IntKind.i64.wrap (la + 1) = la + 1 := IntWalk.i64_in _ (by omega)
  obtain ⟨q0, q1, q2, q3, q4, q5⟩ := sixC he1
  have hbl := heap_lt he1
  have HE1 := Lib.hid (And.intro he1 hnb)
  clear h h1 hb1 he1 hbx hnb hck hkn hro hchk hcke hkne hrme hxe hxr hla hRe hp hm hx hF hw hids hR hl
  go_enter Tryz.func62, Tryz.ntmps62
  go_upto_region 1 with fail
  rw [← hw1, HBX.out]
  clear hw1
  go_wp2_with fail
  refine HCK.out.mono ?_
  rintro e w2 ⟨rfl, hb2⟩
  have HB2 := Lib.hid hb2
  have HN2 := Lib.hid (NextSm.same HH.out hb2)
  obtain ⟨⟨_, h2, _⟩, ht2⟩ := HN2.out
  clear q0 q1 q2 q3 q4 q5 hbl HCK
  obtain ⟨q0, q1, q2, q3, q4, q5, hbl, hKl⟩ := HBC.out _ _ _ _ ht2 h2
  clear hb2 h2 ht2
  by_cases hck : ck = 0
  · subst hck
    obtain ⟨⟨hn0, hn1, _, hr0, hr1⟩, hse, _, _, _⟩ := HCHK.out rfl
    have HSE := Lib.hid (And.intro hse (And.intro hn0 hn1))
    have HR1 := Lib.hid (show R = if 0 < kn then (s, ⟨kn, true, 0⟩) else if 0 ≤ xe ∧ xe ≠ la then (s, ⟨0, false, 9⟩) else if rm.2 ≠ 0 then (⟨rm.1, s.ids⟩, ⟨0, false, rm.2⟩) else writeP room size now (la + 1) x ⟨rm.1, s.ids⟩ from by rw [HR.out, if_neg (by simp)])
    have HK2 := Lib.hid (HKN.out w2 HB2.out ⟨hn0, hn1⟩)
    rw [HRX.out.2] at hr0 hr1
    clear hse hn0 hn1 HR HKN
    go_wp2_with fail
    refine HK2.out.mono ?_
    rintro e w3 ⟨rfl, hb3⟩
    have HB3 := Lib.hid (low_to HB2.out hb3)
    have HN3 := Lib.hid (NextSm.same HH.out HB3.out)
    obtain ⟨⟨_, h3, _⟩, ht3⟩ := HN3.out
    clear q0 q1 q2 q3 q4 q5 hbl hKl HK2 HB2 HN2
    obtain ⟨q0, q1, q2, q3, q4, q5, hbl, hKl⟩ := HBC.out _ _ _ _ ht3 h3
    clear hb3 h3 ht3
    by_cases hk0 : 0 < kn
    · have HF := Lib.hid (HFI.out (s, ⟨kn, true, 0⟩) c w3 HN3.out (by simp only; have := HL.out; omega) (by rw [HR1.out, if_pos hk0]))
      go_wp2_with fail
      go_ret3
      exact HF.out
    · have HR2 := Lib.hid (show R = if 0 ≤ xe ∧ xe ≠ la then (s, ⟨0, false, 9⟩) else if rm.2 ≠ 0 then (⟨rm.1, s.ids⟩, ⟨0, false, rm.2⟩) else writeP room size now (la + 1) x ⟨rm.1, s.ids⟩ from by rw [HR1.out, if_neg hk0])
      have h3 := HH.out.low HB3.out
      obtain ⟨FV, V, D, G, vf, vi, hP, _⟩ := h3.ex
      obtain ⟨_, _, _, _, _, _, _, _, c10, _, _⟩ := hP.cells
      have HSTO := Lib.hid (store_vlt hP.vlt)
      have hsum := sums_vlt hP.vlt
      unfold sumsV at hsum
      rw [HLA.out] at hsum
      have HSUM := Lib.hid hsum
      have fl := fldS
      clear HR1 h3 hP hsum
      go_wp2_with fail
      refine HSTO.out.mono ?_
      rintro e w' ⟨rfl, rfl⟩
      go_wp2_with fail
      refine HSUM.out.mono ?_
      rintro e w4 ⟨rfl, hb4⟩
      have HB4 := Lib.hid (low_to HB3.out hb4)
      have HN4 := Lib.hid (NextSm.same HH.out HB4.out)
      obtain ⟨⟨_, h4, _⟩, ht4⟩ := HN4.out
      clear q0 q1 q2 q3 q4 q5 hbl hKl HSTO HSUM HB3 HN3 c10
      obtain ⟨q0, q1, q2, q3, q4, q5, hbl, hKl⟩ := HBC.out _ _ _ _ ht4 h4
      clear hb4 h4 ht4
      by_cases hex : 0 ≤ xe ∧ xe ≠ la
      · have HF := Lib.hid (HFI.out (s, ⟨0, false, 9⟩) c w4 HN4.out (by simp only; have := HL.out; omega) (by rw [HR2.out, if_pos hex]))
        obtain ⟨hx1, hx2⟩ := hex
        have hx2b : (xe != la) = true := by simpa using hx2
        clear hx2
        go_wp2_with fail
        go_ret3
        exact HF.out
      · have HR3 := Lib.hid (show R = if rm.2 ≠ 0 then (⟨rm.1, s.ids⟩, ⟨0, false, rm.2⟩) else writeP room size now (la + 1) x ⟨rm.1, s.ids⟩ from by rw [HR2.out, if_neg hex])
        have HRM := Lib.hid (HRO.out w4 HB4.out HSE.out.1)
        have HTO := Lib.hid (show Heap.Touch F w1 w4 from Heap.Touch.ofBelow HB4.out)
        go_upto_region 8 with fail
        go_cut [47] from 39 to 47 (fun s47 wx => s47 = .bool false ∧ wx = w4)
        case first =>
          by_cases h5 : 0 ≤ xe
          · have h6 : xe = la := Classical.byContradiction fun e => hex ⟨h5, e⟩
            subst h6
            have hx2b : (xe != xe) = false := by simp
            go_wp2_with fail
            go_meet
            exact ⟨by simp, rfl⟩
          · go_wp2_with fail
            go_meet
            exact ⟨by simp, rfl⟩
        case rest =>
        obtain ⟨rfl, rfl⟩ := hcut
        clear HR2
        go_wp2_with fail
        refine HRM.out.mono ?_
        rintro e w5 ⟨rfl, c5, hn5, hc5⟩
        have HN5 := Lib.hid (NextSm.trans (fun k hk => .inl hk) HTO.out hn5)
        have HC5 := Lib.hid hc5
        obtain ⟨⟨F5, h5, hF5⟩, ht5⟩ := HN5.out
        clear q0 q1 q2 q3 q4 q5 hbl hKl hn5 hc5 HRM HRO HTO
        obtain ⟨q0, q1, q2, q3, q4, q5, hbl, hKl⟩ := HBC.out _ _ _ _ ht5 h5
        have H5 := Lib.hid (And.intro h5 (And.intro hF5 ht5))
        clear h5 hF5 ht5
        by_cases hrm : rm.2 = 0
        · obtain ⟨q, hq⟩ : ∃ q, la + 1 = q := ⟨_, rfl⟩
          have HQ := Lib.hid hq
          rw [hq] at hwl
          obtain ⟨E1, hE1⟩ : ∃ E1, doV room size rm.1 (msgR q now x) = E1 := ⟨_, rfl⟩
          have HR4 := Lib.hid (show R = if E1.2 ≠ 0 then (⟨E1.1, s.ids⟩, ⟨0, false, E1.2⟩) else rollP room size now q x ⟨E1.1, idsP s.ids now q x⟩ from by
            rw [HR3.out, if_neg (by omega), hq, ← hE1]; rfl)
          have HLE1 := Lib.hid (show E1.1.L.length ≤ rm.1.L.length + 1 from by rw [← hE1]; exact do_len)
          obtain ⟨w6, hw6⟩ : ∃ w6, w6 = w5.alloc (.cells #[.int .i64 1, .int .i64 q, .int .i64 now, .string sb, .string hb, .string db] 33) := ⟨_, rfl⟩
          have hb6 : Below w5.heap.size w5 w6 := by rw [hw6]; exact (Below.refl _ _).alloc (Nat.le_refl _) _
          have he6 : w6.heap[w5.heap.size]? = some (.cells #[.int .i64 1, .int .i64 q, .int .i64 now, .string sb, .string hb, .string db] 33 (0, 0)) := by rw [hw6]; exact heap_alloc_new w5 _
          obtain ⟨rx, hrx⟩ : ∃ rx, w5.heap.size = rx := ⟨_, rfl⟩
          have HRXX := Lib.hid hrx
          have hnr : ¬ F5 rx := fun e => by have := H5.out.1.bF rx e; omega
          rw [hrx] at he6
          obtain ⟨x6, hx6⟩ : ∃ x6, x6 = w6.drew := ⟨_, rfl⟩
          have hb56 : Below w5.heap.size w5 x6 := by rw [hx6]; exact hb6.drew
          have he6x := Vlt.drew_block hx6 he6
          obtain ⟨V, k10, hdo⟩ := do_sm (H5.out.1.low hb56) (by have := HC5.out; have := HL.out; omega) HM.out (msgR q now x) ⟨HX.out.s, HX.out.h, HX.out.d⟩
          have hrv : recV (msgR q now x) = .agg #[.int .i64 1, .int .i64 q, .int .i64 now, .string sb, .string hb, .string db] := by
            rw [← HP.out.s1, ← HP.out.h1, ← HP.out.d1]; rfl
          rw [hrv, hE1] at hdo
          have HDO := Lib.hid hdo
          have k10w : w6.cell? ⟨K, 10, none⟩ = some (.pointer (some ⟨V, 0, none⟩)) := by rw [hx6] at k10; exact k10
          obtain ⟨r0, r1, r2, r3, r4, r5⟩ := sixC he6
          have hrl := heap_lt he6
          have hKl6 : K < w6.heap.size := Nat.lt_of_lt_of_le hKl hb6.size
          have HE6 := Lib.hid (And.intro he6x hnr)
          have HB56 := Lib.hid hb56
          clear hb6 he6 hrx hnr hb56 he6x hdo hrv k10 HR3 hE1
          go_upto_region 14 with fail
          rw [← hw6, HRXX.out]
          clear hw6
          go_wp2_with fail
          go_still_tail 5, (by kernel_rfl)
          change wpList _ _ _ _ _ w6.drew
          rw [← hx6]
          clear hx6
          go_wp2_with fail
          refine HDO.out.mono ?_
          rintro e w7 ⟨rfl, hn7⟩
          have HN7 := Lib.hid (NextSm.trans H5.out.2.1 (H5.out.2.2.after (Heap.Touch.ofBelow HB56.out)) hn7)
          obtain ⟨⟨F7, h7, hF7⟩, ht7⟩ := hn7
          have HE7 := Lib.hid (show w7.heap[rx]? = some (.cells #[.int .i64 1, .int .i64 q, .int .i64 now, .string sb, .string hb, .string db] 33 (0, 0)) ∧ ¬ F7 rx from
            ⟨box_stays ht7 HE6.out.2 HE6.out.1, fun e => by
              rcases hF7 rx e with e | e
              · exact HE6.out.2 e
              · have := heap_lt HE6.out.1; omega⟩)
          have H7 := Lib.hid (And.intro h7 (And.intro hF7 ht7))
          have HFW7 := Lib.hid (show ∀ k, F7 k → F k ∨ w1.heap.size ≤ k from fun k hk => by
            rcases hF7 k hk with e | e
            · exact H5.out.2.1 k e
            · exact .inr (Nat.le_trans (Nat.le_trans H5.out.2.2.size HB56.out.size) e))
          have HT7 := Lib.hid HN7.out.2
          clear q0 q1 q2 q3 q4 q5 hbl hKl r0 r1 r2 r3 r4 r5 hrl hKl6 k10w h7 hF7 ht7 HDO
          obtain ⟨q0, q1, q2, q3, q4, q5, hbl, hKl⟩ := HBC.out _ _ _ _ HT7.out H7.out.1
          obtain ⟨r0, r1, r2, r3, r4, r5⟩ := sixC HE7.out.1
          have hrl := heap_lt HE7.out.1
          by_cases hE0 : E1.2 = 0
          · have HR5 := Lib.hid (show R = rollP room size now q x ⟨E1.1, idsP s.ids now q x⟩ from by rw [HR4.out, if_neg (by omega)])
            rw [hE0]
            clear HR4 hE0 hrm
            go_upto_if 76 with fail
            go_cut [] from 76 to 91 (fun wx => Hid (∃ F9, SmAt W F9 K S (c5 + 1) room size name p ⟨E1.1, idsP s.ids now q x⟩ wx ∧ (∀ k, F9 k → F k ∨ w1.heap.size ≤ k) ∧ Heap.Touch F w1 wx ∧ wx.heap[rx]? = some (.cells #[.int .i64 1, .int .i64 q, .int .i64 now, .string sb, .string hb, .string db] 33 (0, 0)) ∧ ¬ F9 rx))
            case first =>
              by_cases hie : x.id = []
              · have hT0 : ib.toList = [] := by rw [ByteArray.toList_eq, HP.out.i2]; exact hie
                have hT : (!ib.toList.isEmpty) = false := by rw [hT0]; rfl
                clear hT0
                rw [hT]
                have HF := Lib.hid (show ∃ F9, SmAt W F9 K S (c5 + 1) room size name p ⟨E1.1, idsP s.ids now q x⟩ w7 ∧ (∀ k, F9 k → F k ∨ w1.heap.size ≤ k) ∧ Heap.Touch F w1 w7 ∧ w7.heap[rx]? = some (.cells #[.int .i64 1, .int .i64 q, .int .i64 now, .string sb, .string hb, .string db] 33 (0, 0)) ∧ ¬ F9 rx from ⟨F7, by unfold idsP; rw [if_pos hie]; exact H7.out.1, HFW7.out, HT7.out, HE7.out.1, HE7.out.2⟩)
                clear hie
                go_wp2_with fail
                go_meet
                exact HF
              · have hT : ¬ ib.toList = [] := by rw [ByteArray.toList_eq, HP.out.i2]; exact hie
                have hT2 : (!ib.toList.isEmpty) = true := by simpa using hT
                rw [hT2]
                clear hT hT2
                obtain ⟨FV, V7, D, G, vf, vi, hP7, hFF7⟩ := H7.out.1.ex
                obtain ⟨via, vin, rfl⟩ := hP7.ids.slice
                obtain ⟨n, hn⟩ : ∃ n, s.ids.length = n := ⟨_, rfl⟩
                have HN := Lib.hid hn
                have hrow := hP7.ids
                have hn1 : n ≤ 1000 := by rw [← hn]; exact HIDS.out
                simp only at hrow
                rw [hn] at hrow
                have HRW := Lib.hid hrow
                obtain ⟨i0, hi, hz0, hz1, hz2⟩ := info_parts info_kn
                obtain ⟨_, _, _, _, _, _, _, _, _, c11, cf⟩ := hP7.cells
                simp only at c11
                rw [hn] at c11
                have HP7 := Lib.hid hP7; have HFF := Lib.hid hFF7
                have hnK : ¬ own (.slice via s.ids.length vin) K := fun e => (hP7.ni K e).2.2.1 rfl
                rw [hn] at hnK
                have HNK := Lib.hid hnK
                have HIE := Lib.hid hie
                clear hie hrow hP7 hFF7 hnK hn
                go_upto_region 18 with fail
                go_region_law ((refine step_append_row _ (by rfl) (.tmp 81) (.tmp 88) 178 (by rfl) 212 i0 _ 3 32 Tryz.underlying178 hi hz0 hz1 hz2 (by rfl) (by decide) _ n _ (by rfl) (HRW.out.kept (fun k _ hk => Below.heap_alloc w7.drew _ _ hk)) ⟨w7.heap.size, 0, none⟩ 1 1 [.string ib, .int .i64 now, .int .i64 q] (by rfl) (by rfl) (news_kn w7.drew ib now q _) (by simp [Value.oneCell']) (by unfold maxLen; omega) (by omega) ?_; intro v2 w8 r8 t8 o8; obtain ⟨a2, n2, rfl⟩ := r8.slice; have hD8 := ((t8.block K (by show K < (w7.drew.alloc _).heap.size; exact Nat.lt_of_lt_of_le hKl (by simp)) (fun e => HNK.out e)).trans (Below.heap_alloc w7.drew _ _ hKl)).trans HP7.out.cell; have yf := (fun j => frozen_of_row w8 K j _ _ hD8); have y11 : w8.cell? ⟨K, 11, none⟩ = some (.slice via s.ids.length vin) := (by rw [cell_of_row w8 K 11 _ _ _ hD8]; rfl); have hlt8 := heap_lt hD8; have R8 := Lib.hid r8; have T8 := Lib.hid t8; have O8 := Lib.hid o8; have D8 := Lib.hid hD8; clear r8 t8 o8 hD8))
                all_goals
                  go_wp2_with fail
                  go_meet
                  have hbn : Below w7.heap.size w7 (w7.alloc (.cells #[.string ib, .int .i64 now, .int .i64 q] 212)).drew := ((Below.refl _ _).alloc (Nat.le_refl _) _).drew
                  have ho : ∀ k, own (.slice a2 (n + 1) n2) k → own (.slice via s.ids.length vin) k ∨ w7.heap.size ≤ k := fun k hk => (O8.out k hk).imp (fun e => by rw [HN.out]; exact e) fun h => Nat.le_trans hbn.size h
                  have ht9 : Heap.Touch (fun k => k = K ∨ own (.slice via s.ids.length vin) k) w7 (w8.setCell ⟨K, 11, none⟩ (.slice a2 (n + 1) n2)) := by
                    refine ((Heap.Touch.ofBelow hbn).after (T8.out.mono fun k _ hk => ?_)).setCell (.inl (.inl rfl)) _
                    rw [HN.out]
                    exact .inr hk
                  have hKx : ∀ k, own (.slice a2 (n + 1) n2) k → k ≠ K := fun k hk e => by
                    rcases O8.out k hk with h | h
                    · exact HNK.out (by rw [← e]; exact h)
                    · have : w7.heap.size ≤ k := Nat.le_trans hbn.size h
                      omega
                  have hput := H7.out.1.ids HP7.out HFF.out (ids' := s.ids ++ [⟨x.id, now, q⟩]) ht9 (heap_setCell_same _ _ _ _ _ _ D8.out) (by
                    rw [List.length_append, List.length_singleton, HN.out, knsV_append]
                    have e1 : knsV [(⟨x.id, now, q⟩ : Kn)] = [.string ib, .int .i64 now, .int .i64 q] := by
                      have : (⟨x.id.toArray⟩ : ByteArray) = ib := by rw [← HP.out.i2]
                      show [Value.string ⟨x.id.toArray⟩, _, _] ++ [] = _
                      rw [this]; rfl
                    rw [e1]
                    exact R8.out.kept fun k hk _ => heap_setCell_other _ _ _ _ (hKx k hk)) ho
                  obtain ⟨⟨F9, h9, hF9⟩, ht79⟩ := hput
                  refine Lib.hid ⟨F9, ?_, fun k hk => ?_, HT7.out.trans ht79 fun k hk hf => (HFW7.out k hf).resolve_right (by omega), ?_, fun e => ?_⟩
                  · unfold idsP
                    rw [if_neg HIE.out]
                    exact h9
                  · rcases hF9 k hk with e | e
                    · exact HFW7.out k e
                    · exact .inr (Nat.le_trans HT7.out.size e)
                  · exact box_stays ht79 HE7.out.2 HE7.out.1
                  · rcases hF9 rx e with e | e
                    · exact HE7.out.2 e
                    · have := heap_lt HE7.out.1; omega
            case rest =>
            obtain ⟨F9, h9, hF9, ht9, he9, hr9⟩ := hcut.out
            have HN9 := Lib.hid (show NextSm W F K S (c5 + 1) room size name p w1 ⟨E1.1, idsP s.ids now q x⟩ wc from ⟨⟨F9, h9, hF9⟩, ht9⟩)
            have HLL := Lib.hid (show c5 + 1 + E1.1.L.length ≤ c + l + 3 from by have := HC5.out; have := HLE1.out; have := HL.out; omega)
            clear q0 q1 q2 q3 q4 q5 hbl hKl r0 r1 r2 r3 r4 r5 hrl HE7 HT7 H7 HN7 HE6 H5 HFW7 HN5 hcut
            obtain ⟨q0, q1, q2, q3, q4, q5, hbl, hKl⟩ := HBC.out _ _ _ _ ht9 h9
            obtain ⟨r0, r1, r2, r3, r4, r5⟩ := sixC he9
            have hrl := heap_lt he9
            by_cases hr : 0 < xr
            · have HR6 := Lib.hid (show R = if (doV room size E1.1 (purR q now (rollF x))).2 ≠ 0 then (⟨(doV room size E1.1 (purR q now (rollF x))).1, idsP s.ids now q x⟩, ⟨0, false, (doV room size E1.1 (purR q now (rollF x))).2⟩)
                else (⟨(doV room size E1.1 (purR q now (rollF x))).1, idsP s.ids now q x⟩, ⟨q, false, 0⟩) from by
                rw [HR5.out]; unfold rollP; rw [if_neg (by rw [HRX.out.2]; omega)])
              obtain ⟨E2, hE2⟩ : ∃ E2, doV room size E1.1 (purR q now (rollF x)) = E2 := ⟨_, rfl⟩
              rw [hE2] at HR6
              have HLE2 := Lib.hid (show E2.1.L.length ≤ E1.1.L.length from by
                rw [← hE2]
                rcases do_cases (room := room) (size := size) (s := E1.1) (r := purR q now (rollF x)) with ⟨_, e, _⟩ | ⟨_, _, e, _⟩
                · rw [e]; exact Nat.le_refl _
                · rw [e]; exact (leftS_kind (by show (3 : Int) ≠ 1; decide)).length_le)
              obtain ⟨x9, hx9⟩ : ∃ x9, x9 = wc.drew := ⟨_, rfl⟩
              have hb9 : Below wc.heap.size wc x9 := by rw [hx9]; exact (Below.refl _ _).drew
              have he9x := Vlt.drew_block hx9 he9
              have hrollz : (rollF x).length ≤ 1048576 := by
                unfold rollF
                split
                · show (1 : Nat) ≤ _; omega
                · exact HX.out.s
              obtain ⟨V, k10, hdo⟩ := do_sm (h9.low hb9) (by have := HLL.out; omega) HM.out (purR q now (rollF x)) ⟨hrollz, by show (0 : Nat) ≤ _; omega, by show (0 : Nat) ≤ _; omega⟩
              rw [hE2] at hdo
              have k10w : wc.cell? ⟨K, 10, none⟩ = some (.pointer (some ⟨V, 0, none⟩)) := by rw [hx9] at k10; exact k10
              obtain ⟨fb, hfb, hrf⟩ : ∃ fb : ByteArray, ((xr = 2 ∧ fb = ⟨#[62]⟩) ∨ ((xr == 2) = false ∧ fb = sb)) ∧ recV (purR q now (rollF x)) = .agg #[.int .i64 3, .int .i64 q, .int .i64 now, .string fb, .string ⟨#[]⟩, .string ⟨#[]⟩] := by
                by_cases h2 : xr = 2
                · refine ⟨_, .inl ⟨h2, rfl⟩, ?_⟩
                  unfold rollF
                  rw [HRX.out.2, if_pos h2]; rfl
                · refine ⟨_, .inr ⟨by simpa using h2, rfl⟩, ?_⟩
                  unfold rollF
                  rw [HRX.out.2, if_neg h2, ← HP.out.s1]; rfl
              rw [hrf] at hdo
              have HNR := Lib.hid (And.intro hF9 ht9)
              have HDO := Lib.hid hdo
              have HFB := Lib.hid hfb
              have HB9 := Lib.hid hb9
              have HE9 := Lib.hid (And.intro he9x hr9)
              clear h9 hF9 ht9 he9 hb9 he9x hrollz k10 hdo hrf hE2 hfb hr9 HR5
              rcases HFB.out with ⟨h2, rfl⟩ | ⟨h2, rfl⟩
              case' inl => subst h2
              all_goals
                clear HFB
                go_upto_region 23 with fail
                go_wp2_with fail
                go_still_tail 9, (by kernel_rfl)
                change wpList _ _ _ _ _ wc.drew
                rw [← hx9]
                clear hx9
                go_wp2_with fail
                refine HDO.out.mono ?_
                rintro e w10 ⟨rfl, hn10⟩
                have HN10 := Lib.hid (NextSm.trans HNR.out.1 (HNR.out.2.after (Heap.Touch.ofBelow HB9.out)) hn10)
                have he10 := box_stays hn10.2 HE9.out.2 HE9.out.1
                clear q0 q1 q2 q3 q4 q5 hbl hKl r0 r1 r2 r3 r4 r5 hrl hn10 HDO k10w
                obtain ⟨r0, r1, r2, r3, r4, r5⟩ := sixC he10
                have hrl := heap_lt he10
                clear he10
                by_cases hE0 : E2.2 = 0
                · have HF := Lib.hid (HFI.out (⟨E2.1, idsP s.ids now q x⟩, ⟨q, false, 0⟩) (c5 + 1 + 1) w10 HN10.out (by simp only; have := HLL.out; have := HLE2.out; have := HL.out; omega) (by rw [HR6.out, if_neg (by omega)]))
                  rw [hE0]
                  clear hE0
                  go_wp2_with fail
                  go_ret3
                  exact HF.out
                · have hEz : ((E2.2 : Int) == 0) = false := by simpa using hE0
                  have HF := Lib.hid (HFI.out (⟨E2.1, idsP s.ids now q x⟩, ⟨0, false, E2.2⟩) (c5 + 1 + 1) w10 HN10.out (by simp only; have := HLL.out; have := HLE2.out; have := HL.out; omega) (by rw [HR6.out, if_pos hE0]))
                  go_wp2_with fail
                  go_ret3
                  exact HF.out
            · have HF := Lib.hid (HFI.out (⟨E1.1, idsP s.ids now q x⟩, ⟨q, false, 0⟩) (c5 + 1) wc HN9.out (by simp only; have := HLL.out; have := HL.out; omega) (by rw [HR5.out]; unfold rollP; rw [if_pos (by rw [HRX.out.2]; omega)]))
              clear h9 hF9 ht9 he9
              go_wp2_with fail
              go_ret3
              exact HF.out
          · have hEz : ((E1.2 : Int) == 0) = false := by simpa using hE0
            have HF := Lib.hid (HFI.out (⟨E1.1, s.ids⟩, ⟨0, false, E1.2⟩) (c5 + 1) w7 HN7.out (by simp only; have := HC5.out; have := HLE1.out; omega) (by rw [HR4.out, if_pos hE0]))
            go_wp2_with fail
            go_ret3
            exact HF.out
        · have hrmz : ((rm.2 : Int) == 0) = false := by simpa using hrm
          have HF := Lib.hid (HFI.out (⟨rm.1, s.ids⟩, ⟨0, false, rm.2⟩) c5 w5 HN5.out (by simp only; have := HC5.out; omega) (by rw [HR3.out, if_pos hrm]))
          go_wp2_with fail
          go_ret3
          exact HF.out
  · have hckz : ((ck : Int) == 0) = false := by simpa using hck
    have HF := Lib.hid (HFI.out (s, ⟨0, false, ck⟩) c w2 HN2.out (by simp only; have := HL.out; omega) (by rw [HR.out, if_pos hck]))
    go_wp2_with fail
    go_ret3
    exact HF.out
end
end Go.Proofs.YtbgchhgdlceceaaGreatDoor.Strm

namespace Go.Proofs.YtbgchhgdlceceaaGreatDoor.Strm
open Go.RowKit Heap
open Subj (Tok ML)
open Vlt (Vt doV store_vlt crash_vlt low_to Whole fits_ok)
open Rec (Rc far)
open Sto (Right)

section
variable {p : Pl} {room size now : Int} {x : Po} {s : Sm}

theorem last_left (_L : List Rc) (last : Int) (r : Rc) (h : r.kind = 2 ∨ r.kind = 3) : Sto.lastS last r = last := by
  unfold Sto.lastS
  rw [if_neg (by omega), if_neg (by omega)]

theorem do_last {v : Vt} {r : Rc} (h : r.kind = 2 ∨ r.kind = 3) : (doV room size v r).1.last = v.last := by
  rcases do_cases (room := room) (size := size) (s := v) (r := r) with ⟨_, _, e⟩ | ⟨_, _, _, e⟩
  · exact e
  · rw [e]; exact last_left v.L v.last r h

/-- One id more at the most; the last number goes up by one at the most. -/
theorem pub_more (hl : s.v.L.length ≤ 200) (_h0 : 0 ≤ s.v.last) : (pubP p room size now x s).1.ids.length ≤ s.ids.length + 1 ∧ (pubP p room size now x s).1.v.last ≤ s.v.last + 1 := by
  unfold pubP
  split
  · exact ⟨by simp only; omega, by simp only; omega⟩
  · split
    · exact ⟨by simp only; omega, by simp only; omega⟩
    · split
      · exact ⟨by simp only; omega, by simp only; omega⟩
      · obtain ⟨_, a2, _, _⟩ := room_facts (p := p) (room := room) (size := size) (now := now) (x := x) hl
        split
        · exact ⟨by simp only; omega, by simp only; rw [a2]; omega⟩
        · generalize roomP p room size now x s.v = a at *
          unfold writeP
          rcases do_cases (room := room) (size := size) (s := a.1) (r := msgR (s.v.last + 1) now x) with ⟨d1, _, d3⟩ | ⟨d1, _, _, d3⟩
          · simp only
            rw [if_pos d1]
            exact ⟨by simp only; omega, by simp only; rw [d3, a2]; omega⟩
          · simp only
            rw [if_neg (by omega)]
            have d3 : (doV room size a.1 (msgR (s.v.last + 1) now x)).1.last = s.v.last + 1 := d3
            generalize doV room size a.1 (msgR (s.v.last + 1) now x) = b at *
            have hi : (idsP s.ids now (s.v.last + 1) x).length ≤ s.ids.length + 1 := by
              unfold idsP
              split
              · omega
              · simp
            unfold rollP
            split
            · exact ⟨hi, by simp only; rw [d3]; omega⟩
            · have e3 : (doV room size b.1 (purR (s.v.last + 1) now (rollF x))).1.last = s.v.last + 1 := (do_last (.inr rfl)).trans d3
              simp only
              split
              · exact ⟨hi, by simp only; rw [e3]; omega⟩
              · exact ⟨hi, by simp only; rw [e3]; omega⟩
end

section
variable {W w : World} {F : Nat → Prop} {K S c : Nat} {room size : Int} {name : ByteArray} {p : Pl} {s : Sm}

set_option maxRecDepth 100000 in
theorem store_sm (h : SmAt W F K S c room size name p s w) : Calls Tryz.prog 60 #[.pointer (some ⟨K, 0, none⟩)] w fun e w' => e = .returned (.pointer (some ⟨S, 0, none⟩)) ∧ w = w' := by
  obtain ⟨FV, V, D, G, vf, vi, hP, _⟩ := h.ex
  have HS := Lib.hid (store_vlt hP.vlt)
  obtain ⟨_, _, _, _, _, _, _, _, c10, _, _⟩ := hP.cells
  have hKl := hP.ltK
  clear h hP
  go_enter Tryz.func60, Tryz.ntmps60
  go_wp2_with fail
  refine HS.out.mono ?_
  rintro e w' ⟨rfl, rfl⟩
  go_wp2_with fail
  go_ret
  exact ⟨rfl, rfl⟩

/-- What a stop leaves. -/
def CrashS (W : World) (F : Nat → Prop) (K c : Nat) (room size : Int) (name : ByteArray) (p : Pl) (s : Sm) (w : World) (e : Ending) (w' : World) : Prop :=
  e = .returned (.tuple #[]) ∧ ∃ S', NextSm W F K S' c room size name p w ⟨s.v, []⟩ w'

set_option maxHeartbeats 4000000 in
set_option maxRecDepth 100000 in
theorem crash_sm (h : SmAt W F K S c room size name p s w) (hc : c ≤ 3700) (hm : ML W) (keep : Int) :
    Calls Tryz.prog 65 #[.pointer (some ⟨K, 0, none⟩), .int .i64 keep] w (CrashS W F K c room size name p s w) := by
  obtain ⟨FV, V, D, G, vf, vi, hP, hF⟩ := h.ex
  have htl := hP.whole.told keep.toNat
  have HCR := Lib.hid (crash_vlt hP.vlt hm keep keep.toNat rfl (by omega) fun r hr => fits_ok (htl.2 r hr))
  have HTL := Lib.hid htl
  have HP := Lib.hid hP; have HH := Lib.hid h; have HF := Lib.hid hF
  obtain ⟨_, _, _, _, _, _, _, _, c10, _, _⟩ := hP.cells
  have hKl := hP.ltK
  clear h hP hF htl
  go_enter Tryz.func65, Tryz.ntmps65
  go_wp2_with fail
  refine HCR.out.mono ?_
  rintro e w1 ⟨rfl, FV', G', S', h1, h2, h3⟩
  rw [HP.out.whole.crash] at h1
  have hn : NextSm W F K S' c room size name p w s w1 := HH.out.vlt HP.out HF.out (v' := s.v) ⟨⟨FV', h1.more (by have := HTL.out.1; omega), h2⟩, h3⟩ HP.out.whole
  have HN := Lib.hid hn
  obtain ⟨⟨F1, g1, hF1⟩, ht1⟩ := hn
  have HN1 := Lib.hid (And.intro g1 (And.intro hF1 ht1))
  obtain ⟨FV1, V1, D1, G1, vf1, vi1, hP1, hFF1⟩ := g1.ex
  obtain ⟨_, _, _, _, _, _, _, _, _, d11, df⟩ := hP1.cells
  have hKl1 := hP1.ltK
  have HX := Lib.hid (show NextSm W F K S' c room size name p w ⟨s.v, []⟩ (w1.setCell ⟨K, 11, none⟩ (.slice none 0 0)) from by
    have hno : ∀ k, ¬ own (.slice none 0 0) k := fun k hk => by simp [own, Value.ownBlock] at hk
    have ht : Heap.Touch (fun k => k = K ∨ own vi1 k) w1 (w1.setCell ⟨K, 11, none⟩ (.slice none 0 0)) := (Heap.Touch.refl _ w1).setCell (.inl (.inl rfl)) _
    exact NextSm.trans hF1 ht1 (g1.ids hP1 hFF1 (ids' := []) ht (heap_setCell_same _ _ _ _ _ _ hP1.cell) (Row.nil _ _ _) fun k hk => absurd hk (hno k)))
  clear h1 h2 h3 g1 hF1 ht1 hP1 hFF1 HCR c10 hKl
  go_wp2_with fail
  go_end0
  exact ⟨rfl, _, HX.out⟩
end
end Go.Proofs.YtbgchhgdlceceaaGreatDoor.Strm
