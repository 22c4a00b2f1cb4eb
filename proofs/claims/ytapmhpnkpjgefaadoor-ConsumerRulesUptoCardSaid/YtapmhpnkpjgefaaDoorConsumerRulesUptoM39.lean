/- Parts of the proof, joined: The law ConsumerRules, walked: it returns true. -/
import Derived.Test.YtapmhpnkpjgefaaDoorConsumerRulesUptoM32
import Derived.Test.YtapmhpnkpjgefaaDoorConsumerRulesUptoM37
import Derived.Test.YtapmhpnkpjgefaaDoorConsumerRulesUptoM38
import Derived.Deep.CutBlock
namespace Go.Proofs.YtapmhpnkpjgefaaDoor.Con
open Go.RowKit Go.Maps Heap
open Subj (Tok TakerP ML errT errT_facts Ints)
open Sto (StoreAt Right RecsAt Fits recV sixC parts runS after tryD apply_any ApplyPost filled_any fourS)
open Rec (Rc far)

theorem fldI0 : ∀ (w : World) (a b c d : Int), (Instr.field 46 (.agg #[.int .i64 a, .int .i64 b, .int .i64 c, .int .i64 d]) 0).run Tryd.prog w = .ok (.int .i64 a) w := fun _ _ _ _ _ => by kernel_rfl

/-- A turn in its box. -/
theorem elevA {w : World} {bx : Nat} {a0 a1 a2 a3 a4 a5 a6 a7 a8 a9 a10 : Value} {ty : TypeId} (h : w.heap[bx]? = some (.cells #[a0, a1, a2, a3, a4, a5, a6, a7, a8, a9, a10] ty (0, 0))) : w.cell? ⟨bx, 0, none⟩ = some a0 ∧ w.cell? ⟨bx, 1, none⟩ = some a1 ∧ w.cell? ⟨bx, 2, none⟩ = some a2 ∧ w.cell? ⟨bx, 3, none⟩ = some a3 ∧ w.cell? ⟨bx, 4, none⟩ = some a4 ∧ w.cell? ⟨bx, 5, none⟩ = some a5 ∧ w.cell? ⟨bx, 6, none⟩ = some a6 ∧ w.cell? ⟨bx, 7, none⟩ = some a7 ∧ w.cell? ⟨bx, 8, none⟩ = some a8 ∧ w.cell? ⟨bx, 9, none⟩ = some a9 ∧ w.cell? ⟨bx, 10, none⟩ = some a10 := by
  refine ⟨?_, ?_, ?_, ?_, ?_, ?_, ?_, ?_, ?_, ?_, ?_⟩ <;> (rw [cell_of_row w bx _ _ _ _ h]; rfl)

/-- Where it stands: all that is known between two turns. -/
structure RulS (w0 : World) (D K B md mn mo : Nat) (t : TakerP) (vb3 : Value) (j : Nat) (c : Cn) (L : List Rc) (last : Int) (W : Wt) (w : World) : Prop where
  mem : RulM w0 D K B md mn mo (16 * (60 + j)) (100 * j) j t vb3 c L last W w
  rel : Rel t L last c W
  ok : Ok j c
  few : Few t c
  nb : ∀ q, W.nth q ≤ j

theorem RulS.next {w0 w w1 : World} {D K B md mn mo j : Nat} {t : TakerP} {vb3 : Value} {c : Cn} {L : List Rc} {last : Int} {W : Wt} (h : RulS w0 D K B md mn mo t vb3 j c L last W w) (hb : Below w.heap.size w w1) : RulS w0 D K B md mn mo t vb3 j c L last W w1 := ⟨h.mem.next hb, h.rel, h.ok, h.few, h.nb⟩

section
variable {w : World}

set_option maxHeartbeats 8000000 in
set_option maxRecDepth 100000 in
theorem consumerRules_walk (hm : ML w) (t : TakerP) {vb : Value} (hB : Ints w vb t.back) (hvo : ∀ k, own vb k → k < w.heap.size) (hnm : t.name.length ≤ 1048576) (hfl : t.filt.length ≤ 1048576) {v : Value} {l : List Rc} (hl : RecsAt w v l) (hf : ∀ r ∈ l, Fits r) {vt : Value} {lt : List Tn} (ht : TurnsAt w vt lt) (hft : ∀ x ∈ lt, FitsT x) :
    Calls Tryd.prog 3 #[takerV t vb, v, vt] w fun e w' => e = .returned (.bool true) ∧ Below w.heap.size w w' := by
  have hfar : far = 1099511627776 := rfl
  obtain ⟨n, hnL⟩ : ∃ n, l.length = n := ⟨_, rfl⟩
  obtain ⟨m, hmL⟩ : ∃ m, lt.length = m := ⟨_, rfl⟩
  have HN := Lib.hid hnL; have HM := Lib.hid hmL
  obtain ⟨ao, cap, rfl, ha⟩ := hl
  have HL := Lib.hid (show RecsAt w (.slice ao l.length cap) l from ⟨ao, cap, rfl, ha⟩); have HF := Lib.hid hf
  rw [hnL] at HL ⊢
  obtain ⟨at_, capt, rfl, hat⟩ := ht
  have HLT := Lib.hid (show TurnsAt w (.slice at_ lt.length capt) lt from ⟨at_, capt, rfl, hat⟩); have HFT := Lib.hid hft
  rw [hmL] at HLT ⊢
  obtain ⟨nm, hnme⟩ : ∃ nm : ByteArray, (⟨t.name.toArray⟩ : ByteArray) = nm := ⟨_, rfl⟩
  obtain ⟨fl, hfle⟩ : ∃ fl : ByteArray, (⟨t.filt.toArray⟩ : ByteArray) = fl := ⟨_, rfl⟩
  unfold takerV
  rw [hnme, hfle]
  obtain ⟨avb, cvb, hvb, hcvb, hatb⟩ := hB
  have hB : Ints w vb t.back := ⟨avb, cvb, hvb, hcvb, hatb⟩
  subst hvb
  obtain ⟨w0, hw0⟩ : ∃ w0, w0 = w.alloc (.cells #[.string nm, .string fl, .int .i64 t.src, .int .i64 t.start, .int .i64 t.ack, .int .i64 t.wait, .slice avb t.back.length cvb, .int .i64 t.most, .int .i64 t.pend, .bool t.push] 24) := ⟨_, rfl⟩
  have hb0 : Below w.heap.size w w0 := by rw [hw0]; exact (Below.refl _ _).alloc (Nat.le_refl _) _
  have he0 : w0.heap[w.heap.size]? = some (.cells #[.string nm, .string fl, .int .i64 t.src, .int .i64 t.start, .int .i64 t.ack, .int .i64 t.wait, .slice avb t.back.length cvb, .int .i64 t.most, .int .i64 t.pend, .bool t.push] 24 (0, 0)) := by rw [hw0]; exact heap_alloc_new w _
  obtain ⟨bt, hbt⟩ : ∃ bt, w.heap.size = bt := ⟨_, rfl⟩
  rw [hbt] at he0
  have HTV := Lib.hid (show takerV t (.slice avb t.back.length cvb) = .agg #[.string nm, .string fl, .int .i64 t.src, .int .i64 t.start, .int .i64 t.ack, .int .i64 t.wait, .slice avb t.back.length cvb, .int .i64 t.most, .int .i64 t.pend, .bool t.push] from by unfold takerV; rw [hnme, hfle])
  have HB0 := Lib.hid hb0; have HE0 := Lib.hid he0; have HBT := Lib.hid hbt; have HNM := Lib.hid hnme; have HFL := Lib.hid hfle
  have HVO := Lib.hid hvo; have HML := Lib.hid (hm.below hb0); have HBK := Lib.hid (hB.below hb0); have HNMs := Lib.hid hnm; have HFLs := Lib.hid hfl
  have hb0s := hb0.size
  clear ha hf hm hvo hnL hnme hfle hB hcvb hatb hb0 he0 hbt hnm hfl hat hft hmL
  go_enter Tryd.func3, Tryd.ntmps3
  go_upto_region 1 with fail
  rw [← hw0, HBT.out]
  clear hw0
  go_wp2_with fail
  refine (ready_any HML.out).mono ?_
  rintro e w1 ⟨rfl, hb1⟩
  have B1 := Lib.hid hb1
  have HB01 := Lib.hid (HB0.out.trans (hb1.mono HB0.out.size))
  clear hb1
  by_cases h60 : 60 < n ∨ 80 < m
  · rcases (show 60 < n ∨ (¬ 60 < n ∧ 80 < m) from by omega) with h1 | ⟨h1, h2⟩
    · have h1z : (60 : Int) < n := by omega
      clear h60
      go_wp2_with fail
      go_ret
      exact ⟨rfl, HB01.out⟩
    · have h1z : ¬ (60 : Int) < n := by omega
      have h2z : (80 : Int) < m := by omega
      clear h60
      go_wp2_with fail
      go_ret
      exact ⟨rfl, HB01.out⟩
  have h1z : ¬ (60 : Int) < n := by omega
  have h2z : ¬ (80 : Int) < m := by omega
  have hn60 : n ≤ 60 := by omega
  have hm80 : m ≤ 80 := by omega
  clear h60
  go_wp2_with fail
  have hfil := filled_any (W := w0) B1.out HML.out (by rw [← HN.out] at HL; exact HL.out.below (HB0.out.trans (B1.out.mono HB0.out.size)) (Nat.le_refl _)) (by rw [HN.out]; omega) HF.out
  rw [HN.out] at hfil
  refine hfil.mono ?_
  clear hfil
  rintro e w2 ⟨D, F, rfl, hS, hF, hb2⟩
  rw [HN.out] at hS
  obtain ⟨L, hLe⟩ : ∃ L, (runS l).1 = L := ⟨_, rfl⟩
  obtain ⟨last, hlast⟩ : ∃ last, (runS l).2 = last := ⟨_, rfl⟩
  rw [hLe, hlast] at hS
  have B2 := Lib.hid (B1.out.trans (hb2.mono B1.out.size))
  obtain ⟨I, hR⟩ := hS.right
  have HR := Lib.hid hR
  have hnew := new_c (t := t) hS HML.out (HBK.out.below B2.out) HNMs.out HFLs.out
  unfold takerV at hnew
  rw [HNM.out, HFL.out] at hnew
  obtain ⟨er, her⟩ : ∃ er, errT t = er := ⟨_, rfl⟩
  rw [her] at hnew
  have HER := Lib.hid her; have HNEW := Lib.hid hnew; have HS := Lib.hid hS
  have he2 := (B2.out.block bt (heap_lt HE0.out)).trans HE0.out
  obtain ⟨t0, t1, t2, t3, t4, t5, t6, t7, t8, t9, _⟩ := tenC he2
  clear hS hF hb2 hLe hlast hR hnew her he2 B1
  go_wp2_with fail
  refine HNEW.out.mono ?_
  intro e w3 hp3
  rcases hp3 with ⟨h0, rfl, hb3⟩ | ⟨rfl, K, vb3, rfl, hc3, hK3, hvb3, hb3⟩
  · have hz0 : ((er : Int) != 0) = true := by simpa using h0
    have HFI := Lib.hid (HB0.out.trans ((B2.out.trans (hb3.mono B2.out.size)).mono HB0.out.size))
    clear h0 hb3 HNEW t0 t1 t2 t3 t4 t5 t6 t7 t8 t9
    go_wp2_with fail
    go_ret
    exact ⟨by simp, HFI.out⟩
  · obtain ⟨w4, hw4⟩ : ∃ w4, w4 = (((w3.alloc (.map #[] 0)).alloc (.map #[] 0)).alloc (.map #[] 0)).alloc (.cells #[.map (some w3.heap.size), .map (some (w3.heap.size + 1)), .map (some (w3.heap.size + 2)), .int .i64 0, .int .i64 0] 38) := ⟨_, rfl⟩
    have hb4 : Below w3.heap.size w3 w4 := by rw [hw4]; exact (((Below.refl _ _).alloc (Nat.le_refl _) _).alloc (by simp) _).alloc (by simp; omega) _ |>.alloc (by simp; omega) _
    have hW4 := WAt.made w3
    rw [← hw4] at hW4
    obtain ⟨md, hmd⟩ : ∃ md, w3.heap.size = md := ⟨_, rfl⟩
    rw [hmd] at hW4
    obtain ⟨mn, hmn⟩ : ∃ z, md + 1 = z := ⟨_, rfl⟩
    obtain ⟨mo, hmo⟩ : ∃ z, md + 2 = z := ⟨_, rfl⟩
    obtain ⟨B, hBe⟩ : ∃ z, md + 3 = z := ⟨_, rfl⟩
    rw [hmn, hmo, hBe] at hW4
    have hnw : ∀ k, OwnW B md mn mo k → w3.heap.size ≤ k := by rintro k (rfl | rfl | rfl | rfl) <;> omega
    have hok0 := new_ok HER.out HR.out
    have hvlt : ∀ k, own vb3 k → k < w3.heap.size := fun k hk => (hc3.fb k hk).1
    have hP3 : PairAt w0 F D (16 * n) L last K t vb3 (.slice none 0 0) (newP t L last) w3 := ⟨HS.out.next hb3, hc3, fun hk => by have := HS.out.bF K hk; omega, fun k hk => by simp [own, Value.ownBlock] at hk, fun k hk hF => by have := HS.out.bF k hF; have := hvb3 k hk; omega⟩
    have H4 := Lib.hid (show RulS w0 D K B md mn mo t vb3 0 (newP t L last) L last Wt.zero w4 from ⟨⟨⟨F, _, 16 * n, by omega, hP3.next hb4, fun k hk => ⟨fun e => by have := HS.out.bF k e; have := hb3.size; have := hnw k hk; omega, fun e => by simp [own, Value.ownBlock] at e⟩⟩, hW4, fun k hk => ⟨by have := hP3.below.size; have := hnw k hk; omega, fun e => by have := heap_lt hc3.cell; have := hnw k hk; omega, fun e => by have := hvlt k e; have := hnw k hk; omega⟩⟩, Rel.zero hok0.place.1, hok0, few_zero, fun q => Int.le_refl _⟩)
    have HSE := Lib.hid (show w3.heap.size = md ∧ w3.heap.size + 1 = mn ∧ w3.heap.size + 2 = mo ∧ w3.heap.size + 3 = B from by omega)
    have HOV := Lib.hid (show ∀ k, OwnW B md mn mo k → ¬ own (.slice avb t.back.length cvb) k from fun k hk e => by have := HVO.out k e; have := hnw k hk; have := hP3.below.size; omega)
    clear hb4 hW4 hnw hok0 hvlt hP3 hc3 hK3 hvb3 hb3 HNEW HS HR t0 t1 t2 t3 t4 t5 t6 t7 t8 t9 hmd hmn hmo hBe
    have hmm := @run_makeMap Tryd.prog
    go_upto_region 10 with fail
    clear hmm
    have e2 : w3.heap.size + 1 + 1 = w3.heap.size + 2 := rfl
    have e3 : w3.heap.size + 2 + 1 = w3.heap.size + 3 := rfl
    rw [e2, e3, ← hw4, HSE.out.2.2.2, HSE.out.2.2.1, HSE.out.2.1, HSE.out.1]
    clear e2 e3 hw4
    go_wp2_with fail
    go_loopw [46] (fun i wr => ∃ j : Nat, j ≤ m ∧ i = .int .i64 j ∧ Hid (∃ c L last W, RulS w0 D K B md mn mo t vb3 j c L last W wr)) (fun i _ => m - (intOf i).toNat)
    case atStart => exact ⟨0, Nat.zero_le _, rfl, Lib.hid ⟨_, _, _, _, H4.out⟩⟩
    case round =>
      obtain ⟨j, hj, rfl, HT⟩ := hrel
      clear H4
      obtain ⟨c, L, last, W, hs⟩ := HT.out
      obtain ⟨F, v, B', hB', hP, hap⟩ := hs.mem.pair
      have hbelow := hP.below
      clear HT
      by_cases hlt : j < m
      · have hltz : (j : Int) < m := by omega
        obtain ⟨x, hx⟩ : ∃ x, lt[j]? = some x := ⟨_, List.getElem?_eq_getElem (by rw [HM.out]; exact hlt)⟩
        obtain ⟨sx, hx2, dx, hpp⟩ := parts x.r
        obtain ⟨g, off, rfl, m0, m1, m2, m3, m4, m5, m6, m7, m8, m9, m10⟩ := (HLT.out.below (HB0.out.trans (hbelow.mono HB0.out.size))).at hx hpp
        have hfx := HFT.out x (List.mem_of_getElem? hx)
        obtain ⟨wa, hwa⟩ : ∃ wa, wa = wr.alloc (.cells #[.int .i64 x.kind, .int .i64 x.now, .int .i64 x.seq, .int .i64 x.sort, .int .i64 x.n, .int .i64 x.r.kind, .int .i64 x.r.seq, .int .i64 x.r.time, .string sx, .string hx2, .string dx] 44) := ⟨_, rfl⟩
        have hba : Below wr.heap.size wr wa := by rw [hwa]; exact (Below.refl _ _).alloc (Nat.le_refl _) _
        have hea : wa.heap[wr.heap.size]? = some (.cells #[.int .i64 x.kind, .int .i64 x.now, .int .i64 x.seq, .int .i64 x.sort, .int .i64 x.n, .int .i64 x.r.kind, .int .i64 x.r.seq, .int .i64 x.r.time, .string sx, .string hx2, .string dx] 44 (0, 0)) := by rw [hwa]; exact heap_alloc_new wr _
        obtain ⟨bx, hbx⟩ : ∃ bx, wr.heap.size = bx := ⟨_, rfl⟩
        rw [hbx] at hea
        have hrv : recV x.r = .agg #[.int .i64 x.r.kind, .int .i64 x.r.seq, .int .i64 x.r.time, .string sx, .string hx2, .string dx] := by unfold recV; rw [hpp.s1, hpp.h1, hpp.d1]
        have hbF : ¬ F bx ∧ ¬ (bx = K ∨ own v bx) ∧ ¬ OwnW B md mn mo bx := ⟨fun e => by have := hP.st.bF bx e; omega, fun e => by
          rcases e with e | e
          · have := heap_lt hP.con.cell; omega
          · have := hP.con.row.lt bx e; omega, fun e => by have := hs.mem.wat.lt bx e; omega⟩
        obtain ⟨I, hR⟩ := hP.st.right
        have HIN := Lib.hid (info_c (hP.next hba).con hs.ok (by omega))
        unfold infoV at HIN
        obtain ⟨fz, hfz⟩ : ∃ fz, floorP c = fz := ⟨_, rfl⟩
        rw [hfz] at HIN
        have HSA := Lib.hid (hs.next hba); have HPA := Lib.hid (hP.next hba); have HAP := Lib.hid hap; have HEA := Lib.hid hea; have HBX := Lib.hid hbx; have HBF := Lib.hid hbF; have HFX := Lib.hid hfx; have HRV := Lib.hid hrv; have HR := Lib.hid hR; have HFZ := Lib.hid hfz; have HBW := Lib.hid (hbelow.trans (hba.mono hbelow.size))
        clear hP hap hbelow hba hea hbx hbF hfx hrv hpp hs hR hfz hx
        go_upto_region 13 with fail
        rw [← hwa, HBX.out]
        clear hwa m0 m1 m2 m3 m4 m5 m6 m7 m8 m9 m10
        have hfd0 := fldI0
        go_wp2_with fail
        refine HIN.out.mono ?_
        rintro e wi ⟨rfl, hbi⟩
        have HSI := Lib.hid (HSA.out.next hbi); have HPI := Lib.hid (HPA.out.next hbi); have HEI := Lib.hid ((hbi.block bx (heap_lt HEA.out)).trans HEA.out); have HBWI := Lib.hid (HBW.out.trans (hbi.mono HBW.out.size))
        have HTI := Lib.hid ((HBWI.out.block bt (heap_lt HE0.out)).trans HE0.out)
        clear hbi HIN HSA HPA HEA HBW
        obtain ⟨q0, q1, q2, q3, q4, q5, q6, q7, q8, q9, q10⟩ := elevA HEI.out
        go_upto_region 14 with fail
        clear hfd0
        go_upto_block 2 with fail
        have hbl := heap_lt HEI.out
        obtain ⟨t0, t1, t2, t3, t4, t5, t6, t7, t8, t9, _⟩ := tenC HTI.out
        go_cut [14, 15] from 53 to 97 (fun _ _ wx => Hid (∃ c' L' last' W', RulS w0 D K B md mn mo t vb3 (j + 1) c' L' last' W' wx ∧ floorP c ≤ floorP c'))
        case first =>
          by_cases hk : x.kind = 0
          · have e0 : (x.kind == 0) = true := by rw [hk]; rfl
            obtain ⟨O, hO⟩ : ∃ O, nextP t L x.now c = O := ⟨_, rfl⟩
            obtain ⟨dl, hdl⟩ : ∃ dl, O.2.1 = dl := ⟨_, rfl⟩
            obtain ⟨en, hen⟩ : ∃ en, O.2.2 = en := ⟨_, rfl⟩
            obtain ⟨ds, hds9⟩ : ∃ ds : ByteArray, (⟨dl.subj.toArray⟩ : ByteArray) = ds := ⟨_, rfl⟩
            obtain ⟨dd, hddd⟩ : ∃ dd : ByteArray, (⟨dl.data.toArray⟩ : ByteArray) = dd := ⟨_, rfl⟩
            have hnx := next_c HPI.out HSI.out.ok (by omega) HML.out HER.out x.now
            unfold NextPost at hnx
            rw [hO, hdl, hen] at hnx
            have hdv : delV dl = .agg #[.int .i64 dl.seq, .string ds, .string dd, .int .i64 dl.count, .int .i64 dl.nth, .int .i64 dl.left] := by unfold delV; rw [hds9, hddd]
            rw [hdv] at hnx
            obtain ⟨hr0, hr1⟩ := HSI.out.rel.next (now := x.now) HER.out HR.out HSI.out.ok
            have hok2 := next_ok (now := x.now) HER.out HR.out HSI.out.ok
            have hfw2 := next_few (L := L) (now := x.now) HSI.out.few
            have hfl2 := next_floor (L := L) (now := x.now) HER.out HSI.out.ok
            have hnow : en = 0 → 0 ≤ x.now ∧ x.now ≤ far := fun e => next_now (t := t) (L := L) (c := c) (by rw [hO, hen]; exact e)
            rw [hO, hdl, hen] at hr0
            rw [hO, hen] at hr1
            rw [hO] at hok2 hfw2 hfl2
            have HNX := Lib.hid hnx; have HR0 := Lib.hid hr0; have HR1 := Lib.hid hr1; have HOK2 := Lib.hid hok2; have HFW2 := Lib.hid hfw2; have HFL2 := Lib.hid hfl2; have HDV := Lib.hid hdv; have HNOW := Lib.hid hnow
            clear hnx hO hdl hen hds9 hddd hk hr0 hr1 hok2 hfw2 hfl2 hdv hnow
            go_wp2_with fail
            refine HNX.out.mono ?_
            rintro e w2 ⟨rfl, h3⟩
            have hed : w2.heap[bx]? = some (.cells #[.int .i64 x.kind, .int .i64 x.now, .int .i64 x.seq, .int .i64 x.sort, .int .i64 x.n, .int .i64 x.r.kind, .int .i64 x.r.seq, .int .i64 x.r.time, .string sx, .string hx2, .string dx] 44 (0, 0)) := by obtain ⟨_, _, t3, _⟩ := h3; exact (t3.block bx hbl HBF.out.2.1).trans HEI.out
            have HM2 := Lib.hid (HSI.out.mem.con hB' HPI.out HAP.out h3)
            obtain ⟨w3, hw3⟩ : ∃ w3, w3 = w2.alloc (.cells #[.int .i64 dl.seq, .string ds, .string dd, .int .i64 dl.count, .int .i64 dl.nth, .int .i64 dl.left] 49) := ⟨_, rfl⟩
            have hb3 : Below w2.heap.size w2 w3 := by rw [hw3]; exact (Below.refl _ _).alloc (Nat.le_refl _) _
            have he3 : w3.heap[w2.heap.size]? = some (.cells #[.int .i64 dl.seq, .string ds, .string dd, .int .i64 dl.count, .int .i64 dl.nth, .int .i64 dl.left] 49 (0, 0)) := by rw [hw3]; exact heap_alloc_new w2 _
            obtain ⟨b3, hbx3⟩ : ∃ b3, w2.heap.size = b3 := ⟨_, rfl⟩
            rw [hbx3] at he3
            have HM3 := Lib.hid (HM2.out.next hb3)
            have HED3 := Lib.hid ((hb3.block bx (heap_lt hed)).trans hed)
            have HE3 := Lib.hid he3; have HBX3 := Lib.hid hbx3
            have HT3 := Lib.hid ((HM3.out.below.block bt (heap_lt HE0.out)).trans HE0.out)
            clear h3 hed hb3 he3 hbx3 HNX HM2 q0 q1 q2 q3 q4 q5 q6 q7 q8 q9 q10 hbl t0 t1 t2 t3 t4 t5 t6 t7 t8 t9
            obtain ⟨_, q1, _, _, _, _, _, _, _, _, _⟩ := elevA HED3.out
            obtain ⟨t0, t1, t2, t3, t4, t5, t6, t7, t8, t9, _⟩ := tenC HT3.out
            obtain ⟨y0, y1, y2, y3, y4, y5⟩ := sixC HE3.out
            go_upto_region 17 with fail
            rw [← hw3, HBX3.out]
            clear hw3
            by_cases hen : en = 0
            · have hen0 : ((en : Int) == 0) = true := by simp [hen]
              obtain ⟨htold, hrel⟩ := HR0.out hen
              obtain ⟨hmr, hsl, hq⟩ := told_facts htold HR.out HER.out
              obtain ⟨F3, v3, B3, hB3, hP3, hap3⟩ := HM3.out.pair
              have hcnt := HSI.out.rel.count
              have hokc := HSI.out.ok.count
              have hnn := HSI.out.rel.nn dl.seq
              have hnb := HSI.out.nb dl.seq
              have hdel := delivered_any hP3.st HML.out HM3.out.wat (fun k hk => ⟨(HM3.out.apart k hk).1, (hap3 k hk).1, HOV.out k hk⟩) (HBK.out.below HM3.out.below) (by have := (errT_facts HER.out).2.2.1; omega) HFLs.out (by omega) (by omega) dl x.now htold hmr hsl hq (HNOW.out hen) (by omega) (by have := htold.nth; omega) (wait_range HER.out _)
              rw [HTV.out, HDV.out] at hdel
              have HDEL := Lib.hid hdel; have HREL := Lib.hid hrel
              clear hen htold hrel hmr hsl hq hP3 hap3 hcnt hokc hnn hnb hdel
              go_wp2_with fail
              refine HDEL.out.mono ?_
              rintro e w5 ⟨rfl, hW5, ht5⟩
              have HFI := Lib.hid (show ∃ c' L' last' W', RulS w0 D K B md mn mo t vb3 (j + 1) c' L' last' W' w5 ∧ floorP c ≤ floorP c' from ⟨_, _, _, _, ⟨(HM3.out.watch hW5 ht5).more (by omega) (by omega) (Nat.le_refl _), HREL.out, HOK2.out, HFW2.out, fun q => by
                unfold delW
                simp only [upd]
                have h1 := HSI.out.nb q
                have h2 := HSI.out.nb dl.seq
                split <;> omega⟩, HFL2.out⟩)
              clear hW5 ht5 HDEL q1 t0 t1 t2 t3 t4 t5 t6 t7 t8 t9 y0 y1 y2 y3 y4 y5
              go_wp2_with fail
              go_meet
              exact HFI
            · have hen0 : ((en : Int) == 0) = false := by simpa using hen
              have HFI := Lib.hid (show ∃ c' L' last' W', RulS w0 D K B md mn mo t vb3 (j + 1) c' L' last' W' w3 ∧ floorP c ≤ floorP c' from ⟨_, _, _, _, ⟨HM3.out.more (by omega) (by omega) (by omega), HR1.out hen, HOK2.out, HFW2.out, fun q => by have := HSI.out.nb q; omega⟩, HFL2.out⟩)
              clear hen q1 t0 t1 t2 t3 t4 t5 t6 t7 t8 t9 y0 y1 y2 y3 y4 y5
              go_wp2_with fail
              go_meet
              exact HFI
          · have e0 : (x.kind == 0) = false := by simpa using hk
            have hk0 := hk
            clear hk
            by_cases hk1 : x.kind = 1
            · have e1 : (x.kind == 1) = true := by rw [hk1]; rfl
              obtain ⟨O, hO⟩ : ∃ O, answerP t x.now x.seq x.sort x.n c = O := ⟨_, rfl⟩
              obtain ⟨en, hen⟩ : ∃ en, O.2 = en := ⟨_, rfl⟩
              have has_ := answer_c HPI.out.con HSI.out.ok (by omega) HER.out x.now x.seq x.sort x.n HFX.out.2
              unfold AnswerPost at has_
              rw [hO, hen] at has_
              obtain ⟨hr0, hr1⟩ := HSI.out.rel.answer (now := x.now) HSI.out.ok x.seq x.sort x.n
              have hok2 := (answer_ok HER.out HSI.out.ok x.now x.seq x.sort x.n).mono (m := j + 1) (by omega)
              have hfw2 := answer_few (now := x.now) HSI.out.few x.seq x.sort x.n
              have hfl2 := answer_floor (t := t) (now := x.now) HSI.out.ok x.seq x.sort x.n
              have hin : en = 0 → _ := fun e => answer_in (t := t) (now := x.now) (seq := x.seq) (sort := x.sort) (n := x.n) (c := c) (by rw [hO, hen]; exact e)
              rw [hO, hen] at hr0 hr1
              rw [hO] at hok2 hfw2 hfl2
              have HAS := Lib.hid has_; have HR0 := Lib.hid hr0; have HR1 := Lib.hid hr1; have HOK2 := Lib.hid hok2; have HFW2 := Lib.hid hfw2; have HFL2 := Lib.hid hfl2; have HIN := Lib.hid hin
              clear has_ hO hen hk0 hk1 hr0 hr1 hok2 hfw2 hfl2 hin
              go_wp2_with fail
              refine HAS.out.mono ?_
              rintro e w2 ⟨rfl, h3⟩
              have hed : w2.heap[bx]? = some (.cells #[.int .i64 x.kind, .int .i64 x.now, .int .i64 x.seq, .int .i64 x.sort, .int .i64 x.n, .int .i64 x.r.kind, .int .i64 x.r.seq, .int .i64 x.r.time, .string sx, .string hx2, .string dx] 44 (0, 0)) := by obtain ⟨_, _, t3, _⟩ := h3; exact (t3.block bx hbl HBF.out.2.1).trans HEI.out
              have HM2 := Lib.hid (HSI.out.mem.con hB' HPI.out HAP.out h3)
              have HED2 := Lib.hid hed
              have HT2 := Lib.hid ((HM2.out.below.block bt (heap_lt HE0.out)).trans HE0.out)
              clear h3 hed q0 q1 q2 q3 q4 q5 q6 q7 q8 q9 q10 hbl t0 t1 t2 t3 t4 t5 t6 t7 t8 t9 HAS
              obtain ⟨q0, q1, q2, q3, q4, q5, q6, q7, q8, q9, q10⟩ := elevA HED2.out
              obtain ⟨t0, t1, t2, t3, t4, t5, t6, t7, t8, t9, _⟩ := tenC HT2.out
              by_cases hen : en = 0
              · have hen0 : ((en : Int) == 0) = true := by simp [hen]
                obtain ⟨g1, g2, g3⟩ := HIN.out hen
                have HREL := Lib.hid (HR0.out hen)
                have hans := answered_any HM2.out.wat (by omega) (HBK.out.below HM2.out.below) (by have := (errT_facts HER.out).2.2.1; omega) (fun k hk => HOV.out k hk) x (sx := sx) (hx := hx2) (dx := dx) HFX.out.2 g1 g3 (wait_range HER.out _) g2
                rw [HTV.out] at hans
                have HANS := Lib.hid hans
                clear hen g1 g2 g3 hans
                go_wp2_with fail
                refine HANS.out.mono ?_
                rintro e w5 ⟨rfl, hW5, ht5⟩
                have HFI := Lib.hid (show ∃ c' L' last' W', RulS w0 D K B md mn mo t vb3 (j + 1) c' L' last' W' w5 ∧ floorP c ≤ floorP c' from ⟨_, _, _, _, ⟨(HM2.out.watch hW5 ht5).more (by omega) (by omega) (by omega), HREL.out, HOK2.out, HFW2.out, fun q => by
                  rw [ansW_nth]
                  have h1 := HSI.out.nb q
                  omega⟩, HFL2.out⟩)
                clear hW5 ht5 HANS q0 q1 q2 q3 q4 q5 q6 q7 q8 q9 q10 t0 t1 t2 t3 t4 t5 t6 t7 t8 t9
                go_wp2_with fail
                go_meet
                exact HFI
              · have hen0 : ((en : Int) == 0) = false := by simpa using hen
                have HFI := Lib.hid (show ∃ c' L' last' W', RulS w0 D K B md mn mo t vb3 (j + 1) c' L' last' W' w2 ∧ floorP c ≤ floorP c' from ⟨_, _, _, _, ⟨HM2.out.more (by omega) (by omega) (by omega), by rw [HR1.out hen]; exact HSI.out.rel, HOK2.out, HFW2.out, fun q => by have := HSI.out.nb q; omega⟩, HFL2.out⟩)
                clear hen q0 q1 q2 q3 q4 q5 q6 q7 q8 q9 q10 t0 t1 t2 t3 t4 t5 t6 t7 t8 t9
                go_wp2_with fail
                go_meet
                exact HFI
            · have e1 : (x.kind == 1) = false := by simpa using hk1
              by_cases hk2 : x.kind = 2
              · have e2 : (x.kind == 2) = true := by rw [hk2]; rfl
                have has_ := apply_any HPI.out.st (by omega) HML.out x.r HFX.out.1
                unfold ApplyPost at has_
                simp only [HRV.out] at has_
                obtain ⟨T, hT⟩ : ∃ T, tryD L last x.r = T := ⟨_, rfl⟩
                rw [hT] at has_
                have hmo := after_more HR.out.top x.r
                have HAS := Lib.hid has_; have HMO := Lib.hid hmo
                clear has_ hT hmo hk0 hk1 hk2
                go_wp2_with fail
                refine HAS.out.mono ?_
                rintro e w2 ⟨rfl, h3⟩
                have hM2 := (HSI.out.mem.more (Bs' := 16 * (60 + (j + 1))) (N' := 100 * (j + 1)) (n' := j + 1) (by omega) (by omega) (by omega)).store (B2 := B' + 16) (by omega) HPI.out HAP.out h3
                have HFI := Lib.hid (show ∃ c' L' last' W', RulS w0 D K B md mn mo t vb3 (j + 1) c' L' last' W' w2 ∧ floorP c ≤ floorP c' from ⟨_, _, _, _, ⟨hM2, by
                  obtain ⟨F4, v4, B4, _, hP4, _⟩ := hM2.pair
                  obtain ⟨I4, hR4⟩ := hP4.st.right
                  exact HSI.out.rel.more hR4.rise HR.out.rise HMO.out.1 HMO.out.2, HSI.out.ok.mono (by omega), HSI.out.few, fun q => by have := HSI.out.nb q; omega⟩, Int.le_refl _⟩)
                clear h3 hM2 HAS q0 q1 q2 q3 q4 q5 q6 q7 q8 q9 q10 hbl t0 t1 t2 t3 t4 t5 t6 t7 t8 t9
                go_wp2_with fail
                go_meet
                exact HFI
              · have e2 : (x.kind == 2) = false := by simpa using hk2
                have HFI := Lib.hid (show ∃ c' L' last' W', RulS w0 D K B md mn mo t vb3 (j + 1) c' L' last' W' wi ∧ floorP c ≤ floorP c' from ⟨_, _, _, _, ⟨HSI.out.mem.more (by omega) (by omega) (by omega), HSI.out.rel, HSI.out.ok.mono (by omega), HSI.out.few, fun q => by have := HSI.out.nb q; omega⟩, Int.le_refl _⟩)
                clear hk0 hk1 hk2
                go_wp2_with fail
                go_meet
                exact HFI
        case rest =>
        obtain ⟨c', L', last', W', hs', hfl'⟩ := hcut.out
        clear hcut q0 q1 q2 q3 q4 q5 q6 q7 q8 q9 q10 hbl t0 t1 t2 t3 t4 t5 t6 t7 t8 t9
        obtain ⟨F', v', B2, hB2, hP', hap'⟩ := hs'.mem.pair
        have hin := info_c hP'.con hs'.ok (by omega)
        unfold infoV at hin
        have hcnt := hs'.rel.count
        have hfp := floor_place hs'.ok
        have hfw := hs'.few
        unfold Few at hfw
        obtain ⟨fz2, hfz2⟩ : ∃ z, floorP c' = z := ⟨_, rfl⟩
        obtain ⟨pz, hpz⟩ : ∃ z, c'.place - 1 = z := ⟨_, rfl⟩
        obtain ⟨cz, hcz⟩ : ∃ z, c'.count = z := ⟨_, rfl⟩
        obtain ⟨lz, hlz⟩ : ∃ z : Int, ((c'.l.length : Nat) : Int) = z := ⟨_, rfl⟩
        rw [hfz2, hpz, hcz, hlz] at hin
        rw [hfz2, hpz] at hfp
        rw [hlz] at hfw
        rw [hcz] at hcnt
        rw [HFZ.out, hfz2] at hfl'
        have HIN2 := Lib.hid hin; have HSC := Lib.hid hs'; have HFW := Lib.hid hfw; have HCNT := Lib.hid hcnt
        clear hin hs' hfw hcnt hfz2 hpz hcz hlz hP' hap' hB2
        go_wp2_with fail
        refine HIN2.out.mono ?_
        rintro e w6 ⟨rfl, hb6⟩
        obtain ⟨w7, hw7⟩ : ∃ w7, w7 = w6.alloc (.cells #[.int .i64 fz2, .int .i64 pz, .int .i64 cz, .int .i64 lz] 46) := ⟨_, rfl⟩
        have hb7 : Below w6.heap.size w6 w7 := by rw [hw7]; exact (Below.refl _ _).alloc (Nat.le_refl _) _
        have he7 : w7.heap[w6.heap.size]? = some (.cells #[.int .i64 fz2, .int .i64 pz, .int .i64 cz, .int .i64 lz] 46 (0, 0)) := by rw [hw7]; exact heap_alloc_new w6 _
        obtain ⟨b7, hbx7⟩ : ∃ b7, w6.heap.size = b7 := ⟨_, rfl⟩
        rw [hbx7] at he7
        have hS7 := HSC.out.next (hb6.trans (hb7.mono hb6.size))
        have hS7d := hS7.next ((Below.refl _ w7).drew)
        have HS7D := Lib.hid hS7
        have htd := (hS7d.mem.below.block bt (heap_lt HE0.out)).trans HE0.out
        have ht7 := (hS7.mem.below.block bt (heap_lt HE0.out)).trans HE0.out
        have he7d := (((Below.refl _ w7).drew).block b7 (heap_lt he7)).trans he7
        have HQ := Lib.hid (show (w7.cell? ⟨bt, 8, none⟩ = some (.int .i64 t.pend) ∧ w7.cell? ⟨b7, 0, none⟩ = some (.int .i64 fz2) ∧ w7.cell? ⟨b7, 1, none⟩ = some (.int .i64 pz) ∧ w7.cell? ⟨b7, 2, none⟩ = some (.int .i64 cz) ∧ w7.cell? ⟨b7, 3, none⟩ = some (.int .i64 lz) ∧ w7.cell? ⟨B, 4, none⟩ = some (.int .i64 cz)) ∧ (w7.drew.cell? ⟨bt, 8, none⟩ = some (.int .i64 t.pend) ∧ w7.drew.cell? ⟨b7, 0, none⟩ = some (.int .i64 fz2) ∧ w7.drew.cell? ⟨b7, 1, none⟩ = some (.int .i64 pz) ∧ w7.drew.cell? ⟨b7, 2, none⟩ = some (.int .i64 cz) ∧ w7.drew.cell? ⟨b7, 3, none⟩ = some (.int .i64 lz) ∧ w7.drew.cell? ⟨B, 4, none⟩ = some (.int .i64 cz)) from by
          obtain ⟨_, _, _, _, _, _, _, _, p8, _, _⟩ := tenC ht7
          obtain ⟨_, _, _, _, _, _, _, _, r8, _, _⟩ := tenC htd
          obtain ⟨i0, i1, i2, i3, _⟩ := fourS he7
          obtain ⟨j0, j1, j2, j3, _⟩ := fourS he7d
          obtain ⟨_, _, _, _, c4, _⟩ := fiveC hS7.mem.wat.cells
          obtain ⟨_, _, _, _, d4, _⟩ := fiveC hS7d.mem.wat.cells
          rw [HCNT.out] at c4 d4
          exact ⟨⟨p8, i0, i1, i2, i3, c4⟩, ⟨r8, j0, j1, j2, j3, d4⟩⟩)
        have HBX7 := Lib.hid hbx7
        clear hb6 hb7 he7 hbx7 hS7 hS7d htd ht7 he7d HIN2
        go_upto_region 25 with fail
        rw [← hw7, HBX7.out]
        clear hw7
        have n2 : decide (fz2 < fz) = false := decide_eq_false (by omega)
        have n3 : decide (pz < fz2) = false := decide_eq_false (by omega)
        have n4 : (cz != cz) = false := by simp
        go_cut [131] from 100 to 131 (fun s131 wx => s131 = .bool false ∧ Hid (Below w7.heap.size w7 wx))
        case first =>
          by_cases hpe : 0 < t.pend
          · have n0 : decide (0 < t.pend) = true := decide_eq_true hpe
            have n1 : decide (t.pend < lz) = false := decide_eq_false (by have := HFW.out hpe; omega)
            go_region_held3 (fun w' => w'.cell? ⟨bt, 8, none⟩ = some (.int .i64 t.pend) ∧ w'.cell? ⟨b7, 0, none⟩ = some (.int .i64 fz2) ∧ w'.cell? ⟨b7, 1, none⟩ = some (.int .i64 pz) ∧ w'.cell? ⟨b7, 2, none⟩ = some (.int .i64 cz) ∧ w'.cell? ⟨b7, 3, none⟩ = some (.int .i64 lz) ∧ w'.cell? ⟨B, 4, none⟩ = some (.int .i64 cz)) (first | (with_reducible exact HQ.out.1) | (with_reducible exact HQ.out.2) | go_keep) (fail)
            go_wp2_with fail
            go_meet
            exact ⟨by simp, Lib.hid ((Below.refl _ _).drew)⟩
          · have n0 : decide (0 < t.pend) = false := decide_eq_false hpe
            clear hpe
            obtain ⟨p8, i0, i1, i2, i3, c4⟩ := HQ.out.1
            go_quiet (fail)
            go_wp2_with fail
            go_meet
            exact ⟨by simp, Lib.hid (below_drewN (Below.refl _ _) _)⟩
        case rest =>
        obtain ⟨rfl, hbq⟩ := hcut
        clear n2 n3 n4
        go_wp2_with fail
        exact ⟨⟨j + 1, by omega, by go_num, Lib.hid ⟨_, _, _, _, HS7D.out.next hbq.out⟩⟩, by simp [intOf]; omega⟩
      · have hltz : ¬ (j : Int) < m := by omega
        have HFI := Lib.hid (HB0.out.trans (hbelow.mono HB0.out.size))
        clear hs hP hap hbelow hB'
        go_wp2_with fail
        go_ret
        exact ⟨rfl, HFI.out⟩
end
end Go.Proofs.YtapmhpnkpjgefaaDoor.Con
