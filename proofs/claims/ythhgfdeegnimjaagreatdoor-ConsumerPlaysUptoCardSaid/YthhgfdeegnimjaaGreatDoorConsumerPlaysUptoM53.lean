/- Parts of the proof, joined: The law ConsumerPlays, walked: it returns true.; ConsumerPlays, from what it is handed. -/
import Derived.Test.YthhgfdeegnimjaaGreatDoorConsumerPlaysUptoM24
import Derived.Test.YthhgfdeegnimjaaGreatDoorConsumerPlaysUptoM31
import Derived.Test.YthhgfdeegnimjaaGreatDoorConsumerPlaysUptoM34
import Derived.Test.YthhgfdeegnimjaaGreatDoorConsumerPlaysUptoM36
import Derived.Test.YthhgfdeegnimjaaGreatDoorConsumerPlaysUptoM42
import Derived.Test.YthhgfdeegnimjaaGreatDoorConsumerPlaysUptoM44
import Derived.Test.YthhgfdeegnimjaaGreatDoorConsumerPlaysUptoM49
import Derived.Test.YthhgfdeegnimjaaGreatDoorConsumerPlaysUptoM50
import Derived.Deep.CutBlock
import Derived.OpenShut
import Derived.ChangeMaps5
namespace Go.Proofs.YthhgfdeegnimjaaGreatDoor.Hnd
open Go.RowKit Heap Con
open Subj (Tok TakerP ML errT errT_facts Ints)
open Sto (StoreAt ChAt Right seekR tk RecsAt Fits recC recV sixC parts runS after new_store apply_any apply_ch BothAt Two runS_step tryD ApplyPost dist dist_runS)
open Rec (Rc far)
open Idx (Ents)

/-- After some turns: the state in plain Lean. -/
def PlayS (w0 : World) (D C K KH : Nat) (t : TakerP) (vb vb2 : Value) (B : Nat) (s : Cn × List Rc × Int) (j : Nat) (wr : World) : Prop :=
  (∃ F vC v vh B', B' ≤ B ∧ PlayAt w0 F D B' C vC K KH t vb vb2 v vh s.2.1 s.2.2 s.1 s.2.1 s.2.2 s.1 wr) ∧ Ok j s.1 ∧ dist s.2.1 ≤ 100

theorem turns_step {t : TakerP} {s0 : Cn × List Rc × Int} {l : List Tn} {k : Nat} {x : Tn} (h : l[k]? = some x) : (l.take (k + 1)).foldl (turnP t) s0 = turnP t ((l.take k).foldl (turnP t) s0) x := by
  obtain ⟨hk, e⟩ := List.getElem?_eq_some_iff.1 h
  rw [List.take_succ_eq_append_getElem hk, e, List.foldl_append]
  rfl

/-- A turn in its box. -/
theorem elevenC {w : World} {bx : Nat} {a0 a1 a2 a3 a4 a5 a6 a7 a8 a9 a10 : Value} {ty : TypeId} (h : w.heap[bx]? = some (.cells #[a0, a1, a2, a3, a4, a5, a6, a7, a8, a9, a10] ty (0, 0))) : w.cell? ⟨bx, 0, none⟩ = some a0 ∧ w.cell? ⟨bx, 1, none⟩ = some a1 ∧ w.cell? ⟨bx, 2, none⟩ = some a2 ∧ w.cell? ⟨bx, 3, none⟩ = some a3 ∧ w.cell? ⟨bx, 4, none⟩ = some a4 ∧ w.cell? ⟨bx, 5, none⟩ = some a5 ∧ w.cell? ⟨bx, 6, none⟩ = some a6 ∧ w.cell? ⟨bx, 7, none⟩ = some a7 ∧ w.cell? ⟨bx, 8, none⟩ = some a8 ∧ w.cell? ⟨bx, 9, none⟩ = some a9 ∧ w.cell? ⟨bx, 10, none⟩ = some a10 := by
  refine ⟨?_, ?_, ?_, ?_, ?_, ?_, ?_, ?_, ?_, ?_, ?_⟩ <;> (rw [cell_of_row w bx _ _ _ _ h]; rfl)

theorem PlayS.next {w0 w w1 : World} {D C K KH : Nat} {t : TakerP} {vb vb2 : Value} {B : Nat} {s : Cn × List Rc × Int} {j : Nat} (h : PlayS w0 D C K KH t vb vb2 B s j w) (hb : Below w.heap.size w w1) : PlayS w0 D C K KH t vb vb2 B s j w1 := by
  obtain ⟨⟨F, vC, v, vh, B', h1, h2⟩, h3, h4⟩ := h
  exact ⟨⟨F, vC, v, vh, B', h1, h2.next hb⟩, h3, h4⟩

section
variable {w : World}

set_option maxHeartbeats 8000000 in
set_option maxRecDepth 100000 in
theorem consumerPlays_walk (hm : ML w) (t : TakerP) {vb : Value} (hB : Ints w vb t.back) (hvo : ∀ k, own vb k → k < w.heap.size) (hnm : t.name.length ≤ 1048576) (hfl : t.filt.length ≤ 1048576) {v : Value} {l : List Rc} (hl : RecsAt w v l) (hf : ∀ r ∈ l, Fits r) {vt : Value} {lt : List Tn} (ht : TurnsAt w vt lt) (hft : ∀ x ∈ lt, FitsT x) :
    Calls Tryz.prog 3 #[takerV t vb, v, vt] w fun e w' => e = .returned (.bool true) ∧ Below w.heap.size w w' := by
  have hfar : far = 1099511627776 := rfl
  obtain ⟨n, hnL⟩ : ∃ n, l.length = n := ⟨_, rfl⟩
  obtain ⟨m, hmL⟩ : ∃ m, lt.length = m := ⟨_, rfl⟩
  have HN := Lib.hid hnL; have HM := Lib.hid hmL
  obtain ⟨ao, cap, rfl, ha⟩ := hl
  have HL := Lib.hid (show RecsAt w (.slice ao l.length cap) l from ⟨ao, cap, rfl, ha⟩); have HF := Lib.hid hf
  rw [hnL] at HL ⊢
  obtain ⟨at_, capt, rfl, hat⟩ := ht
  have HLT := Lib.hid (show TurnsAt w (.slice at_ lt.length capt) lt from ⟨at_, capt, rfl, hat⟩); have HFT := Lib.hid hft
  rw [hmL] at HLT ⊢
  obtain ⟨nm, hnme⟩ : ∃ nm : ByteArray, (⟨t.name.toArray⟩ : ByteArray) = nm := ⟨_, rfl⟩
  obtain ⟨fl, hfle⟩ : ∃ fl : ByteArray, (⟨t.filt.toArray⟩ : ByteArray) = fl := ⟨_, rfl⟩
  unfold takerV
  rw [hnme, hfle]
  obtain ⟨avb, cvb, hvb, hcvb, hatb⟩ := hB
  have hB : Ints w vb t.back := ⟨avb, cvb, hvb, hcvb, hatb⟩
  subst hvb
  obtain ⟨w0, hw0⟩ : ∃ w0, w0 = w.alloc (.cells #[.string nm, .string fl, .int .i64 t.src, .int .i64 t.start, .int .i64 t.ack, .int .i64 t.wait, .slice avb t.back.length cvb, .int .i64 t.most, .int .i64 t.pend, .bool t.push] 24) := ⟨_, rfl⟩
  have hb0 : Below w.heap.size w w0 := by rw [hw0]; exact (Below.refl _ _).alloc (Nat.le_refl _) _
  have he0 : w0.heap[w.heap.size]? = some (.cells #[.string nm, .string fl, .int .i64 t.src, .int .i64 t.start, .int .i64 t.ack, .int .i64 t.wait, .slice avb t.back.length cvb, .int .i64 t.most, .int .i64 t.pend, .bool t.push] 24 (0, 0)) := by rw [hw0]; exact heap_alloc_new w _
  obtain ⟨bt, hbt⟩ : ∃ bt, w.heap.size = bt := ⟨_, rfl⟩
  rw [hbt] at he0
  have HB0 := Lib.hid hb0; have HE0 := Lib.hid he0; have HBT := Lib.hid hbt; have HNM := Lib.hid hnme; have HFL := Lib.hid hfle
  have HVO := Lib.hid hvo; have HML := Lib.hid (hm.below hb0); have HBK := Lib.hid (hB.below hb0); have HNMs := Lib.hid hnm; have HFLs := Lib.hid hfl
  have HNEW := Lib.hid (new_store (W := w0) (w := w0) (Below.refl _ _))
  obtain ⟨D, hD⟩ : ∃ D, w0.heap.size + 1 = D := ⟨_, rfl⟩
  rw [hD] at HNEW
  have HD := Lib.hid hD
  have HNM2 := Lib.hid (show nm.data.toList = t.name by rw [← hnme]); have HFL2 := Lib.hid (show fl.data.toList = t.filt by rw [← hfle])
  have HSZ := Lib.hid (show nm.size ≤ maxLen ∧ fl.size ≤ 1048576 from ⟨by rw [← hnme]; show t.name.toArray.size ≤ _; unfold maxLen; simp; omega, by rw [← hfle]; show t.filt.toArray.size ≤ _; simpa using hfl⟩)
  clear ha hf hm hvo hnL hnme hfle hB hcvb hatb hb0 he0 hbt hnm hfl hat hft hmL hD
  go_enter Tryz.func3, Tryz.ntmps3
  go_upto_region 1 with fail
  rw [← hw0, HBT.out]
  clear hw0
  by_cases h60 : 60 < n ∨ 80 < m
  · rcases (show 60 < n ∨ (¬ 60 < n ∧ 80 < m) from by omega) with h1 | ⟨h1, h2⟩
    · have h1z : (60 : Int) < n := by omega
      clear h60
      go_wp2_with fail
      go_ret
      exact ⟨rfl, HB0.out⟩
    · have h1z : ¬ (60 : Int) < n := by omega
      have h2z : (80 : Int) < m := by omega
      clear h60
      go_wp2_with fail
      go_ret
      exact ⟨rfl, HB0.out⟩
  have h1z : ¬ (60 : Int) < n := by omega
  have h2z : ¬ (80 : Int) < m := by omega
  have hn60 : n ≤ 60 := by omega
  have hm80 : m ≤ 80 := by omega
  clear h60
  go_wp2_with fail
  refine HNEW.out.mono ?_
  rintro e w1 ⟨rfl, hs1, hb1⟩
  obtain ⟨w2, hw2⟩ : ∃ w2, w2 = w1.alloc (.cells #[.slice none 0 0, .int .i64 0] 31) := ⟨_, rfl⟩
  have hb2 : Below w1.heap.size w1 w2 := by rw [hw2]; exact (Below.refl _ _).alloc (Nat.le_refl _) _
  have hc2 : w2.heap[w1.heap.size]? = some (.cells #[.slice none 0 0, .int .i64 0] 31 (0, 0)) := by rw [hw2]; exact heap_alloc_new w1 _
  obtain ⟨C, hC⟩ : ∃ C, w1.heap.size = C := ⟨_, rfl⟩
  have H0 := Lib.hid (show Two w0 D C (16 * 0) (runS (l.take 0)).1 (runS (l.take 0)).2 w2 from by
    refine ⟨_, .slice none 0 0, ⟨hs1.next hb2, ⟨hC ▸ hc2, Row.nil _ _ _, by rw [← hC]; exact hb1.size, fun k hk => by simp [own, Value.ownBlock] at hk, (hb1.trans (hb2.mono hb1.size))⟩, fun hk => by have := hs1.bF C hk; omega, fun k hk => by simp [own, Value.ownBlock] at hk⟩⟩)
  have HC := Lib.hid hC
  clear hs1 hb1 hb2 hc2 hC HNEW h1z h2z
  go_upto_region 4 with fail
  rw [← hw2, HC.out]
  clear hw2
  go_wp2_with fail
  go_loopw [35] (fun i wr => ∃ k : Nat, k ≤ n ∧ i = .int .i64 k ∧ Hid (Two w0 D C (16 * k) (runS (l.take k)).1 (runS (l.take k)).2 wr)) (fun i _ => n - (intOf i).toNat)
  case atStart => exact ⟨0, Nat.zero_le _, rfl, H0⟩
  case round =>
    obtain ⟨k, hk, rfl, HT⟩ := hrel
    clear H0
    obtain ⟨F, vc, hB⟩ := HT.out
    have hds := dist_runS (l.take k)
    by_cases hlt : k < n
    · have hltz : (k : Int) < n := by omega
      obtain ⟨p, hp⟩ : ∃ p, l[k]? = some p := ⟨_, List.getElem?_eq_getElem (by rw [HN.out]; exact hlt)⟩
      have hst := runS_step hp
      obtain ⟨L, hLe⟩ : ∃ L, (runS (l.take k)).1 = L := ⟨_, rfl⟩
      obtain ⟨last, hlaste⟩ : ∃ last, (runS (l.take k)).2 = last := ⟨_, rfl⟩
      rw [hLe, hlaste] at hst
      rw [hLe, hlaste] at hB
      rw [hLe] at hds
      obtain ⟨ao', cap', hv, ha⟩ := HL.out.below (HB0.out.trans (hB.below.mono HB0.out.size)) (Nat.le_refl _)
      simp only [Value.slice.injEq] at hv
      obtain ⟨rfl, hv0, rfl⟩ := hv
      clear hv0
      obtain ⟨g, off, rfl, hcs⟩ := ha (fun e => by rw [e] at hp; simp at hp)
      obtain ⟨m0, m1, m2, m3, m4, m5⟩ := hcs k p hp
      have hfp := HF.out p (List.mem_of_getElem? hp)
      obtain ⟨s, h, d, hpp⟩ := parts p
      have hrv : recV p = .agg #[.int .i64 p.kind, .int .i64 p.seq, .int .i64 p.time, .string s, .string h, .string d] := by unfold recV; rw [hpp.s1, hpp.h1, hpp.d1]
      rw [hpp.s1] at m3
      rw [hpp.h1] at m4
      rw [hpp.d1] at m5
      obtain ⟨wa, hwa⟩ : ∃ wa, wa = wr.alloc (.cells #[.int .i64 p.kind, .int .i64 p.seq, .int .i64 p.time, .string s, .string h, .string d] 33) := ⟨_, rfl⟩
      have hba : Below wr.heap.size wr wa := by rw [hwa]; exact (Below.refl _ _).alloc (Nat.le_refl _) _
      have hea : wa.heap[wr.heap.size]? = some (.cells #[.int .i64 p.kind, .int .i64 p.seq, .int .i64 p.time, .string s, .string h, .string d] 33 (0, 0)) := by rw [hwa]; exact heap_alloc_new wr _
      obtain ⟨bx, hbx⟩ : ∃ bx, wr.heap.size = bx := ⟨_, rfl⟩
      rw [hbx] at hea
      obtain ⟨T, hT⟩ : ∃ T, tryD L last p = T := ⟨_, rfl⟩
      obtain ⟨I, hR⟩ := hB.st.right
      have hbF : ¬ F bx ∧ bx ≠ C ∧ ¬ own vc bx := ⟨fun h => by have := hB.st.bF bx h; omega, fun h => by have := heap_lt hB.ch.cell; omega, fun h => by have := hB.ch.row.lt bx h; omega⟩
      have hBa := hB.next hba
      have has_ := fun w' (hb : Below wa.heap.size wa w') => apply_any (hBa.next hb).st (by omega) HML.out p hfp
      unfold ApplyPost at has_
      rw [hT] at has_
      have hac := fun (w' : World) (v' : Value) (hb : ChAt w0 C v' L last w') => apply_ch hb hR hds p hfp
      rw [hT] at hac
      simp only [hrv] at has_ hac
      obtain ⟨q0, q1, q2, q3, q4, q5⟩ := sixC hea
      have hbxl := heap_lt hea
      have HAS := Lib.hid has_; have HAC := Lib.hid hac; have HBA := Lib.hid hBa; have HEA := Lib.hid hea; have HBX := Lib.hid hbx; have HST := Lib.hid hst; have HBF := Lib.hid hbF; have HP := Lib.hid hp
      clear ha hcs hp hst hLe hlaste hfp hrv hpp hba hea hbx hT hR hbF hBa has_ hac hB HT hds
      go_upto_region 7 with fail
      rw [← hwa, HBX.out]
      clear hwa m0 m1 m2 m3 m4 m5
      have hbd : Below wa.heap.size wa wa.drew := (Below.refl _ _).drew
      have heb := (hbd.block bx hbxl).trans HEA.out
      obtain ⟨q0, q1, q2, q3, q4, q5⟩ := sixC heb
      go_wp2_with fail
      go_region_held3 (fun w' => w'.cell? ⟨bx, 0, none⟩ = some (.int .i64 p.kind) ∧ w'.cell? ⟨bx, 1, none⟩ = some (.int .i64 p.seq) ∧ w'.cell? ⟨bx, 2, none⟩ = some (.int .i64 p.time) ∧ w'.cell? ⟨bx, 3, none⟩ = some (.string s) ∧ w'.cell? ⟨bx, 4, none⟩ = some (.string h) ∧ w'.cell? ⟨bx, 5, none⟩ = some (.string d)) (first | (with_reducible exact ⟨q0, q1, q2, q3, q4, q5⟩) | (with_reducible exact sixC (by assumption)) | go_keep)
        (first
          | (go_at_call 9; ((refine (HAS.out _ hbd).mono ?_); rintro e wd ⟨rfl, h3⟩; have hed := (h3.2.block bx (heap_lt heb) HBF.out.1).trans heb; obtain ⟨F2, HB2, HF2⟩ := (HBA.out.next hbd).store h3; clear h3))
          | (go_at_call 10; ((refine (HAC.out _ _ HB2.ch).mono ?_); rintro e we ⟨rfl, h4⟩; obtain ⟨v3, HB3, HV3⟩ := HB2.chest h4; have hee : we.heap[bx]? = some (.cells #[.int .i64 p.kind, .int .i64 p.seq, .int .i64 p.time, .string s, .string h, .string d] 33 (0, 0)) := (by obtain ⟨_, _, t4, _⟩ := h4; exact (t4.block bx (heap_lt hed) (fun e => by rcases e with e | e; exact HBF.out.2.1 e; exact HBF.out.2.2 e)).trans hed); clear h4)))
      have hfin := Lib.hid (show Two w0 D C (16 * (k + 1)) (runS (l.take (k + 1))).1 (runS (l.take (k + 1))).2 we from by
        rw [HST.out]
        exact ⟨F2, v3, by rw [Nat.mul_succ]; exact HB3⟩)
      clear HB3 HB2 hed hee heb hbd q0 q1 q2 q3 q4 q5
      go_wp2_with fail
      exact ⟨⟨k + 1, by omega, by go_num, hfin⟩, by simp [intOf]; omega⟩
    · have hltz : ¬ (k : Int) < n := by omega
      obtain rfl : k = n := by omega
      obtain ⟨L, hLe⟩ : ∃ L, (runS (l.take k)).1 = L := ⟨_, rfl⟩
      obtain ⟨last, hlaste⟩ : ∃ last, (runS (l.take k)).2 = last := ⟨_, rfl⟩
      rw [hLe, hlaste] at hB
      rw [hLe] at hds
      obtain ⟨I, hR⟩ := hB.st.right
      have hnew := new_c (t := t) hB.st HML.out (HBK.out.below hB.below) HNMs.out HFLs.out
      unfold takerV at hnew
      rw [HNM.out, HFL.out] at hnew
      obtain ⟨er, her⟩ : ∃ er, errT t = er := ⟨_, rfl⟩
      rw [her] at hnew
      have he2 := (hB.below.block bt (heap_lt HE0.out)).trans HE0.out
      obtain ⟨t0, t1, t2, t3, t4, t5, t6, t7, t8, t9, _⟩ := tenC he2
      have htl := heap_lt he2
      have HTK := Lib.hid (fun w3 (hb3 : Below w0.heap.size w0 w3) => show Calls Tryz.prog 12 #[.agg #[.string nm, .string fl, .int .i64 t.src, .int .i64 t.start, .int .i64 t.ack, .int .i64 t.wait, .slice avb t.back.length cvb, .int .i64 t.most, .int .i64 t.pend, .bool t.push]] w3 (Subj.IntRet w3 er) from by
        have h1 := Subj.takerRef_any nm fl t.src t.start t.ack t.wait t.most t.pend t.push avb t.back.length cvb t.back w3 HSZ.out.1 HSZ.out.2 rfl (HBK.out.below hb3) (HML.out.below hb3)
        rw [HNM2.out, HFL2.out] at h1
        rw [← her]
        exact h1)
      have HER := Lib.hid her; have HNEW := Lib.hid hnew; have HBO := Lib.hid hB; have HDS := Lib.hid hds; have HRT := Lib.hid hR; have HE2 := Lib.hid he2
      clear hnew her hB hds hR he2 hLe hlaste HT hltz
      go_wp2_with fail
      refine HNEW.out.mono ?_
      intro e w3 hp3
      clear HNEW t0 t1 t2 t3 t4 t5 t6 t7 t8 t9
      rcases hp3 with ⟨h0, rfl, hb3⟩ | ⟨rfl, K, vb3, rfl, hc3, hK3, hvb3, hb3⟩
      · have hz0 : ((er : Int) != 0) = true := by simpa using h0
        have hb03 := HBO.out.below.trans (hb3.mono HBO.out.below.size)
        have HTK2 := Lib.hid (HTK.out w3 hb03)
        have he3 := (hb3.block bt htl).trans HE2.out
        obtain ⟨t0, t1, t2, t3, t4, t5, t6, t7, t8, t9, _⟩ := tenC he3
        have htl3 := heap_lt he3
        have HB3 := Lib.hid hb03
        clear h0 hb3 hb03 he3
        go_wp2_with fail
        refine HTK2.out.mono ?_
        rintro e w4 ⟨rfl, _, hb4⟩
        have HFI := Lib.hid (HB0.out.trans ((HB3.out.trans (hb4.mono HB3.out.size)).mono HB0.out.size))
        clear hb4 HTK2 t0 t1 t2 t3 t4 t5 t6 t7 t8 t9 htl3
        go_wp2_with fail
        go_ret
        exact ⟨by simp, HFI.out⟩
      · have hb03 := HBO.out.below.trans (hb3.mono HBO.out.below.size)
        have HTK2 := Lib.hid (HTK.out w3 hb03)
        have he3 := (hb3.block bt htl).trans HE2.out
        obtain ⟨t0, t1, t2, t3, t4, t5, t6, t7, t8, t9, _⟩ := tenC he3
        have htl3 := heap_lt he3
        have HB3 := Lib.hid hb03; have HE3 := Lib.hid he3; have HB13 := Lib.hid hb3
        have HC3 := Lib.hid hc3; have HK3 := Lib.hid hK3; have HVB3 := Lib.hid hvb3
        clear hb3 hb03 he3 hc3 hK3 hvb3 HTK
        go_wp2_with fail
        refine HTK2.out.mono ?_
        rintro e w4 ⟨rfl, _, hb4⟩
        have hb04 := HB3.out.trans (hb4.mono HB3.out.size)
        have he4 := (hb4.block bt htl3).trans HE3.out
        clear t0 t1 t2 t3 t4 t5 t6 t7 t8 t9 HTK2
        obtain ⟨t0, t1, t2, t3, t4, t5, t6, t7, t8, t9, _⟩ := tenC he4
        have htl4 := heap_lt he4
        have hnh := newHand_any (W := w0) ((HBO.out.ch.next HB13.out).next hb4) HRT.out HER.out (HBK.out.below hb04) (fun k hk => by have := HVO.out k hk; have := HB0.out.size; have := hb04.size; omega)
        unfold takerV at hnh
        rw [HNM.out, HFL.out] at hnh
        have HNH := Lib.hid hnh; have HB4 := Lib.hid hb4; have HB04 := Lib.hid hb04; have HE4 := Lib.hid he4
        clear hnh hb4 hb04 he4 htl3
        go_wp2_with fail
        refine HNH.out.mono ?_
        rintro e w5 ⟨KH, rfl, hc5, hK5, hb5⟩
        have hP : PlayAt w0 F D (16 * k) C vc K KH t vb3 (.slice avb t.back.length cvb) (.slice none 0 0) (.slice none 0 0) L last (newP t L last) L last (newP t L last) w5 := by
          have hBO := HBO.out
          have h34 := HB4.out.size
          have h13 := HB13.out.size
          have hKl := heap_lt HC3.out.cell
          have hK1 := HK3.out
          have h01 := hBO.below.size
          have hCl := heap_lt hBO.ch.cell
          have hno : ∀ k, ¬ own (.slice none 0 0) k := fun k hk => by simp [own, Value.ownBlock] at hk
          refine ⟨⟨((hBO.st.next HB13.out).next HB4.out).next hb5, (HC3.out.next HB4.out).next hb5, fun e => by have := hBO.st.bF K e; omega, fun k hk => absurd hk (hno k), fun k hk e => by have := hBO.st.bF k e; have := HVB3.out k hk; omega⟩, ⟨((hBO.ch.next HB13.out).next HB4.out).next hb5, hc5, ⟨by omega, fun e => by have := hBO.ch.row.lt KH e; omega⟩, fun k hk => absurd hk (hno k)⟩, fun j hj e => ?_, fun j hj e => ?_, fun j hj e => ?_, fun j hj => ⟨?_, fun e => ?_⟩⟩
          · rcases hj with hj | rfl | hj
            · have hl := hBO.st.bF j hj
              rcases e with rfl | e | rfl | e
              · exact hBO.fC hj
              · exact hBO.fv j e hj
              · omega
              · exact hno j e
            · rcases e with e | e | e | e
              · omega
              · have := hBO.ch.row.lt j e; omega
              · omega
              · exact hno j e
            · exact hno j hj
          · have hl := HVB3.out j hj
            have hu := (HC3.out.fb j hj).1
            rcases e with e | e | e | e
            · omega
            · have := hBO.ch.row.lt j e; omega
            · omega
            · exact hno j e
          · have hl := HVO.out j hj
            have := HB0.out.size
            rcases e with e | e | e
            · have := hBO.st.newF j e; omega
            · omega
            · exact hno j e
          · have hl := HVO.out j hj
            have := HB0.out.size
            have := hBO.ch.old
            omega
          · have hl := HVO.out j hj
            have := HB0.out.size
            have := (hBO.ch.mine j e).1
            omega
        have HPL := Lib.hid hP
        have HE5 := Lib.hid ((hb5.block bt htl4).trans HE4.out)
        clear hP hc5 hK5 hb5 HNH t0 t1 t2 t3 t4 t5 t6 t7 t8 t9 htl4
        go_wp2_with fail
        have H1 := Lib.hid (show PlayS w0 D C K KH t vb3 (.slice avb t.back.length cvb) (16 * (60 + 0)) ((lt.take 0).foldl (turnP t) (newP t L last, L, last)) 0 w5 from ⟨⟨F, vc, _, _, _, by omega, HPL.out⟩, new_ok HER.out HRT.out, HDS.out⟩)
        obtain ⟨s0, hs0⟩ : ∃ s0 : Cn × List Rc × Int, (newP t L last, L, last) = s0 := ⟨_, rfl⟩
        rw [hs0] at H1
        clear hs0 HPL HBO HRT HDS HB3 HB13 HC3 HK3 HVB3 HB4 HB04 HE3 HE4 HE2
        have HB5 := Lib.hid (show Below w0.heap.size w0 w5 from H1.out.1.choose_spec.choose_spec.choose_spec.choose_spec.choose_spec.2.p.below)
        go_loopw [73] (fun i wr => ∃ j : Nat, j ≤ m ∧ i = .int .i64 j ∧ Hid (PlayS w0 D C K KH t vb3 (.slice avb t.back.length cvb) (16 * (60 + j)) ((lt.take j).foldl (turnP t) s0) j wr)) (fun i _ => m - (intOf i).toNat)
        case atStart => exact ⟨0, Nat.zero_le _, rfl, H1⟩
        case round =>
          obtain ⟨j, hj, rfl, HT⟩ := hrel
          clear H1
          obtain ⟨⟨F2, vC2, v2, vh2, B2, hB2, hP⟩, hok, hds⟩ := HT.out
          by_cases hlt : j < m
          · have hltz : (j : Int) < m := by omega
            obtain ⟨x, hx⟩ : ∃ x, lt[j]? = some x := ⟨_, List.getElem?_eq_getElem (by rw [HM.out]; exact hlt)⟩
            have hst := turns_step (t := t) (s0 := s0) hx
            obtain ⟨st, hste⟩ : ∃ st, (lt.take j).foldl (turnP t) s0 = st := ⟨_, rfl⟩
            rw [hste] at hst hP hok hds
            obtain ⟨sx, hx2, dx, hpp⟩ := parts x.r
            obtain ⟨g, off, rfl, m0, m1, m2, m3, m4, m5, m6, m7, m8, m9, m10⟩ := (HLT.out.below (HB0.out.trans (hP.p.below.mono HB0.out.size))).at hx hpp
            have hfx := HFT.out x (List.mem_of_getElem? hx)
            obtain ⟨wa, hwa⟩ : ∃ wa, wa = wr.alloc (.cells #[.int .i64 x.kind, .int .i64 x.now, .int .i64 x.seq, .int .i64 x.sort, .int .i64 x.n, .int .i64 x.r.kind, .int .i64 x.r.seq, .int .i64 x.r.time, .string sx, .string hx2, .string dx] 45) := ⟨_, rfl⟩
            have hba : Below wr.heap.size wr wa := by rw [hwa]; exact (Below.refl _ _).alloc (Nat.le_refl _) _
            have hea : wa.heap[wr.heap.size]? = some (.cells #[.int .i64 x.kind, .int .i64 x.now, .int .i64 x.seq, .int .i64 x.sort, .int .i64 x.n, .int .i64 x.r.kind, .int .i64 x.r.seq, .int .i64 x.r.time, .string sx, .string hx2, .string dx] 45 (0, 0)) := by rw [hwa]; exact heap_alloc_new wr _
            obtain ⟨bx, hbx⟩ : ∃ bx, wr.heap.size = bx := ⟨_, rfl⟩
            rw [hbx] at hea
            have hrv : recV x.r = .agg #[.int .i64 x.r.kind, .int .i64 x.r.seq, .int .i64 x.r.time, .string sx, .string hx2, .string dx] := by unfold recV; rw [hpp.s1, hpp.h1, hpp.d1]
            have hbF : (¬ (F2 bx ∨ bx = K ∨ own v2 bx)) ∧ ¬ (bx = C ∨ own vC2 bx ∨ bx = KH ∨ own vh2 bx) := ⟨fun h => by have := hP.plt bx h; omega, fun h => by have := hP.rlt bx h; omega⟩
            have HPA := Lib.hid (hP.next hba); have HEA := Lib.hid hea; have HBX := Lib.hid hbx; have HST := Lib.hid hst; have HBF := Lib.hid hbF; have HX := Lib.hid hx; have HFX := Lib.hid hfx; have HRV := Lib.hid hrv; have HOK := Lib.hid hok; have HDS := Lib.hid hds
            obtain ⟨I2, hR2⟩ := hP.p.st.right
            have HR2 := Lib.hid hR2
            clear hP hba hea hbx hst hbF hx hfx hrv hok hds hpp hste HT hR2
            go_upto_region 18 with fail
            rw [← hwa, HBX.out]
            clear hwa m0 m1 m2 m3 m4 m5 m6 m7 m8 m9 m10
            obtain ⟨q0, q1, q2, q3, q4, q5, q6, q7, q8, q9, q10⟩ := elevenC HEA.out
            have hbl := heap_lt HEA.out
            go_upto_block 4 with fail
            go_cut [17, 18, 19, 20, 21] from 77 to 134 (fun s17 _ _ _ _ wx => s17 = .bool true ∧ Hid (PlayS w0 D C K KH t vb3 (.slice avb t.back.length cvb) (16 * (60 + (j + 1))) (turnP t st x) (j + 1) wx ∧ wx.heap[bx]? = some (.cells #[.int .i64 x.kind, .int .i64 x.now, .int .i64 x.seq, .int .i64 x.sort, .int .i64 x.n, .int .i64 x.r.kind, .int .i64 x.r.seq, .int .i64 x.r.time, .string sx, .string hx2, .string dx] 45 (0, 0))))
            case first =>
              rcases (show x.kind = 0 ∨ x.kind = 1 ∨ x.kind = 2 ∨ (x.kind ≠ 0 ∧ x.kind ≠ 1 ∧ x.kind ≠ 2) from by omega) with hk | hk | hk | ⟨hk0, hk1, hk2⟩
              · have e0 : (x.kind == 0) = true := by rw [hk]; rfl
                obtain ⟨O, hO⟩ : ∃ O, nextP t st.2.1 x.now st.1 = O := ⟨_, rfl⟩
                obtain ⟨dl, hdl⟩ : ∃ dl, O.2.1 = dl := ⟨_, rfl⟩
                obtain ⟨en, hen⟩ : ∃ en, O.2.2 = en := ⟨_, rfl⟩
                obtain ⟨ds, hds9⟩ : ∃ ds : ByteArray, (⟨dl.subj.toArray⟩ : ByteArray) = ds := ⟨_, rfl⟩
                obtain ⟨dd, hddd⟩ : ∃ dd : ByteArray, (⟨dl.data.toArray⟩ : ByteArray) = dd := ⟨_, rfl⟩
                have hnx := next_c HPA.out.p HOK.out (by omega) HML.out HER.out x.now
                unfold NextPost at hnx
                rw [hO, hdl, hen] at hnx
                unfold delV at hnx
                rw [hds9, hddd] at hnx
                have hny := fun (w' : World) (v' : Value) (hb : HPair w0 C vC2 st.2.1 st.2.2 KH t (.slice avb t.back.length cvb) v' st.1 w') => next_h hb HR2.out HOK.out (by omega) (by have := HOK.out.len; have := HOK.out.count; omega) HER.out x.now
                unfold NextPostH at hny
                rw [hO, hdl, hen] at hny
                unfold delV at hny
                rw [hds9, hddd] at hny
                have HNX := Lib.hid hnx; have HNY := Lib.hid hny; have HKD := Lib.hid hk; have HOO := Lib.hid hO
                clear hnx hny hO hk hdl hen hds9 hddd
                go_wp2_with fail
                refine HNX.out.mono ?_
                rintro e w2 ⟨rfl, h3⟩
                have hed : w2.heap[bx]? = some (.cells #[.int .i64 x.kind, .int .i64 x.now, .int .i64 x.seq, .int .i64 x.sort, .int .i64 x.n, .int .i64 x.r.kind, .int .i64 x.r.seq, .int .i64 x.r.time, .string sx, .string hx2, .string dx] 45 (0, 0)) := by obtain ⟨_, _, t3, _⟩ := h3; exact (t3.block bx hbl (fun e => HBF.out.1 (.inr e))).trans HEA.out
                obtain ⟨v3, HB2⟩ := HPA.out.con h3
                obtain ⟨w3, hw3⟩ : ∃ w3, w3 = w2.alloc (.cells #[.int .i64 dl.seq, .string ds, .string dd, .int .i64 dl.count, .int .i64 dl.nth, .int .i64 dl.left] 47) := ⟨_, rfl⟩
                have hb3 : Below w2.heap.size w2 w3 := by rw [hw3]; exact (Below.refl _ _).alloc (Nat.le_refl _) _
                have he3 : w3.heap[w2.heap.size]? = some (.cells #[.int .i64 dl.seq, .string ds, .string dd, .int .i64 dl.count, .int .i64 dl.nth, .int .i64 dl.left] 47 (0, 0)) := by rw [hw3]; exact heap_alloc_new w2 _
                obtain ⟨b3, hbx3⟩ : ∃ b3, w2.heap.size = b3 := ⟨_, rfl⟩
                rw [hbx3] at he3
                have hno3 : ¬ (b3 = C ∨ own vC2 b3 ∨ b3 = KH ∨ own vh2 b3) := fun e => by have := HB2.rlt b3 e; omega
                have HB3 := Lib.hid (HB2.next hb3)
                have HED3 := Lib.hid ((hb3.block bx (heap_lt hed)).trans hed)
                have HE3 := Lib.hid he3; have HBX3 := Lib.hid hbx3; have HNO := Lib.hid hno3
                clear h3 hed HB2 hb3 he3 hbx3 hno3 HNX q0 q1 q2 q3 q4 q5 q6 q7 q8 q9 q10 hbl
                obtain ⟨_, q1, _, _, _, _, _, _, _, _, _⟩ := elevenC HED3.out
                have hbl := heap_lt HED3.out
                go_upto_region 22 with fail
                rw [← hw3, HBX3.out]
                clear hw3
                have HNY2 := Lib.hid (HNY.out w3 _ HB3.out.r)
                go_wp2_with fail
                refine HNY2.out.mono ?_
                rintro e w4 ⟨rfl, h4⟩
                have hed4 : w4.heap[bx]? = some (.cells #[.int .i64 x.kind, .int .i64 x.now, .int .i64 x.seq, .int .i64 x.sort, .int .i64 x.n, .int .i64 x.r.kind, .int .i64 x.r.seq, .int .i64 x.r.time, .string sx, .string hx2, .string dx] 45 (0, 0)) := by obtain ⟨_, _, t4, _⟩ := h4; exact (t4.block bx hbl (fun e => HBF.out.2 (.inr (.inr e)))).trans HED3.out
                have he34 : w4.heap[b3]? = some (.cells #[.int .i64 dl.seq, .string ds, .string dd, .int .i64 dl.count, .int .i64 dl.nth, .int .i64 dl.left] 47 (0, 0)) := by obtain ⟨_, _, t4, _⟩ := h4; exact (t4.block b3 (heap_lt HE3.out) (fun e => HNO.out (.inr (.inr e)))).trans HE3.out
                obtain ⟨v4, HB4⟩ := HB3.out.hand h4
                obtain ⟨w5b, hw5⟩ : ∃ w5b, w5b = w4.alloc (.cells #[.int .i64 dl.seq, .string ds, .string dd, .int .i64 dl.count, .int .i64 dl.nth, .int .i64 dl.left] 47) := ⟨_, rfl⟩
                have hb5 : Below w4.heap.size w4 w5b := by rw [hw5]; exact (Below.refl _ _).alloc (Nat.le_refl _) _
                have he5 : w5b.heap[w4.heap.size]? = some (.cells #[.int .i64 dl.seq, .string ds, .string dd, .int .i64 dl.count, .int .i64 dl.nth, .int .i64 dl.left] 47 (0, 0)) := by rw [hw5]; exact heap_alloc_new w4 _
                obtain ⟨b5, hbx5⟩ : ∃ b5, w4.heap.size = b5 := ⟨_, rfl⟩
                rw [hbx5] at he5
                have he35 := (hb5.block b3 (heap_lt he34)).trans he34
                have hed5 := (hb5.block bx (heap_lt hed4)).trans hed4
                have HFI := Lib.hid (show PlayS w0 D C K KH t vb3 (.slice avb t.back.length cvb) (16 * (60 + (j + 1))) (turnP t st x) (j + 1) w5b ∧ w5b.heap[bx]? = some (.cells #[.int .i64 x.kind, .int .i64 x.now, .int .i64 x.seq, .int .i64 x.sort, .int .i64 x.n, .int .i64 x.r.kind, .int .i64 x.r.seq, .int .i64 x.r.time, .string sx, .string hx2, .string dx] 45 (0, 0)) from by
                  refine ⟨?_, hed5⟩
                  have e : turnP t st x = (O.1, st.2) := by
                    unfold turnP
                    rw [if_pos HKD.out, HOO.out]
                  have hok2 := next_ok (now := x.now) HER.out HR2.out HOK.out
                  rw [HOO.out] at hok2
                  rw [e]
                  exact ⟨⟨_, _, v3, v4, _, by omega, HB4.next hb5⟩, hok2, HDS.out⟩)
                have HBX5 := Lib.hid hbx5; have HE5 := Lib.hid he5; have HE35 := Lib.hid he35
                clear h4 hed4 he34 HB4 hb5 he5 hbx5 he35 hed5 HNY2 q1 hbl
                go_upto_region 23 with fail
                rw [← hw5, HBX5.out]
                clear hw5
                obtain ⟨y0, y1, y2, y3, y4, y5⟩ := sixC HE35.out
                obtain ⟨u0, u1, u2, u3, u4, u5⟩ := sixC HE5.out
                have hyl := heap_lt HE35.out
                have hul := heap_lt HE5.out
                go_wp2_with fail
                go_meet
                exact ⟨by simp, HFI⟩
              · have e0 : (x.kind == 0) = false := by rw [hk]; rfl
                have e1 : (x.kind == 1) = true := by rw [hk]; rfl
                obtain ⟨O, hO⟩ : ∃ O, answerP t x.now x.seq x.sort x.n st.1 = O := ⟨_, rfl⟩
                have has_ := fun w' (hb : Below wa.heap.size wa w') => answer_c (HPA.out.next hb).p.con HOK.out (by omega) HER.out x.now x.seq x.sort x.n HFX.out.2
                unfold AnswerPost at has_
                rw [hO] at has_
                have hac := fun (w' : World) (v' : Value) (hb : CAt th tq w0 KH t (.slice avb t.back.length cvb) v' st.1 w') => answer_h hb HOK.out (by omega) (by have := HOK.out.len; have := HOK.out.count; omega) HER.out x.now x.seq x.sort x.n
                unfold AnswerPostH at hac
                rw [hO] at hac
                have HAS := Lib.hid has_; have HAC := Lib.hid hac; have HKD := Lib.hid hk; have HOO := Lib.hid hO
                clear has_ hac hO hk q0 q1 q2 q3 q4 q5 q6 q7 q8 q9 q10
                obtain ⟨z0, _, _, _, _, _, _, _, _, _, _⟩ := elevenC HEA.out
                have hbd : Below wa.heap.size wa wa.drew := (Below.refl _ _).drew
                have heb := (hbd.block bx hbl).trans HEA.out
                obtain ⟨_, q1, q2, q3, q4, _, _, _, _, _, _⟩ := elevenC heb
                go_wp2_with fail
                go_region_held3 (fun w' => w'.cell? ⟨bx, 1, none⟩ = some (.int .i64 x.now) ∧ w'.cell? ⟨bx, 2, none⟩ = some (.int .i64 x.seq) ∧ w'.cell? ⟨bx, 3, none⟩ = some (.int .i64 x.sort) ∧ w'.cell? ⟨bx, 4, none⟩ = some (.int .i64 x.n)) (first | (with_reducible exact ⟨q1, q2, q3, q4⟩) | (with_reducible exact ⟨y1, y2, y3, y4⟩) | (with_reducible exact ⟨u1, u2, u3, u4⟩) | go_keep)
                  (first
                    | (go_at_call 16; ((refine (HAS.out _ hbd).mono ?_); rintro e wd ⟨rfl, h3⟩; have hed : wd.heap[bx]? = some (.cells #[.int .i64 x.kind, .int .i64 x.now, .int .i64 x.seq, .int .i64 x.sort, .int .i64 x.n, .int .i64 x.r.kind, .int .i64 x.r.seq, .int .i64 x.r.time, .string sx, .string hx2, .string dx] 45 (0, 0)) := (by obtain ⟨_, _, t3, _⟩ := h3; exact (t3.block bx (heap_lt heb) (fun e => HBF.out.1 (.inr e))).trans heb); obtain ⟨v3, HB2⟩ := (HPA.out.next hbd).con h3; obtain ⟨_, y1, y2, y3, y4, _, _, _, _, _, _⟩ := elevenC hed; clear h3))
                    | (go_at_call 17; ((refine (HAC.out _ _ HB2.r.hd).mono ?_); rintro e we ⟨rfl, h4⟩; obtain ⟨v4, HB3⟩ := HB2.hand h4; have hee : we.heap[bx]? = some (.cells #[.int .i64 x.kind, .int .i64 x.now, .int .i64 x.seq, .int .i64 x.sort, .int .i64 x.n, .int .i64 x.r.kind, .int .i64 x.r.seq, .int .i64 x.r.time, .string sx, .string hx2, .string dx] 45 (0, 0)) := (by obtain ⟨_, _, t4, _⟩ := h4; exact (t4.block bx (heap_lt hed) (fun e => HBF.out.2 (.inr (.inr e)))).trans hed); obtain ⟨_, u1, u2, u3, u4, _, _, _, _, _, _⟩ := elevenC hee; clear h4)))
                have HFI := Lib.hid (show PlayS w0 D C K KH t vb3 (.slice avb t.back.length cvb) (16 * (60 + (j + 1))) (turnP t st x) (j + 1) we ∧ we.heap[bx]? = some (.cells #[.int .i64 x.kind, .int .i64 x.now, .int .i64 x.seq, .int .i64 x.sort, .int .i64 x.n, .int .i64 x.r.kind, .int .i64 x.r.seq, .int .i64 x.r.time, .string sx, .string hx2, .string dx] 45 (0, 0)) from by
                  refine ⟨?_, hee⟩
                  have e : turnP t st x = (O.1, st.2) := by
                    unfold turnP
                    rw [if_neg (by rw [HKD.out]; decide), if_pos HKD.out, HOO.out]
                  have hok2 := (answer_ok HER.out HOK.out x.now x.seq x.sort x.n).mono (m := j + 1) (by omega)
                  rw [HOO.out] at hok2
                  rw [e]
                  exact ⟨⟨_, _, v3, v4, _, by omega, HB3⟩, hok2, HDS.out⟩)
                clear HB3 HB2 hed hee heb hbd
                go_wp2_with fail
                go_meet
                exact ⟨by simp, HFI⟩
              · have e0 : (x.kind == 0) = false := by rw [hk]; rfl
                have e1 : (x.kind == 1) = false := by rw [hk]; rfl
                have e2 : (x.kind == 2) = true := by rw [hk]; rfl
                obtain ⟨T, hT⟩ : ∃ T, tryD st.2.1 st.2.2 x.r = T := ⟨_, rfl⟩
                have has_ := fun w' (hb : Below wa.heap.size wa w') => apply_any (HPA.out.next hb).p.st (by omega) HML.out x.r HFX.out.1
                unfold ApplyPost at has_
                rw [hT] at has_
                have hac := fun (w' : World) (v' : Value) (hb : ChAt w0 C v' st.2.1 st.2.2 w') => apply_ch hb HR2.out HDS.out x.r HFX.out.1
                rw [hT] at hac
                simp only [HRV.out] at has_ hac
                have HAS := Lib.hid has_; have HAC := Lib.hid hac; have HKD := Lib.hid hk
                clear has_ hac hT hk q0 q1 q2 q3 q4 q5 q6 q7 q8 q9 q10
                obtain ⟨z0, _, _, _, _, _, _, _, _, _, _⟩ := elevenC HEA.out
                have hbd : Below wa.heap.size wa wa.drew := (Below.refl _ _).drew
                have heb := (hbd.block bx hbl).trans HEA.out
                obtain ⟨_, _, _, _, _, q5, q6, q7, q8, q9, q10⟩ := elevenC heb
                go_wp2_with fail
                go_region_held3 (fun w' => w'.cell? ⟨bx, 5, none⟩ = some (.int .i64 x.r.kind) ∧ w'.cell? ⟨bx, 6, none⟩ = some (.int .i64 x.r.seq) ∧ w'.cell? ⟨bx, 7, none⟩ = some (.int .i64 x.r.time) ∧ w'.cell? ⟨bx, 8, none⟩ = some (.string sx) ∧ w'.cell? ⟨bx, 9, none⟩ = some (.string hx2) ∧ w'.cell? ⟨bx, 10, none⟩ = some (.string dx)) (first | (with_reducible exact ⟨q5, q6, q7, q8, q9, q10⟩) | (with_reducible exact ⟨y5, y6, y7, y8, y9, y10⟩) | (with_reducible exact ⟨u5, u6, u7, u8, u9, u10⟩) | go_keep)
                  (first
                    | (go_at_call 9; ((refine (HAS.out _ hbd).mono ?_); rintro e wd ⟨rfl, h3⟩; have hed := (h3.2.block bx (heap_lt heb) (fun e => HBF.out.1 (.inl e))).trans heb; obtain ⟨F3, HB2⟩ := (HPA.out.next hbd).store h3; obtain ⟨_, _, _, _, _, y5, y6, y7, y8, y9, y10⟩ := elevenC hed; clear h3))
                    | (go_at_call 10; ((refine (HAC.out _ _ HB2.r.ch).mono ?_); rintro e we ⟨rfl, h4⟩; obtain ⟨v3, HB3⟩ := HB2.chest h4; have hee : we.heap[bx]? = some (.cells #[.int .i64 x.kind, .int .i64 x.now, .int .i64 x.seq, .int .i64 x.sort, .int .i64 x.n, .int .i64 x.r.kind, .int .i64 x.r.seq, .int .i64 x.r.time, .string sx, .string hx2, .string dx] 45 (0, 0)) := (by obtain ⟨_, _, t4, _⟩ := h4; exact (t4.block bx (heap_lt hed) (fun e => by rcases e with e | e; exact HBF.out.2 (.inl e); exact HBF.out.2 (.inr (.inl e)))).trans hed); obtain ⟨_, _, _, _, _, u5, u6, u7, u8, u9, u10⟩ := elevenC hee; clear h4)))
                have HFI := Lib.hid (show PlayS w0 D C K KH t vb3 (.slice avb t.back.length cvb) (16 * (60 + (j + 1))) (turnP t st x) (j + 1) we ∧ we.heap[bx]? = some (.cells #[.int .i64 x.kind, .int .i64 x.now, .int .i64 x.seq, .int .i64 x.sort, .int .i64 x.n, .int .i64 x.r.kind, .int .i64 x.r.seq, .int .i64 x.r.time, .string sx, .string hx2, .string dx] 45 (0, 0)) from by
                  refine ⟨?_, hee⟩
                  have e : turnP t st x = (st.1, after st.2.1 st.2.2 x.r) := by
                    unfold turnP
                    rw [if_neg (by rw [HKD.out]; decide), if_neg (by rw [HKD.out]; decide), if_pos HKD.out]
                  rw [e]
                  exact ⟨⟨F3, v3, _, _, _, by omega, HB3⟩, HOK.out.mono (by omega), Sto.dist_after HDS.out⟩)
                clear HB3 HB2 hed hee heb hbd
                go_wp2_with fail
                go_meet
                exact ⟨by simp, HFI⟩
              · have e0 : (x.kind == 0) = false := by simpa using hk0
                have e1 : (x.kind == 1) = false := by simpa using hk1
                have e2 : (x.kind == 2) = false := by simpa using hk2
                have HN := Lib.hid (show PlayS w0 D C K KH t vb3 (.slice avb t.back.length cvb) (16 * (60 + (j + 1))) (turnP t st x) (j + 1) wa from by
                  unfold turnP
                  rw [if_neg hk0, if_neg hk1, if_neg hk2]
                  exact ⟨⟨_, _, _, _, _, by omega, HPA.out⟩, HOK.out.mono (by omega), HDS.out⟩)
                clear hk0 hk1 hk2
                go_wp2_with fail
                go_meet
                exact ⟨rfl, Lib.hid ⟨HN.out, HEA.out⟩⟩
            case rest =>
            obtain ⟨rfl, hcc⟩ := hcut
            obtain ⟨⟨⟨F3, vC3, v3, vh3, B3, hB3, hP3⟩, hok3, hds3⟩, he3⟩ := hcc.out
            have hst := HST.out
            obtain ⟨s3, hs3⟩ : ∃ s3, turnP t st x = s3 := ⟨_, rfl⟩
            rw [hs3] at hst hP3 hok3 hds3
            have hln := hok3.len
            have hcn := hok3.count
            have HP3 := Lib.hid hP3
            have HD1 := Lib.hid (fun w' (hb : Below wc.heap.size wc w') => done_c (hP3.next hb).p.con hok3 (by omega) x.seq HFX.out.2)
            have HD2 := Lib.hid (fun w' (hb : Below wc.heap.size wc w') => done_h (hP3.next hb).r.hd (by omega) x.seq)
            have HU1 := Lib.hid (fun w' (hb : Below wc.heap.size wc w') => due_c (hP3.next hb).p.con (by omega))
            have HU2 := Lib.hid (fun w' (hb : Below wc.heap.size wc w') => show Calls Tryz.prog 21 #[.pointer (some ⟨KH, 0, none⟩)] w' fun e w'' => e = .returned (.int .i64 (dueL s3.1.l)) ∧ w' = w'' from by
              have h1 := due_h (hP3.next hb).r.hd (by omega) (fun p hp => (hok3.in_ p hp).2.2.1)
              rw [dueP_eq] at h1
              exact h1)
            have hin1 := fun w' (hb : Below wc.heap.size wc w') => info_c (hP3.next hb).p.con hok3 (by omega)
            have hin2 := fun w' (hb : Below wc.heap.size wc w') => info_h (hP3.next hb).r.hd hok3 (by omega)
            unfold infoV at hin1 hin2
            have HI1 := Lib.hid hin1; have HI2 := Lib.hid hin2
            have HE3 := Lib.hid he3
            have HNX := Lib.hid (show ∀ w', Below wc.heap.size wc w' → PlayS w0 D C K KH t vb3 (.slice avb t.back.length cvb) (16 * (60 + (j + 1))) ((lt.take (j + 1)).foldl (turnP t) s0) (j + 1) w' from fun w' hb => by
              rw [hst]
              exact ⟨⟨F3, vC3, v3, vh3, B3, hB3, hP3.next hb⟩, hok3, hds3⟩)
            have hz2 := (elevenC he3).2.2.1
            have hbl3 := heap_lt he3
            have HBX3 := Lib.hid (fun w' (hb : Below wc.heap.size wc w') => (elevenC ((hb.block bx hbl3).trans he3)).2.2.1)
            clear hcc hP3 hok3 hds3 hst hs3 he3 hin1 hin2 hln hcn q0 q1 q2 q3 q4 q5 q6 q7 q8 q9 q10 hbl
            have hbd : Below wc.heap.size wc wc.drew := (Below.refl _ _).drew
            have p2 := HBX3.out _ hbd
            go_upto_region 28 with fail
            go_region_held3 (fun w' => w'.cell? ⟨bx, 2, none⟩ = some (.int .i64 x.seq)) (first | (with_reducible exact p2) | (with_reducible exact HBX3.out _ (by assumption)) | (with_reducible assumption) | go_keep)
              (first
                | (go_at_call 18; ((refine (HD1.out _ (by assumption)).mono ?_); rintro e wA ⟨rfl, hA⟩; have hbA : Below wc.heap.size wc wA := Below.trans (by assumption) (hA.mono (Below.size (by assumption))); have pA := HBX3.out _ hbA; clear hA))
                | (go_at_call 19; ((refine (HD2.out _ (by assumption)).mono ?_); rintro e wB ⟨rfl, hA⟩; have hbB : Below wc.heap.size wc wB := Below.trans (by assumption) (hA.mono (Below.size (by assumption))); have pB := HBX3.out _ hbB; clear hA))
                | (go_at_call 20; ((refine (HU1.out _ (by assumption)).mono ?_); rintro e wD ⟨rfl, hA⟩; have hbD : Below wc.heap.size wc wD := Below.trans (by assumption) (hA.mono (Below.size (by assumption))); have pD := HBX3.out _ hbD; clear hA))
                | (go_at_call 21; ((refine (HU2.out _ (by assumption)).mono ?_); rintro e wE ⟨rfl, rfl⟩))
                | (go_at_call 22; ((refine (HI1.out _ (by assumption)).mono ?_); rintro e wF ⟨rfl, hA⟩; have hbF2 : Below wc.heap.size wc wF := Below.trans (by assumption) (hA.mono (Below.size (by assumption))); have pF := HBX3.out _ hbF2; clear hA))
                | (go_at_call 23; ((refine (HI2.out _ (by assumption)).mono ?_); rintro e wG ⟨rfl, hA⟩; have hbG : Below wc.heap.size wc wG := Below.trans (by assumption) (hA.mono (Below.size (by assumption))); have pG := HBX3.out _ hbG; clear hA)))
            have HFI := Lib.hid (HNX.out wG hbG)
            go_wp2_with fail
            first
              | exact ⟨⟨j + 1, by omega, by go_num, HFI⟩, by simp [intOf]; omega⟩
              | (refine ⟨?_, by simp [intOf]; omega⟩; (repeat apply Exists.intro); exact ⟨⟨j + 1, by omega, by go_num, HFI⟩, rfl⟩)
          · obtain rfl : j = m := by omega
            have hltz : ¬ (j : Int) < (j : Int) := by omega
            have hbk : t.back.length ≤ 1048576 := by have := (errT_facts HER.out).2.2.1; omega
            have hbp := hP.p.below
            have hpq := fun w' (hb : Below wr.heap.size wr w') => Own.taker_of hbk (hP.next hb).p.con
            unfold Own.TakerPost takerV at hpq
            rw [HNM.out, HFL.out] at hpq
            have HPQ := Lib.hid hpq
            have HSA := Lib.hid (show ∀ (w' : World) (v : Value), Below wr.heap.size wr w' → Heap.Row w' 3 1 v t.back.length (t.back.map (Value.int .i64)) → _ from fun w' v hb hr => Subj.sameT_true nm fl t.src t.start t.ack t.wait v _ t.most t.pend t.push t.back w' (by omega) (Own.Row.toInts hr) (HBK.out.below (hbp.trans (hb.mono hbp.size))) (HML.out.below (hbp.trans (hb.mono hbp.size))))
            have he := (hbp.block bt (heap_lt HE0.out)).trans HE0.out
            obtain ⟨t0, t1, t2, t3, t4, t5, t6, t7, t8, t9, _⟩ := tenC he
            have htl := heap_lt he
            have HBP := Lib.hid (HB0.out.trans (hbp.mono HB0.out.size))
            have hbd : Below wr.heap.size wr wr.drew := (Below.refl _ _).drew
            have HEE := Lib.hid he
            clear hP hok hds HT hbp hpq he
            go_upto_region 31 with fail
            go_region_held3 (fun w' => w'.cell? ⟨bt, 0, none⟩ = some (.string nm) ∧ w'.cell? ⟨bt, 1, none⟩ = some (.string fl) ∧ w'.cell? ⟨bt, 2, none⟩ = some (.int .i64 t.src) ∧ w'.cell? ⟨bt, 3, none⟩ = some (.int .i64 t.start) ∧ w'.cell? ⟨bt, 4, none⟩ = some (.int .i64 t.ack) ∧ w'.cell? ⟨bt, 5, none⟩ = some (.int .i64 t.wait) ∧ w'.cell? ⟨bt, 6, none⟩ = some (.slice avb t.back.length cvb) ∧ w'.cell? ⟨bt, 7, none⟩ = some (.int .i64 t.most) ∧ w'.cell? ⟨bt, 8, none⟩ = some (.int .i64 t.pend) ∧ w'.cell? ⟨bt, 9, none⟩ = some (.bool t.push))
              (first | (with_reducible exact ⟨t0, t1, t2, t3, t4, t5, t6, t7, t8, t9⟩) | (with_reducible exact ⟨y0, y1, y2, y3, y4, y5, y6, y7, y8, y9⟩) | (with_reducible exact ⟨z0, z1, z2, z3, z4, z5, z6, z7, z8, z9⟩) | go_keep)
              (first
                | (go_at_call 25; ((refine (HPQ.out _ hbd).mono ?_); rintro e wA ⟨vA, rfl, hrA, _, hbA⟩; have hbA2 := hbd.trans (hbA.mono hbd.size); obtain ⟨y0, y1, y2, y3, y4, y5, y6, y7, y8, y9, _⟩ := tenC ((hbA2.block bt htl).trans HEE.out)))
                | (go_at_call 24; ((refine (HSA.out _ _ hbA2 hrA).mono ?_); rintro e wB ⟨rfl, hIB⟩; have hbB2 := hbA2.trans (hIB.2.mono hbA2.size); obtain ⟨z0, z1, z2, z3, z4, z5, z6, z7, z8, z9, _⟩ := tenC ((hbB2.block bt htl).trans HEE.out))))
            have HFN := Lib.hid (HBP.out.trans (hbB2.mono HBP.out.size))
            clear hbB2 hIB hbA2 hbA hrA
            go_wp2_with fail
            go_ret
            exact ⟨rfl, HFN.out⟩
end
end Go.Proofs.YthhgfdeegnimjaaGreatDoor.Hnd

namespace Go.Proofs.YthhgfdeegnimjaaGreatDoor.Hnd
open Go.RowKit Go.ChangeMaps Go.ChangeAt Con
open Subj (ML)

set_option maxRecDepth 100000 in
open Go.WideShapes Go.ChangeShapes in
theorem consumerPlays_calls {H : Type} (enc : TypeId × Value → H) (W : World) (base : Nat) (v0 v1 v2 : Value) (d0 d1 d2 : DataW H) (p0 p1 p2 : List MemPlace)
    (h0 : DataW.Trod enc Tryz.prog W 0 (fun _ => true) true 24 v0 d0 p0) (h1 : DataW.Trod enc Tryz.prog W 0 (fun _ => true) true 25 v1 d1 p1) (h2 : DataW.Trod enc Tryz.prog W 0 (fun _ => true) true 26 v2 d2 p2)
    (o0 : Value.okWide Tryz.prog W .any base 24 v0) (o1 : Value.okWide Tryz.prog W .any base 25 v1) (o2 : Value.okWide Tryz.prog W .any base 26 v2)
    (hk : Rows.uptoSmall H ([d0, d1, d2] ++ []) = true) (hM : ML W) :
    Calls Tryz.prog 3 #[v0, v1, v2] W fun e w' => e = .returned (.bool true) ∧ Below W.heap.size W w' := by
  have hb0 : Rows.uptoBulk d0 ≤ 1048576 := by
    have h1 := bulk_bound hk
    have h2 := bulk_part (d := d0) (l := [d0, d1, d2] ++ []) (by simp)
    omega
  have hb1 : Rows.uptoBulk d1 ≤ 1048576 := by
    have h1 := bulk_bound hk
    have h2 := bulk_part (d := d1) (l := [d0, d1, d2] ++ []) (by simp)
    omega
  have hb2 : Rows.uptoBulk d2 ≤ 1048576 := by
    have h1 := bulk_bound hk
    have h2 := bulk_part (d := d2) (l := [d0, d1, d2] ++ []) (by simp)
    omega
  obtain ⟨t, vb, rfl, hnm, hfl, hB⟩ := open_takerP h0 o0 hb0
  have hvo := taker_own o0
  obtain ⟨a, n, cap, rfl⟩ := okWide_slice Tryz.underlying25 o1
  obtain ⟨fuel, hf⟩ := h1
  obtain ⟨ao, n', cap', l, hcs, hl, hfits⟩ := Sto.open_recs hf hb1
  simp [Value.cells] at hcs
  obtain ⟨rfl, rfl, rfl⟩ := hcs
  obtain ⟨a2, n2, cap2, rfl⟩ := okWide_slice Tryz.underlying26 o2
  obtain ⟨fuel2, hf2⟩ := h2
  obtain ⟨ao2, n2', cap2', l2, hcs2, hl2, hfits2⟩ := open_turns hf2 hb2
  simp [Value.cells] at hcs2
  obtain ⟨rfl, rfl, rfl⟩ := hcs2
  exact consumerPlays_walk hM t hB hvo hnm hfl hl hfits hl2 hfits2
end Go.Proofs.YthhgfdeegnimjaaGreatDoor.Hnd
