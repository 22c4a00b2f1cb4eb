/- Parts of the proof, joined: blog.Open, walked.; (*Log).last, Blocks, Sync, walked.; (*Log).Blocks, Sync, Append, walked.; (*Log).Append, walked. -/
import Derived.Test.YtbgchhgdlceceaaGreatDoorPlansOwnUptoM33
namespace Go.Proofs.YtbgchhgdlceceaaGreatDoor.Log
open Go.RowKit Heap Dsk
open Subj (ML)
open Rec (Rc)
open Sto (recsV recsV_append recsV_one info_rec)

section
variable {W w : World} {F : Nat → Prop} {D : Nat} {room : Int} {A : List FileP}

/-- The log at G: of the disk at D, of blocks of so many bytes. -/
def LogAt (D G : Nat) (size : Int) (w : World) : Prop := w.heap[G]? = some (.cells #[.pointer (some ⟨D, 0, none⟩), .int .i64 size] 197 (0, 0))

/-- What Open tells: a log, its records. -/
def OpenPost (W : World) (F : Nat → Prop) (D : Nat) (room size : Int) (A : List FileP) (w : World) (e : Ending) (w' : World) : Prop :=
  ((size < 1 ∨ 4096 < size) ∧ e = .returned (.tuple #[.pointer none, .slice none 0 0, .int .i64 1]) ∧ w = w') ∨
  (¬ (size < 1 ∨ 4096 < size) ∧ ∃ G v, e = .returned (.tuple #[.pointer (some ⟨G, 0, none⟩), v, .int .i64 0]) ∧ DiskAt W F D room (openD A).2 w' ∧ LogAt D G size w' ∧ w.heap.size ≤ G ∧ Row w' 33 6 v (openD A).1.length (recsV (openD A).1) ∧ (∀ k, own v k → w.heap.size ≤ k) ∧ Heap.Touch F w w')

def OR (W : World) (F : Nat → Prop) (D : Nat) (room : Int) (A : List FileP) (nv : Value) (w1 : World) (k : Nat) (o : Value) (wr : World) : Prop :=
  DiskAt W F D room (stB A k) wr ∧ Row wr 3 1 nv A.length (numsV (A.map (·.n))) ∧ Row wr 33 6 o (outB A k).length (recsV (outB A k)) ∧ (∀ j, own o j → w1.heap.size ≤ j) ∧ Heap.Touch F w1 wr

set_option maxHeartbeats 4000000 in
set_option maxRecDepth 100000 in
theorem open_any (h : DiskAt W F D room A w) (hm : ML W) (size : Int) : Calls Tryz.prog 42 #[.pointer (some ⟨D, 0, none⟩), .int .i64 size] w (OpenPost W F D room size A w) := by
  by_cases hsz : size < 1 ∨ 4096 < size
  · rcases (show size < 1 ∨ (¬ size < 1 ∧ 4096 < size) from by omega) with h1 | ⟨h1, h2⟩
    all_goals
      have HS := Lib.hid hsz
      clear hsz h hm
      go_enter Tryz.func42, Tryz.ntmps42
      go_wp2_with fail
      go_ret3
      exact .inl ⟨HS.out, rfl, rfl⟩
  · have hs1 : ¬ size < 1 := by omega
    have hs2 : ¬ (4096 : Int) < size := by omega
    have HSZ := Lib.hid hsz
    have HH := Lib.hid h; have HL := Lib.hid (list_any h); have HML := Lib.hid hm
    clear h hm hsz
    obtain ⟨i0, hi, hz0, hz1, hz2⟩ := info_parts info_rec
    go_enter Tryz.func42, Tryz.ntmps42
    go_wp2_with fail
    refine HL.out.mono ?_
    rintro e w1 ⟨nv, rfl, hN⟩
    obtain ⟨a1, n1, hv⟩ := hN.2.1.slice
    obtain ⟨hNb, hNr, hNo⟩ := hN
    have hlenA : (A.map (·.n)).length = A.length := List.length_map _
    rw [hlenA] at hNr hv
    subst hv
    have hD1 : DiskAt W (fun k => F k ∧ k < w.heap.size) D room A w1 := HH.out.shrink.kept (hNb.mono HH.out.below.size) fun k hk hk2 => hNb.block k hk2
    have hst0 : stB A 0 = A := by unfold stB; rw [if_neg (by omega)]
    have hou0 : outB A 0 = [] := by unfold outB; simp
    have H0 := Lib.hid (show OR W (fun k => F k ∧ k < w.heap.size) D room A (.slice a1 A.length n1) w1 0 (.slice none 0 0) w1 from ⟨by rw [hst0]; exact hD1, hNr, by rw [hou0]; exact Row.nil _ _ _, fun k hk => by simp [own, Value.ownBlock] at hk, Heap.Touch.refl _ _⟩)
    have HSORT := Lib.hid HH.out.right.sorted; have HRT := Lib.hid HH.out.right
    have HNB := Lib.hid hNb; have HNL := Lib.hid (show ∀ k, own (.slice a1 A.length n1) k → w.heap.size ≤ k ∧ k < w1.heap.size from fun k hk => ⟨hNo k hk, hNr.lt k hk⟩)
    have hlen20 : A.length ≤ 20 := HH.out.right.few
    clear hNb hNr hNo hlenA hD1 HL hst0 hou0
    obtain ⟨n, hn⟩ : ∃ n, A.length = n := ⟨_, rfl⟩
    rw [hn] at hlen20 H0 HNL ⊢
    have HN := Lib.hid hn
    clear hn
    go_wp2_with fail
    go_loopw [7, 8, 24] (fun o b i wr => ∃ k : Nat, k ≤ n ∧ i = .int .i64 k ∧ b = .bool (decide (jB A < k)) ∧ Hid (OR W (fun k => F k ∧ k < w.heap.size) D room A (.slice a1 n n1) w1 k o wr)) (fun _ _ i _ => n - (intOf i).toNat)
    case atStart => exact ⟨0, Nat.zero_le _, rfl, by simp, H0⟩
    case round =>
      obtain ⟨k, hk, rfl, rfl, HR⟩ := hrel
      clear H0
      obtain ⟨hd, hnr, hor, hoo, ht⟩ := HR.out
      rw [HN.out] at hnr
      by_cases hlt : k < n
      · have hltz : (k : Int) < n := by omega
        obtain ⟨p, hp⟩ : ∃ p, A[k]? = some p := ⟨_, List.getElem?_eq_getElem (by rw [HN.out]; exact hlt)⟩
        rcases hnr.2 with ⟨_, h0⟩ | ⟨g, off, cap, cur, hv, _⟩
        · omega
        simp only [Value.slice.injEq, true_and] at hv
        obtain ⟨rfl, rfl⟩ := hv
        have hcell := hnr.cell k (by omega)
        have hnk : (numsV (A.map (·.n)))[k]? = some (.int .i64 p.n) := by
          obtain ⟨hkl, e⟩ := List.getElem?_eq_some_iff.1 hp
          subst e
          simp [numsV, hkl]
        rw [hnk] at hcell
        have hc0 := hcell.1
        have hgl := hnr.lt g (by simp [own, Value.ownBlock])
        have hpnum := HRT.out.num p (List.mem_of_getElem? hp)
        have hplen := HRT.out.len (List.mem_of_getElem? hp)
        have HPN := Lib.hid (show -9223372036854775808 ≤ p.n ∧ p.n ≤ 9223372036854775807 from ⟨by omega, by omega⟩)
        have HP := Lib.hid hp
        by_cases hbr : jB A < k
        · have hd1 : decide (jB A < k) = true := decide_eq_true hbr
          rw [hd1]
          obtain ⟨hg, hdl⟩ := stB_del HSORT.out hp hbr
          have hrm := remove_any hd p.n HPN.out
          have hrd : removeD (stB A k) p.n = (stB A (k + 1), 0) := by unfold removeD; rw [hg]; simp only; rw [hdl]
          rw [hrd] at hrm
          have HRM := Lib.hid hrm; have HOS := Lib.hid (outB_stay hbr)
          have HRR := Lib.hid (show Row wr 3 1 (.slice (some ⟨g, off, none⟩) n n1) n (numsV (A.map (·.n))) ∧ Row wr 33 6 u7 (outB A k).length (recsV (outB A k)) ∧ (∀ j, own u7 j → w1.heap.size ≤ j) ∧ Heap.Touch (fun k => F k ∧ k < w.heap.size) w1 wr from ⟨hnr, hor, hoo, ht⟩)
          clear hp hcell hnk hg hdl hrm hrd hd hnr hor hoo ht HR hd1
          go_wp2_with fail
          refine HRM.out.mono ?_
          rintro e w2 ⟨rfl, hd2, ht2⟩
          have hk1 : decide (jB A < k + 1) = true := decide_eq_true (by omega)
          have HNX := Lib.hid (show OR W (fun k => F k ∧ k < w.heap.size) D room A (.slice (some ⟨g, off, none⟩) n n1) w1 (k + 1) u7 w2 from by
            obtain ⟨r1, r2, r3, r4⟩ := HRR.out
            refine ⟨hd2, by rw [HN.out]; exact r1.kept fun j hj hlt => ht2.block j hlt fun e => by have := (HNL.out j hj).1; omega, ?_, r3, r4.after ht2⟩
            rw [HOS.out]
            exact r2.kept fun j hj hlt => ht2.block j hlt fun e => by have := r3 j hj; have := HNB.out.size; omega)
          clear hd2 ht2 HRM HRR
          go_wp2_with fail
          exact ⟨⟨k + 1, by omega, by go_num, by rw [decide_eq_true (show jB A < k + 1 by omega)], HNX⟩, by simp [intOf]; omega⟩
        · have hd1 : decide (jB A < k) = false := decide_eq_false hbr
          rw [hd1]
          have hst : stB A k = A := by unfold stB; rw [if_neg hbr]
          rw [hst] at hd
          have hgf := getF_mem HSORT.out (List.mem_of_getElem? hp)
          have hrd := read_any hd p.n HPN.out
          have hrdd : readD A p.n = (p.text, 0) := by unfold readD; rw [hgf]
          rw [hrdd] at hrd
          simp only at hrd
          obtain ⟨T, hT⟩ : ∃ T : ByteArray, (⟨p.text.toArray⟩ : ByteArray) = T := ⟨_, rfl⟩
          have hTl : T.data.toList = p.text := by rw [← hT]
          have hTs : T.size = p.text.length := by rw [← hT]; show p.text.toArray.size = _; simp
          rw [hT] at hrd
          have hwr : Below W.heap.size W wr := hd.below
          have hsc := scan_any T (by omega) (HML.out.below hwr)
          rw [hTl] at hsc
          obtain ⟨sc, hsce⟩ : ∃ sc, scan p.text = sc := ⟨_, rfl⟩
          rw [hsce] at hsc
          have hscl := scan_len p.text
          have hsle := scan_le p.text
          rw [hsce] at hscl hsle
          obtain ⟨rs, at_⟩ := sc
          simp only at hscl hsle
          obtain ⟨oa, oc, hov⟩ := hor.slice
          obtain ⟨ol, hol⟩ : ∃ ol, (outB A k).length = ol := ⟨_, rfl⟩
          have holb : ol ≤ 65536 := by rw [← hol]; exact outB_len HRT.out k
          rw [hol] at hor hov
          subst hov
          have hostep := outB_step hp (show k ≤ jB A by omega)
          rw [show recsF p = rs from by unfold recsF; rw [hsce]] at hostep
          have HRD := Lib.hid hrd; have HSC := Lib.hid hsc; have HOS := Lib.hid hostep; have HST := Lib.hid hst; have HSE := Lib.hid hsce; have HD := Lib.hid hd; have HTS := Lib.hid hTs; have HOL := Lib.hid hol; have HGF := Lib.hid hgf
          have HRR := Lib.hid (show Row wr 3 1 (.slice (some ⟨g, off, none⟩) n n1) n (numsV (A.map (·.n))) ∧ Row wr 33 6 (.slice oa ol oc) ol (recsV (outB A k)) ∧ (∀ j, own (.slice oa ol oc) j → w1.heap.size ≤ j) ∧ Heap.Touch (fun k => F k ∧ k < w.heap.size) w1 wr from ⟨hnr, hor, hoo, ht⟩)
          have hatb : at_ ≤ 65536 := by omega
          clear hp hcell hnk hd hnr hor hoo ht HR hd1 hst hgf hrd hrdd hT hTl hTs hwr hsc hsce hostep hol
          go_wp2_with fail
          refine HRD.out.mono ?_
          rintro e w' ⟨rfl, rfl⟩
          go_wp2_with fail
          refine HSC.out.mono ?_
          rintro e w2 ⟨sv, rfl, hr2, ho2, hb2⟩
          have hro2 : Row w2 33 6 (.slice oa ol oc) ol (recsV (outB A k)) := HRR.out.2.1.kept fun j _ hj => hb2.block j hj
          have HR2 := Lib.hid hr2; have HRO2 := Lib.hid hro2; have HO2 := Lib.hid ho2; have HB2 := Lib.hid hb2
          obtain ⟨sa, scp, rfl⟩ := hr2.slice
          clear hr2 ho2 hb2 hro2 HRD HSC
          go_wp2_with (at_builtin; refine Heap.wpList_append_rows rfl (.tmp 43) (.tmp 44) 25 rfl 33 i0 _ 6 72 Tryz.underlying25 hi hz0 hz1 hz2 rfl (by decide) _ _ ol rs.length _ _ rfl rfl HRO2.out HR2.out (recsV_one rs) (by unfold maxLen; omega) (by omega) ?_)
          intro v3 w3 r3 t3 o3
          have HN3 := Lib.hid (show DiskAt W (fun k => F k ∧ k < w.heap.size) D room A w3 ∧ Row w3 3 1 (.slice (some ⟨g, off, none⟩) n n1) n (numsV (A.map (·.n))) ∧ Row w3 33 6 v3 (outB A (k + 1)).length (recsV (outB A (k + 1))) ∧ (∀ j, own v3 j → w1.heap.size ≤ j) ∧ Heap.Touch (fun k => F k ∧ k < w.heap.size) w1 w3 from by
            have hwW := HD.out.below.size
            have hb2 := HB2.out
            obtain ⟨r1, _, r3', r4⟩ := HRR.out
            have hw1s : w.heap.size ≤ w1.heap.size := HNB.out.size
            have hw1r : w1.heap.size ≤ wr.heap.size := r4.size
            have hWw : W.heap.size ≤ w.heap.size := HH.out.below.size
            have ht23 : Heap.Touch (own (.slice oa ol oc)) wr w3 := (Heap.Touch.ofBelow hb2).after t3
            refine ⟨HD.out.kept (ht23.below (by omega) fun j hj => by have := r3' j hj; omega) fun j hj hlt => ht23.block j hlt fun e => by have := r3' j e; have := hj.2; omega, r1.kept fun j hj hlt => ht23.block j hlt fun e => by have := r3' j e; have := (HNL.out j hj).2; omega, ?_, fun j hj => ?_, ?_⟩
            · rw [HOS.out, List.length_append, HOL.out, recsV_append]; exact r3
            · rcases o3 j hj with e | e
              · exact r3' j e
              · have := hb2.size; omega
            · refine ⟨ht23.os.trans r4.os, ht23.tape.trans r4.tape, ht23.output.trans r4.output, Nat.le_trans r4.size ht23.size, fun j hj hnF => ?_⟩
              exact (ht23.block j (by omega) fun e => by have := r3' j e; omega).trans (r4.block j hj hnF))
          clear r3 t3 o3 HR2 HRO2 HO2 HB2 HD HRR
          by_cases hbad : at_ < p.text.length
          · have hjk : k = jB A := by
              rcases Nat.lt_or_ge k (jB A) with h | h
              · have := jB_good HP.out h
                unfold badF at this
                rw [HSE.out] at this
                simp at this; omega
              · omega
            have hbz : (at_ : Int) < T.size := by rw [HTS.out]; omega
            have hbn : at_ < T.size := by rw [HTS.out]; exact hbad
            obtain ⟨hg2, hset⟩ := stB_cut HSORT.out (by rw [← hjk]; exact HP.out)
            have hct := cut_any HN3.out.1 p.n at_ HPN.out
            have hcd : cutD A p.n at_ = (stB A (jB A + 1), 0) := by
              unfold cutD
              rw [HGF.out]
              simp only
              rw [if_neg (by omega), ← hset]
              unfold cutF
              rw [HSE.out]
              simp
            rw [hcd] at hct
            have HCT := Lib.hid hct
            have HJK := Lib.hid hjk
            clear hg2 hset hct hcd hjk hbad
            go_wp2_with fail
            refine HCT.out.mono ?_
            rintro e w4 ⟨rfl, hd4, ht4⟩
            have HNX := Lib.hid (show OR W (fun k => F k ∧ k < w.heap.size) D room A (.slice (some ⟨g, off, none⟩) n n1) w1 (k + 1) v3 w4 from by
              obtain ⟨_, r1, r2, r3, r4⟩ := HN3.out
              refine ⟨by rw [HJK.out]; exact hd4, by rw [HN.out]; exact r1.kept fun j hj hlt => ht4.block j hlt fun e => by have := (HNL.out j hj).1; omega, r2.kept fun j hj hlt => ht4.block j hlt fun e => by have := r3 j hj; have := HNB.out.size; omega, r3, r4.after ht4⟩)
            clear hd4 ht4 HCT
            go_wp2_with fail
            exact ⟨⟨k + 1, by omega, by go_num, by rw [decide_eq_true (show jB A < k + 1 by have := HJK.out; omega)], HNX⟩, by simp [intOf]; omega⟩
          · have hjk : k < jB A := by
              rcases Nat.lt_or_ge k (jB A) with h | h
              · exact h
              · have e : k = jB A := by omega
                have := jB_bad (p := p) (by rw [← e]; exact HP.out)
                unfold badF at this
                rw [HSE.out] at this
                simp at this; omega
            have hbz : ¬ (at_ : Int) < T.size := by rw [HTS.out]; omega
            have hbn : ¬ at_ < T.size := by rw [HTS.out]; exact hbad
            have HNX := Lib.hid (show OR W (fun k => F k ∧ k < w.heap.size) D room A (.slice (some ⟨g, off, none⟩) n n1) w1 (k + 1) v3 w3 from by
              obtain ⟨r0, r1, r2, r3, r4⟩ := HN3.out
              exact ⟨by unfold stB; rw [if_neg (by omega)]; exact r0, by rw [HN.out]; exact r1, r2, r3, r4⟩)
            clear hbad
            go_wp2_with fail
            exact ⟨⟨k + 1, by omega, by go_num, by rw [decide_eq_false (show ¬ jB A < k + 1 by omega)], HNX⟩, by simp [intOf]; omega⟩
      · have hltz : ¬ (k : Int) < n := by omega
        obtain rfl : k = n := by omega
        have hop := openD_all A
        rw [HN.out] at hop
        obtain ⟨G, hGe⟩ : ∃ G, wr.heap.size = G := ⟨_, rfl⟩
        obtain ⟨oa, oc, hov⟩ := hor.slice
        subst hov
        have HF := Lib.hid (show OpenPost W F D room size A w (.returned (.tuple #[.pointer (some ⟨G, 0, none⟩), .slice oa (outB A k).length oc, .int .i64 0])) (wr.alloc (.cells #[.pointer (some ⟨D, 0, none⟩), .int .i64 size] 197)) from by
          have hal : Below wr.heap.size wr (wr.alloc (.cells #[.pointer (some ⟨D, 0, none⟩), .int .i64 size] 197)) := (Below.refl _ _).alloc (Nat.le_refl _) _
          have hw1s : w.heap.size ≤ w1.heap.size := HNB.out.size
          have hw1r : w1.heap.size ≤ wr.heap.size := ht.size
          refine .inr ⟨HSZ.out, G, _, rfl, ?_, ?_, by omega, ?_, fun j hj => by have := hoo j hj; omega, ?_⟩
          · rw [hop]
            have hdn := hd.kept (hal.mono hd.below.size) fun j hj hlt => hal.block j hlt
            exact hdn.mono (fun j hj => hj.1) HH.out.newF
          · unfold LogAt; rw [← hGe]; exact heap_alloc_new wr _
          · rw [hop]; exact hor.kept fun j _ hj => hal.block j hj
          · exact ((Heap.Touch.ofBelow (F := F) HNB.out).after (ht.mono fun j _ e => e.1)).after (Heap.Touch.ofBelow hal))
        have HG := Lib.hid hGe
        clear hop hGe hd hnr hor hoo ht HR
        go_wp2_with fail
        rw [HG.out]
        go_ret3
        exact HF.out
end
end Go.Proofs.YtbgchhgdlceceaaGreatDoor.Log

namespace Go.Proofs.YtbgchhgdlceceaaGreatDoor.Log
open Go.RowKit Heap Dsk
open Subj (ML)

section
variable {W w : World} {F : Nat → Prop} {D G : Nat} {room size : Int} {A : List FileP}

theorem LogAt.below {w' : World} (h : LogAt D G size w) (hb : Below w.heap.size w w') : LogAt D G size w' := by
  unfold LogAt at h ⊢
  rw [hb.block G (heap_lt h)]; exact h

theorem LogAt.touch {w' : World} (h : LogAt D G size w) (ht : Heap.Touch F w w') (hn : ¬ F G) : LogAt D G size w' := by
  unfold LogAt at h ⊢
  rw [ht.block G (heap_lt h) hn]; exact h

theorem DiskAt.low {w' : World} (h : DiskAt W F D room A w) (hb : Below w.heap.size w w') : DiskAt W F D room A w' :=
  h.kept (hb.mono h.below.size) fun k _ hk2 => hb.block k hk2

theorem last_none (h : A.getLast? = none) : A = [] := by simpa using h

theorem last_some {p : FileP} (h : A.getLast? = some p) : p ∈ A ∧ 0 < A.length ∧ A[A.length - 1]? = some p := by
  rw [List.getLast?_eq_getElem?] at h
  have h2 := (List.getElem?_eq_some_iff.1 h).1
  exact ⟨List.mem_of_getElem? h, by omega, h⟩

set_option maxHeartbeats 2000000 in
set_option maxRecDepth 100000 in
theorem last_any (h : DiskAt W F D room A w) (hG : LogAt D G size w) : Calls Tryz.prog 117 #[.pointer (some ⟨G, 0, none⟩)] w fun e w' => e = .returned (.tuple #[.int .i64 (lastD A).1, .int .i64 ((lastD A).2 : Nat)]) ∧ Below w.heap.size w w' := by
  obtain ⟨c0, c1, cf⟩ := twoC hG
  have HL := Lib.hid (list_any h); have HH := Lib.hid h; have HG := Lib.hid hG
  clear h hG
  cases hla : A.getLast? with
  | none =>
    have hA := last_none hla
    have hld : lastD A = (-1, 0) := by unfold lastD; rw [hla]
    rw [hld]
    have HA := Lib.hid hA
    clear hla hA hld
    go_enter Tryz.func117, Tryz.ntmps117
    go_wp2_with fail
    refine HL.out.mono ?_
    rintro e w1 ⟨nv, rfl, hN⟩
    obtain ⟨a1, n1, hv⟩ := hN.2.1.slice
    rw [HA.out] at hv
    obtain rfl : nv = .slice a1 0 n1 := hv
    have HB := Lib.hid hN.1
    clear hN HL
    go_wp2_with fail
    go_ret2
    exact ⟨rfl, HB.out⟩
  | some p =>
    obtain ⟨hmem, hpos, hget⟩ := last_some hla
    have hld : lastD A = (p.n, p.text.length) := by unfold lastD; rw [hla]
    rw [hld]
    have hpnum := HH.out.right.num p hmem
    have hpl := HH.out.right.len hmem
    have hgf := getF_mem HH.out.right.sorted hmem
    have hfew := HH.out.right.few
    obtain ⟨n, hn⟩ : ∃ n, A.length = n := ⟨_, rfl⟩
    rw [hn] at hpos hget hfew
    have HGF := Lib.hid hgf; have HGE := Lib.hid hget; have HN := Lib.hid hn
    have HPN := Lib.hid (show -9223372036854775808 ≤ p.n ∧ p.n ≤ 9223372036854775807 from ⟨by omega, by omega⟩)
    clear hla hld hmem hgf hget hn
    go_enter Tryz.func117, Tryz.ntmps117
    go_wp2_with fail
    refine HL.out.mono ?_
    rintro e w1 ⟨nv, rfl, hN⟩
    obtain ⟨hb, hr, _⟩ := hN
    rw [List.length_map, HN.out] at hr
    rcases hr.2 with ⟨_, h0⟩ | ⟨g, off, cap, cur, rfl, _⟩
    · omega
    have hcell := hr.cell (n - 1) (by omega)
    have hnk : (numsV (A.map (·.n)))[n - 1]? = some (.int .i64 p.n) := by
      obtain ⟨hkl, e⟩ := List.getElem?_eq_some_iff.1 HGE.out
      subst e
      simp [numsV, hkl]
    rw [hnk] at hcell
    have hc0 := hcell.1
    rw [show off + (n - 1) = off + (n - 1) from rfl] at hc0
    have hd1 := DiskAt.low HH.out hb
    have hrd := read_any hd1 p.n HPN.out
    have hrdd : readD A p.n = (p.text, 0) := by unfold readD; rw [HGF.out]
    rw [hrdd] at hrd
    simp only at hrd
    obtain ⟨d0, d1, df⟩ := twoC (HG.out.below hb)
    have hnz : ¬ (n : Int) = 0 := by omega
    have HRD := Lib.hid hrd; have HB := Lib.hid hb
    clear hb hr hcell hnk hrd hrdd hd1 HL
    go_wp2_with fail
    refine HRD.out.mono ?_
    rintro e w' ⟨rfl, rfl⟩
    go_wp2_with fail
    go_ret2
    exact ⟨by simp [ByteArray.size], HB.out⟩
end
end Go.Proofs.YtbgchhgdlceceaaGreatDoor.Log

namespace Go.Proofs.YtbgchhgdlceceaaGreatDoor.Log
open Go.RowKit Heap Dsk
open Subj (ML)
open Rec (Rc recErr recA rcOf codedL ml_alloc)

theorem codedL_len {r : Rc} (h : recErr r = 0) : 10 ≤ (codedL r).length ∧ (codedL r).length ≤ 1037 := by
  have h1 := Rec.bodyL_len h
  have h2 := Rec.textL_len (Rec.bodyL r)
  unfold codedL
  rw [List.length_append, Rec.sum4_len]
  omega

section
variable {W w : World} {F : Nat → Prop} {D G : Nat} {room size : Int} {A : List FileP}

end
end Go.Proofs.YtbgchhgdlceceaaGreatDoor.Log

namespace Go.Proofs.YtbgchhgdlceceaaGreatDoor.Log
open Go.RowKit Heap Dsk
open Subj (ML)
open Rec (Rc recErr recA rcOf codedL ml_alloc)

section
variable {W w : World} {F : Nat → Prop} {D G : Nat} {room size : Int} {A : List FileP}

/-- What Append leaves. -/
def AddPost (W : World) (F : Nat → Prop) (D : Nat) (room : Int) (w : World) (o : List FileP × Nat) (e : Ending) (w' : World) : Prop :=
  e = .returned (.int .i64 (o.2 : Nat)) ∧ DiskAt W (Grow F w) D room o.1 w' ∧ Heap.Touch F w w'

theorem AddPost.of {w0 w1 w' : World} {o : List FileP × Nat} {e : Ending} (h : DiskAt W F D room A w) (t0 : Heap.Touch F w w1) (h1 : e = .returned (.int .i64 (o.2 : Nat)) ∧ DiskAt W (Grow F w1) D room o.1 w' ∧ Heap.Touch F w1 w') : AddPost W F D room w o e w' :=
  ⟨h1.1, h1.2.1.mono (fun k hk => hk.imp_right fun e => Nat.le_trans t0.size e) (Grow.new h), t0.after h1.2.2⟩

end
end Go.Proofs.YtbgchhgdlceceaaGreatDoor.Log
