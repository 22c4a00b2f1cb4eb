/- Parts of the proof, joined: (*Log).last, Blocks, Sync, walked.; (*Log).Blocks, Sync, Append, walked.; (*Log).Append, walked.; (*Log).Rewrite, walked.; LogFront in plain Lean: what a log tells behind a stop. -/
import Derived.Test.YtbgchhgdlceceaaGreatDoorStrmBaseM10
namespace Go.Proofs.YtbgchhgdlceceaaGreatDoor.Log
open Go.RowKit Heap Dsk
open Subj (ML)

section
variable {W w : World} {F : Nat → Prop} {D G : Nat} {room size : Int} {A : List FileP}

theorem LogAt.below {w' : World} (h : LogAt D G size w) (hb : Below w.heap.size w w') : LogAt D G size w' := by
  unfold LogAt at h ⊢
  rw [hb.block G (heap_lt h)]; exact h

theorem LogAt.touch {w' : World} (h : LogAt D G size w) (ht : Heap.Touch F w w') (hn : ¬ F G) : LogAt D G size w' := by
  unfold LogAt at h ⊢
  rw [ht.block G (heap_lt h) hn]; exact h

theorem DiskAt.low {w' : World} (h : DiskAt W F D room A w) (hb : Below w.heap.size w w') : DiskAt W F D room A w' :=
  h.kept (hb.mono h.below.size) fun k _ hk2 => hb.block k hk2

theorem last_none (h : A.getLast? = none) : A = [] := by simpa using h

theorem last_some {p : FileP} (h : A.getLast? = some p) : p ∈ A ∧ 0 < A.length ∧ A[A.length - 1]? = some p := by
  rw [List.getLast?_eq_getElem?] at h
  have h2 := (List.getElem?_eq_some_iff.1 h).1
  exact ⟨List.mem_of_getElem? h, by omega, h⟩

set_option maxHeartbeats 2000000 in
set_option maxRecDepth 100000 in
theorem last_any (h : DiskAt W F D room A w) (hG : LogAt D G size w) : Calls Tryz.prog 117 #[.pointer (some ⟨G, 0, none⟩)] w fun e w' => e = .returned (.tuple #[.int .i64 (lastD A).1, .int .i64 ((lastD A).2 : Nat)]) ∧ Below w.heap.size w w' := by
  obtain ⟨c0, c1, cf⟩ := twoC hG
  have HL := Lib.hid (list_any h); have HH := Lib.hid h; have HG := Lib.hid hG
  clear h hG
  cases hla : A.getLast? with
  | none =>
    have hA := last_none hla
    have hld : lastD A = (-1, 0) := by unfold lastD; rw [hla]
    rw [hld]
    have HA := Lib.hid hA
    clear hla hA hld
    go_enter Tryz.func117, Tryz.ntmps117
    go_wp2_with fail
    refine HL.out.mono ?_
    rintro e w1 ⟨nv, rfl, hN⟩
    obtain ⟨a1, n1, hv⟩ := hN.2.1.slice
    rw [HA.out] at hv
    obtain rfl : nv = .slice a1 0 n1 := hv
    have HB := Lib.hid hN.1
    clear hN HL
    go_wp2_with fail
    go_ret2
    exact ⟨rfl, HB.out⟩
  | some p =>
    obtain ⟨hmem, hpos, hget⟩ := last_some hla
    have hld : lastD A = (p.n, p.text.length) := by unfold lastD; rw [hla]
    rw [hld]
    have hpnum := HH.out.right.num p hmem
    have hpl := HH.out.right.len hmem
    have hgf := getF_mem HH.out.right.sorted hmem
    have hfew := HH.out.right.few
    obtain ⟨n, hn⟩ : ∃ n, A.length = n := ⟨_, rfl⟩
    rw [hn] at hpos hget hfew
    have HGF := Lib.hid hgf; have HGE := Lib.hid hget; have HN := Lib.hid hn
    have HPN := Lib.hid (show -9223372036854775808 ≤ p.n ∧ p.n ≤ 9223372036854775807 from ⟨by omega, by omega⟩)
    clear hla hld hmem hgf hget hn
    go_enter Tryz.func117, Tryz.ntmps117
    go_wp2_with fail
    refine HL.out.mono ?_
    rintro e w1 ⟨nv, rfl, hN⟩
    obtain ⟨hb, hr, _⟩ := hN
    rw [List.length_map, HN.out] at hr
    rcases hr.2 with ⟨_, h0⟩ | ⟨g, off, cap, cur, rfl, _⟩
    · omega
    have hcell := hr.cell (n - 1) (by omega)
    have hnk : (numsV (A.map (·.n)))[n - 1]? = some (.int .i64 p.n) := by
      obtain ⟨hkl, e⟩ := List.getElem?_eq_some_iff.1 HGE.out
      subst e
      simp [numsV, hkl]
    rw [hnk] at hcell
    have hc0 := hcell.1
    rw [show off + (n - 1) = off + (n - 1) from rfl] at hc0
    have hd1 := DiskAt.low HH.out hb
    have hrd := read_any hd1 p.n HPN.out
    have hrdd : readD A p.n = (p.text, 0) := by unfold readD; rw [HGF.out]
    rw [hrdd] at hrd
    simp only at hrd
    obtain ⟨d0, d1, df⟩ := twoC (HG.out.below hb)
    have hnz : ¬ (n : Int) = 0 := by omega
    have HRD := Lib.hid hrd; have HB := Lib.hid hb
    clear hb hr hcell hnk hrd hrdd hd1 HL
    go_wp2_with fail
    refine HRD.out.mono ?_
    rintro e w' ⟨rfl, rfl⟩
    go_wp2_with fail
    go_ret2
    exact ⟨by simp, HB.out⟩
end
end Go.Proofs.YtbgchhgdlceceaaGreatDoor.Log

namespace Go.Proofs.YtbgchhgdlceceaaGreatDoor.Log
open Go.RowKit Heap Dsk
open Subj (ML)
open Rec (Rc recErr recA rcOf codedL ml_alloc)

theorem codedL_len {r : Rc} (h : recErr r = 0) : 10 ≤ (codedL r).length ∧ (codedL r).length ≤ 1037 := by
  have h1 := Rec.bodyL_len h
  have h2 := Rec.textL_len (Rec.bodyL r)
  unfold codedL
  rw [List.length_append, Rec.sum4_len]
  omega

section
variable {W w : World} {F : Nat → Prop} {D G : Nat} {room size : Int} {A : List FileP}

theorem syncL_right (h : DiskAt W F D room A w) : (syncL A = A ∧ (lastD A).1 < 0) ∨ (∃ p, A.getLast? = some p ∧ lastD A = (p.n, p.text.length) ∧ 0 ≤ p.n ∧ p.n ≤ 1099511627776 ∧ syncD A p.n = (syncL A, 0)) := by
  cases hla : A.getLast? with
  | none => exact .inl ⟨by unfold syncL; rw [hla], by unfold lastD; rw [hla]; simp⟩
  | some p =>
    have hm := (last_some hla).1
    have hn := h.right.num p hm
    refine .inr ⟨p, rfl, by unfold lastD; rw [hla], hn.1, hn.2, ?_⟩
    unfold syncL
    rw [hla]
    simp only
    unfold syncD
    rw [getF_mem h.right.sorted hm]

set_option maxHeartbeats 2000000 in
set_option maxRecDepth 100000 in
theorem sync_log (h : DiskAt W F D room A w) (hG : LogAt D G size w) : Calls Tryz.prog 49 #[.pointer (some ⟨G, 0, none⟩)] w fun e w' => e = .returned (.int .i64 0) ∧ DiskAt W F D room (syncL A) w' ∧ Heap.Touch F w w' := by
  have HLA := Lib.hid (last_any h hG)
  have HG := Lib.hid hG; have HH := Lib.hid h
  rcases syncL_right h with ⟨hs, hl⟩ | ⟨p, hla, hl, hn0, hn1, hs⟩
  · have hln : ¬ (0 : Int) ≤ (lastD A).1 := by omega
    have HS := Lib.hid hs
    clear h hG hs
    generalize (lastD A).1 = x at *
    generalize (lastD A).2 = y at *
    go_enter Tryz.func49, Tryz.ntmps49
    go_wp2_with fail
    refine HLA.out.mono ?_
    rintro e w1 ⟨rfl, hb⟩
    have HB := Lib.hid hb
    clear hb HLA
    go_wp2_with fail
    go_ret
    exact ⟨rfl, by rw [HS.out]; exact DiskAt.low HH.out HB.out, Heap.Touch.ofBelow HB.out⟩
  · rw [hl] at HLA
    simp only at HLA
    have HS := Lib.hid hs
    have HPN := Lib.hid (show -9223372036854775808 ≤ p.n ∧ p.n ≤ 9223372036854775807 from ⟨by omega, by omega⟩)
    clear h hG hs hla hl
    go_enter Tryz.func49, Tryz.ntmps49
    go_wp2_with fail
    refine HLA.out.mono ?_
    rintro e w1 ⟨rfl, hb⟩
    have HB := Lib.hid hb
    obtain ⟨d0, d1, df⟩ := twoC (HG.out.below hb)
    have hsy := sync_any (DiskAt.low HH.out hb) p.n HPN.out
    rw [HS.out] at hsy
    have HSY := Lib.hid hsy
    clear hb HLA hsy
    go_wp2_with fail
    refine HSY.out.mono ?_
    rintro e w2 ⟨rfl, hd2, ht2⟩
    have HF := Lib.hid (And.intro hd2 ht2)
    clear hd2 ht2 HSY
    go_wp2_with fail
    go_ret
    exact ⟨rfl, HF.out.1, (Heap.Touch.ofBelow HB.out).after HF.out.2⟩
end
end Go.Proofs.YtbgchhgdlceceaaGreatDoor.Log

namespace Go.Proofs.YtbgchhgdlceceaaGreatDoor.Log
open Go.RowKit Heap Dsk
open Subj (ML)
open Rec (Rc recErr recA rcOf codedL ml_alloc)

section
variable {W w : World} {F : Nat → Prop} {D G : Nat} {room size : Int} {A : List FileP}

/-- What Append leaves. -/
def AddPost (W : World) (F : Nat → Prop) (D : Nat) (room : Int) (w : World) (o : List FileP × Nat) (e : Ending) (w' : World) : Prop :=
  e = .returned (.int .i64 (o.2 : Nat)) ∧ DiskAt W (Grow F w) D room o.1 w' ∧ Heap.Touch F w w'

theorem AddPost.of {_w0 w1 w' : World} {o : List FileP × Nat} {e : Ending} (h : DiskAt W F D room A w) (t0 : Heap.Touch F w w1) (h1 : e = .returned (.int .i64 (o.2 : Nat)) ∧ DiskAt W (Grow F w1) D room o.1 w' ∧ Heap.Touch F w1 w') : AddPost W F D room w o e w' :=
  ⟨h1.1, h1.2.1.mono (fun _k hk => hk.imp_right fun e => Nat.le_trans t0.size e) (Grow.new h), t0.after h1.2.2⟩

set_option maxHeartbeats 4000000 in
set_option maxRecDepth 100000 in
theorem add_log (k q t : Int) (s h d : ByteArray) (hs : s.size ≤ 1048576) (hh : h.size ≤ 1048576) (hd : d.size ≤ 1048576) (hD : DiskAt W F D room A w) (hm : ML W) (hG : LogAt D G size w) (hnF : ¬ F G) (hsz : 1 ≤ size ∧ size ≤ 4096) :
    Calls Tryz.prog 48 #[.pointer (some ⟨G, 0, none⟩), .agg (recA k q t s h d)] w (AddPost W F D room w (logD room size A (rcOf k q t s h d))) := by
  have hb0 : Below w.heap.size w (w.alloc (.cells (recA k q t s h d) 33)) := (Below.refl _ _).alloc (Nat.le_refl _) _
  have HB0 := Lib.hid hb0; have HDD := Lib.hid hD; have HG := Lib.hid hG; have HNF := Lib.hid hnF
  have HML := Lib.hid (ml_alloc (hm.below hD.below) (.cells (recA k q t s h d) 33))
  by_cases her : recErr (rcOf k q t s h d) = 0
  · have HEN := Lib.hid fun (w : World) (hm : ML w) => Rec.encode_ok k q t s h d w hs hh hd hm her
    have hcl := codedL_len her
    have hlo : logD room size A (rcOf k q t s h d) = putD room size A (codedL (rcOf k q t s h d)) := by unfold logD; rw [if_neg (by simp [her])]
    rw [hlo]
    generalize codedL (rcOf k q t s h d) = C at *
    obtain ⟨E, hE⟩ : ∃ E : ByteArray, (⟨C.toArray⟩ : ByteArray) = E := ⟨_, rfl⟩
    have hEl : E.data.toList = C := by rw [← hE]
    have hEs : E.size = C.length := by rw [← hE]; show C.toArray.size = _; simp
    rw [hE] at HEN
    have HEL := Lib.hid hEl
    rw [← hEs] at hcl
    cases hla : A.getLast? with
    | none =>
      have hput : putD room size A C = appD room A 0 C := by unfold putD; rw [hla]
      have hld : lastD A = (-1, 0) := by unfold lastD; rw [hla]
      rw [hput]
      have HLD := Lib.hid hld
      clear hs hh hd hD hm hG hnF hb0 her hlo hE hEl hla hput hld
      unfold recA at *
      go_enter Tryz.func48, Tryz.ntmps48
      go_wp2_with fail
      refine (HEN.out _ HML.out).mono ?_
      rintro e w1 ⟨rfl, hb⟩
      have hw1 : Below w.heap.size w w1 := HB0.out.trans (hb.mono HB0.out.size)
      have hla1 := last_any (DiskAt.low HDD.out hw1) (HG.out.below hw1)
      rw [HLD.out] at hla1
      have HB1 := Lib.hid hw1; have HLA := Lib.hid hla1
      clear hb hw1 hla1 HEN HML
      go_wp2_with fail
      refine HLA.out.mono ?_
      rintro e w2 ⟨rfl, hb⟩
      have hw2 : Below w.heap.size w w2 := HB1.out.trans (hb.mono HB1.out.size)
      have hap := append_any (DiskAt.low HDD.out hw2) 0 E (by omega) (by omega)
      rw [HEL.out] at hap
      obtain ⟨d0, d1, df⟩ := twoC (HG.out.below hw2)
      have HB2 := Lib.hid hw2; have HAP := Lib.hid hap
      clear hb hw2 hap HLA
      go_wp2_with fail
      refine HAP.out.mono ?_
      rintro e w3 ⟨rfl, hd3, ht3⟩
      have HF := Lib.hid (AddPost.of (_w0 := w) HDD.out (Heap.Touch.ofBelow HB2.out) ⟨rfl, hd3, ht3⟩)
      clear hd3 ht3 HAP
      go_wp2_with fail
      go_ret
      exact HF.out
    | some p =>
      have hmem := (last_some hla).1
      have hpn := HDD.out.right.num p hmem
      have hpl := HDD.out.right.len hmem
      have hld : lastD A = (p.n, p.text.length) := by unfold lastD; rw [hla]
      have HLD := Lib.hid hld
      have hpn0 : ¬ p.n < 0 := by omega
      have hpn1 : (0 : Int) ≤ p.n := hpn.1
      have HPN := Lib.hid (show -9223372036854775808 ≤ p.n ∧ p.n ≤ 9223372036854775807 from ⟨by omega, by omega⟩)
      have HPN1 := Lib.hid (show -9223372036854775808 ≤ p.n + 1 ∧ p.n + 1 ≤ 9223372036854775807 from ⟨by omega, by omega⟩)
      rcases (show ¬ 0 < p.text.length ∨ (0 < p.text.length ∧ ¬ size < p.text.length + C.length) ∨ (0 < p.text.length ∧ size < p.text.length + C.length) from by omega) with hz | ⟨hz, hz2⟩ | ⟨hz, hz2⟩
      · have hput : putD room size A C = appD room A p.n C := by unfold putD; rw [hla]; simp only; rw [if_neg fun e => hz e.1]
        rw [hput]
        obtain ⟨pl, hpl2⟩ : ∃ pl, p.text.length = pl := ⟨_, rfl⟩
        rw [hpl2] at hz hpl HLD
        obtain rfl : pl = 0 := by omega
        clear hs hh hd hD hm hG hnF hb0 her hlo hE hEl hla hput hld hmem hpl2
        unfold recA at *
        go_enter Tryz.func48, Tryz.ntmps48
        go_wp2_with fail
        refine (HEN.out _ HML.out).mono ?_
        rintro e w1 ⟨rfl, hb⟩
        have hw1 : Below w.heap.size w w1 := HB0.out.trans (hb.mono HB0.out.size)
        have hla1 := last_any (DiskAt.low HDD.out hw1) (HG.out.below hw1)
        rw [HLD.out] at hla1
        have HB1 := Lib.hid hw1; have HLA := Lib.hid hla1
        clear hb hw1 hla1 HEN HML
        go_wp2_with fail
        refine HLA.out.mono ?_
        rintro e w2 ⟨rfl, hb⟩
        have hw2 : Below w.heap.size w w2 := HB1.out.trans (hb.mono HB1.out.size)
        have hap := append_any (DiskAt.low HDD.out hw2) p.n E HPN.out (by omega)
        rw [HEL.out] at hap
        obtain ⟨d0, d1, df⟩ := twoC (HG.out.below hw2)
        have HB2 := Lib.hid hw2; have HAP := Lib.hid hap
        clear hb hw2 hap HLA
        go_wp2_with fail
        refine HAP.out.mono ?_
        rintro e w3 ⟨rfl, hd3, ht3⟩
        have HF := Lib.hid (AddPost.of (_w0 := w) HDD.out (Heap.Touch.ofBelow HB2.out) ⟨rfl, hd3, ht3⟩)
        clear hd3 ht3 HAP
        go_wp2_with fail
        go_ret
        exact HF.out
      · have hput : putD room size A C = appD room A p.n C := by unfold putD; rw [hla]; simp only; rw [if_neg fun e => hz2 e.2]
        rw [hput]
        obtain ⟨pl, hpl2⟩ : ∃ pl, p.text.length = pl := ⟨_, rfl⟩
        rw [hpl2] at hz hz2 hpl HLD
        have hzz : (0 : Int) < (pl : Nat) := by omega
        have hzz2 : ¬ size < (pl : Int) + (E.size : Nat) := by rw [hEs]; omega
        clear hs hh hd hD hm hG hnF hb0 her hlo hE hEl hla hput hld hmem hpl2
        unfold recA at *
        go_enter Tryz.func48, Tryz.ntmps48
        go_wp2_with fail
        refine (HEN.out _ HML.out).mono ?_
        rintro e w1 ⟨rfl, hb⟩
        have hw1 : Below w.heap.size w w1 := HB0.out.trans (hb.mono HB0.out.size)
        have hla1 := last_any (DiskAt.low HDD.out hw1) (HG.out.below hw1)
        rw [HLD.out] at hla1
        have HB1 := Lib.hid hw1; have HLA := Lib.hid hla1
        clear hb hw1 hla1 HEN HML
        go_wp2_with fail
        refine HLA.out.mono ?_
        rintro e w2 ⟨rfl, hb⟩
        have hw2 : Below w.heap.size w w2 := HB1.out.trans (hb.mono HB1.out.size)
        have hap := append_any (DiskAt.low HDD.out hw2) p.n E HPN.out (by omega)
        rw [HEL.out] at hap
        obtain ⟨d0, d1, df⟩ := twoC (HG.out.below hw2)
        have HB2 := Lib.hid hw2; have HAP := Lib.hid hap
        clear hb hw2 hap HLA
        go_wp2_with fail
        refine HAP.out.mono ?_
        rintro e w3 ⟨rfl, hd3, ht3⟩
        have HF := Lib.hid (AddPost.of (_w0 := w) HDD.out (Heap.Touch.ofBelow HB2.out) ⟨rfl, hd3, ht3⟩)
        clear hd3 ht3 HAP
        go_wp2_with fail
        go_ret
        exact HF.out
      · have hput : putD room size A C = appD room (syncD A p.n).1 (p.n + 1) C := by unfold putD; rw [hla]; simp only; rw [if_pos ⟨hz, hz2⟩]
        rw [hput]
        obtain ⟨pl, hpl2⟩ : ∃ pl, p.text.length = pl := ⟨_, rfl⟩
        rw [hpl2] at hz hz2 hpl HLD
        have hzz : (0 : Int) < (pl : Nat) := by omega
        have hzz2 : size < (pl : Int) + (E.size : Nat) := by rw [hEs]; omega
        clear hs hh hd hD hm hG hnF hb0 her hlo hE hEl hla hput hld hmem hpl2
        unfold recA at *
        go_enter Tryz.func48, Tryz.ntmps48
        go_wp2_with fail
        refine (HEN.out _ HML.out).mono ?_
        rintro e w1 ⟨rfl, hb⟩
        have hw1 : Below w.heap.size w w1 := HB0.out.trans (hb.mono HB0.out.size)
        have hla1 := last_any (DiskAt.low HDD.out hw1) (HG.out.below hw1)
        rw [HLD.out] at hla1
        have HB1 := Lib.hid hw1; have HLA := Lib.hid hla1
        clear hb hw1 hla1 HEN HML
        go_wp2_with fail
        refine HLA.out.mono ?_
        rintro e w2 ⟨rfl, hb⟩
        have hw2 : Below w.heap.size w w2 := HB1.out.trans (hb.mono HB1.out.size)
        have hsy := sync_any (DiskAt.low HDD.out hw2) p.n HPN.out
        obtain ⟨d0, d1, df⟩ := twoC (HG.out.below hw2)
        have HB2 := Lib.hid hw2; have HSY := Lib.hid hsy
        clear hb hw2 hsy HLA
        go_wp2_with fail
        refine HSY.out.mono ?_
        rintro e w3 ⟨rfl, hd3, ht3⟩
        have hap := append_any hd3 (p.n + 1) E HPN1.out (by omega)
        rw [HEL.out] at hap
        obtain ⟨d30, d31, d3f⟩ := twoC ((HG.out.below HB2.out).touch ht3 HNF.out)
        have HB3 := Lib.hid ((Heap.Touch.ofBelow HB2.out).after ht3); have HAP := Lib.hid hap
        clear hd3 ht3 hap HSY
        go_wp2_with fail
        refine HAP.out.mono ?_
        rintro e w4 ⟨rfl, hd4, ht4⟩
        have HF := Lib.hid (AddPost.of (_w0 := w) HDD.out HB3.out ⟨rfl, hd4, ht4⟩)
        clear hd4 ht4 HAP
        go_wp2_with fail
        go_ret
        exact HF.out
  · have HEN := Lib.hid fun (w : World) (hm : ML w) => Rec.encode_bad k q t s h d w hs hh hd hm her
    have hlo : logD room size A (rcOf k q t s h d) = (A, recErr (rcOf k q t s h d)) := by unfold logD; rw [if_pos her]
    rw [hlo]
    generalize recErr (rcOf k q t s h d) = C at *
    have hC : ¬ (C : Int) = 0 := by omega
    clear hs hh hd hD hm hG hnF hb0 her hlo
    unfold recA at *
    go_enter Tryz.func48, Tryz.ntmps48
    go_wp2_with fail
    refine (HEN.out _ HML.out).mono ?_
    rintro e w1 ⟨rfl, hb⟩
    have hw1 : Below w.heap.size w w1 := HB0.out.trans (hb.mono HB0.out.size)
    have HB1 := Lib.hid hw1
    clear hb hw1 HEN HML
    go_wp2_with fail
    go_ret
    exact ⟨rfl, (DiskAt.low HDD.out HB1.out).mono (fun k hk => .inl hk) (Grow.new HDD.out), Heap.Touch.ofBelow HB1.out⟩
end
end Go.Proofs.YtbgchhgdlceceaaGreatDoor.Log

namespace Go.Proofs.YtbgchhgdlceceaaGreatDoor.Log
open Go.RowKit Heap Dsk
open Subj (ML)
open Rec (Rc recErr recA rcOf codedL ml_alloc)
open Sto (recsV RecsAt Fits parts sixC)

/-! what it computes -/
theorem getF_above {A : List FileP} {n : Int} (h : ∀ x ∈ A, x.n < n) : getF A n = none := by
  cases h2 : getF A n with
  | none => rfl
  | some p =>
    obtain ⟨e1, e2⟩ := getF_n h2
    have := h p e2
    omega

theorem insF_above : ∀ {A : List FileP} (q : FileP), (∀ x ∈ A, x.n < q.n) → insF A q = A ++ [q]
  | [], _, _ => rfl
  | a :: r, q, h => by
    have h1 := h a (by simp)
    unfold insF
    rw [if_neg (by omega), insF_above q fun x hx => h x (List.mem_cons_of_mem _ hx)]
    rfl

theorem getF_last {A : List FileP} (p : FileP) (h : ∀ x ∈ A, x.n < p.n) : getF (A ++ [p]) p.n = some p := by
  induction A with
  | nil => simp [getF]
  | cons a r ih =>
    have h1 := h a (by simp)
    simp only [List.cons_append, getF]
    rw [if_neg (by omega)]
    exact ih fun x hx => h x (List.mem_cons_of_mem _ hx)

theorem setF_last : ∀ {A : List FileP} (p q : FileP), (∀ x ∈ A, x.n < q.n) → p.n = q.n → setF (A ++ [p]) q = A ++ [q]
  | [], p, q, _, e => by simp [setF, e]
  | a :: r, p, q, h, e => by
    have h1 := h a (by simp)
    simp only [List.cons_append, setF]
    rw [if_neg (by omega), setF_last p q (fun x hx => h x (List.mem_cons_of_mem _ hx)) e]

end Go.Proofs.YtbgchhgdlceceaaGreatDoor.Log

namespace Go.Proofs.YtbgchhgdlceceaaGreatDoor.Log
open Dsk Rec

theorem textsL_cons (r : Rc) (l : List Rc) : textsL (r :: l) = codedL r ++ textsL l := rfl
theorem textsL_append (a b : List Rc) : textsL (a ++ b) = textsL a ++ textsL b := by simp [textsL]

/-- A front of some records' texts: some of the records. -/
theorem scan_front : ∀ (g : List Rc) (t : Nat), (∀ r ∈ g, recErr r = 0) → ∃ c, c ≤ g.length ∧ scan ((textsL g).take t) = (g.take c, (textsL (g.take c)).length) ∧ ∀ k, k ≤ g.length → (textsL (g.take k)).length ≤ t → k ≤ c
  | [], t, _ => ⟨0, by simp, by simp [textsL, scan_nil], fun k hk _ => by simpa using hk⟩
  | r :: g, t, h => by
    have hr := h r (by simp)
    have hl := codedL_len hr
    by_cases hlt : t < (codedL r).length
    · refine ⟨0, by simp, ?_, fun k hk hle => ?_⟩
      · rw [textsL_cons, List.take_append_of_le_length (by omega)]
        have := decL_front hr t hlt
        rw [scan_bad (by rw [this]; simp)]
        simp [textsL]
      · cases k with
        | zero => omega
        | succ k =>
          rw [List.take_succ_cons, textsL_cons, List.length_append] at hle
          omega
    · obtain ⟨c, hc, hs, hm⟩ := scan_front g (t - (codedL r).length) fun x hx => h x (List.mem_cons_of_mem _ hx)
      refine ⟨c + 1, by simp; omega, ?_, fun k hk hle => ?_⟩
      · have e : (textsL (r :: g)).take t = codedL r ++ (textsL g).take (t - (codedL r).length) := by
          rw [textsL_cons, List.take_append]
          rw [List.take_of_length_le (by omega)]
        rw [e]
        have hd := decL_coded hr ((textsL g).take (t - (codedL r).length))
        rw [scan_step (by intro e2; have := congrArg List.length e2; rw [List.length_append, List.length_nil] at this; omega) (by rw [hd]), hd]
        simp only [List.drop_left]
        rw [hs]
        simp only [List.take_succ_cons, textsL_cons, List.length_append]
      · cases k with
        | zero => omega
        | succ k =>
          rw [List.take_succ_cons, textsL_cons, List.length_append] at hle
          simp only [List.length_cons] at hk
          have := hm k (by omega) (by omega)
          omega

theorem scan_all {g : List Rc} (h : ∀ r ∈ g, recErr r = 0) : scan (textsL g) = (g, (textsL g).length) := by
  obtain ⟨c, hc, hs, hm⟩ := scan_front g (textsL g).length h
  have := hm g.length (Nat.le_refl _) (by rw [List.take_length]; exact Nat.le_refl _)
  obtain rfl : c = g.length := by omega
  rw [List.take_length, List.take_of_length_le (Nat.le_refl _)] at hs
  exact hs

/-- Blocks that are whole and sure, of these records. -/
def Good : List FileP → List Rc → Prop
  | [], l => l = []
  | p :: r, l => ∃ g gs, l = g ++ gs ∧ p.text = textsL g ∧ p.sure = p.text.length ∧ Good r gs

theorem Good.snoc {g : List Rc} {p : FileP} (hp : p.text = textsL g) (hs : p.sure = p.text.length) : ∀ {A : List FileP} {l : List Rc}, Good A l → Good (A ++ [p]) (l ++ g)
  | [], l, h => by
    have h : l = [] := h
    subst h
    exact ⟨g, [], by simp, hp, hs, rfl⟩
  | a :: r, l, ⟨g0, gs, e, h1, h2, h3⟩ => ⟨g0, gs ++ g, by rw [e, List.append_assoc], h1, h2, h3.snoc hp hs⟩

theorem Good.crash {K : Nat} : ∀ {A : List FileP} {l : List Rc}, Good A l → crashD A K = A
  | [], _, _ => rfl
  | a :: r, l, ⟨g0, gs, e, h1, h2, h3⟩ => by
    have := h3.crash (K := K)
    unfold crashD at this ⊢
    rw [List.map_cons, this]
    congr 1
    obtain ⟨n, t, s⟩ := a
    simp only at h2
    subst h2
    unfold keptF
    simp

/-- What always is so of the log's blocks: all that was appended, and how many of these are sure. -/
structure Inv (A : List FileP) (all : List Rc) (sure : Nat) : Prop where
  ok : ∀ r ∈ all, recErr r = 0
  parts : ∃ pre p gp gl c, A = pre ++ [p] ∧ all = gp ++ gl ∧ Good pre gp ∧ p.text = textsL gl ∧ c ≤ gl.length ∧ (textsL (gl.take c)).length ≤ p.sure ∧ sure ≤ gp.length + c

theorem Inv.start (n : Int) : Inv [⟨n, [], 0⟩] [] 0 := ⟨fun _ h => (by cases h), [], _, [], [], 0, rfl, rfl, rfl, rfl, Nat.le_refl _, by simp [textsL], Nat.le_refl _⟩

theorem Inv.add {A : List FileP} {all : List Rc} {sure : Nat} {room size : Int} {r : Rc} (h : Inv A all sure) (hs : Sorted A) :
    ((logD room size A r).2 = 0 → Inv (logD room size A r).1 (all ++ [r]) sure) ∧ ((logD room size A r).2 ≠ 0 → Inv (logD room size A r).1 all sure) := by
  unfold logD
  by_cases her : recErr r ≠ 0
  · rw [if_pos her]
    exact ⟨fun e => absurd e her, fun _ => h⟩
  · rw [if_neg her]
    have hok2 : ∀ x ∈ all ++ [r], recErr x = 0 := fun x hx => by
      rcases List.mem_append.1 hx with hx | hx
      · exact h.ok x hx
      · simp at hx; subst hx; omega
    obtain ⟨pre, p, gp, gl, c, rfl, rfl, hg, ht, hc, hcs, hsu⟩ := h.parts
    have hlt : ∀ x ∈ pre, x.n < p.n := fun x hx => by
      have := List.pairwise_append.1 hs
      exact this.2.2 x hx p (by simp)
    have hok := h.ok
    unfold putD
    rw [List.getLast?_append]
    simp only [List.getLast?_singleton, Option.some_or]
    by_cases hroll : 0 < p.text.length ∧ size < p.text.length + (codedL r).length
    · rw [if_pos hroll]
      have e : (syncD (pre ++ [p]) p.n).1 = pre ++ [⟨p.n, p.text, p.text.length⟩] := by
        unfold syncD
        rw [getF_last p hlt]
        simp only
        exact setF_last p ⟨p.n, p.text, p.text.length⟩ hlt rfl
      rw [e]
      have hlt2 : ∀ x ∈ pre ++ [(⟨p.n, p.text, p.text.length⟩ : FileP)], x.n < p.n + 1 := fun x hx => by
        rcases List.mem_append.1 hx with hx | hx
        · have := hlt x hx; omega
        · simp at hx; subst hx; simp only; omega
      have hstay : Inv (pre ++ [⟨p.n, p.text, p.text.length⟩]) (gp ++ gl) sure := ⟨hok, pre, _, gp, gl, c, rfl, rfl, hg, ht, hc, by
        simp only
        rw [ht]
        conv => rhs; rw [← List.take_append_drop c gl, textsL_append, List.length_append]
        omega, hsu⟩
      have hgrow : Inv ((pre ++ [⟨p.n, p.text, p.text.length⟩]) ++ [⟨p.n + 1, codedL r, 0⟩]) ((gp ++ gl) ++ [r]) sure :=
        ⟨hok2, _, _, gp ++ gl, [r], 0, rfl, rfl, Good.snoc (p := ⟨p.n, p.text, p.text.length⟩) ht rfl hg, by simp [textsL], by simp, by simp [textsL], by rw [List.length_append]; omega⟩
      unfold appD
      rw [getF_above hlt2]
      split
      · exact ⟨fun e => (by cases e), fun _ => hstay⟩
      · split
        · exact ⟨fun e => (by cases e), fun _ => hstay⟩
        · simp only
          split
          · exact ⟨fun e => (by cases e), fun _ => hstay⟩
          · refine ⟨fun _ => ?_, fun e => absurd rfl e⟩
            simp only
            rw [insF_above ⟨p.n + 1, codedL r, 0⟩ hlt2]
            exact hgrow
    · rw [if_neg hroll]
      unfold appD
      rw [getF_last p hlt]
      split
      · exact ⟨fun e => (by cases e), fun _ => h⟩
      · split
        · exact ⟨fun e => (by cases e), fun _ => h⟩
        · simp only
          refine ⟨fun _ => ?_, fun e => absurd rfl e⟩
          rw [setF_last p ⟨p.n, p.text ++ codedL r, p.sure⟩ hlt rfl]
          refine ⟨hok2, pre, _, gp, gl ++ [r], c, rfl, by rw [List.append_assoc], hg, by simp only; rw [ht, textsL_append]; simp [textsL], by rw [List.length_append]; omega, ?_, hsu⟩
          rw [List.take_append_of_le_length hc]
          exact hcs

end Go.Proofs.YtbgchhgdlceceaaGreatDoor.Log
