/- Parts of the proof, joined: The reference's index: Drop.; rillref.before, walked.; The reference's index: Put.; (*rillref.Shelf).Find, walked; two slices of entries compared (slices.Equal).; The reference's chest: Subjects, walked.; (*Log).Rewrite, walked.; The reference's chest: Sums.; store.seek, Next, Last, walked. -/
import Derived.Test.YtbgchhgdlceceaaGreatDoorStrmBaseM22
namespace Go.Proofs.YtbgchhgdlceceaaGreatDoor.Shf
open Go.RowKit Heap Idx
open Subj (Tok ML pieces)

/-- Another list in the shelf's place. -/
theorem ShelfAt.put {W w w3 : World} {G : Nat → Prop} {E : Nat} {L L' : Ents} {a0 v3 : Value} (h : ShelfAt W G E L w) (hf : L'.length ≤ 100) (hs : ∀ e ∈ L', e.1.length ≤ 200) (hE : w3.heap[E]? = some (.cells #[a0] 275 (0, 0)))
    (ht : Heap.Touch G w w3) (hr : Row w3 124 2 v3 L'.length (entV L')) (ho : ∀ k, own v3 k → G k ∨ w.heap.size ≤ k) (hne : ¬ own v3 E) : NextS W G E w L' (w3.setCell ⟨E, 0, none⟩ v3) := by
  have hE4 := heap_setCell_same w3 E 0 _ _ v3 hE
  have hlt := heap_lt hE4
  have tf : Heap.Touch G w (w3.setCell ⟨E, 0, none⟩ v3) := ht.setCell (.inl h.gE) _
  refine ⟨⟨fun k => (G k ∨ w.heap.size ≤ k) ∧ k < (w3.setCell ⟨E, 0, none⟩ v3).heap.size, ⟨hf, hs, h.below.trans (tf.below h.below.size h.newG), fun k hk => ?_, fun k hk => hk.2, ⟨.inl h.gE, hlt⟩, v3, hE4, ?_, fun k hk => ⟨ho k hk, ?_⟩⟩, fun k hk => hk.1⟩, tf⟩
  · rcases hk.1 with hk | hk
    · exact h.newG k hk
    · exact Nat.le_trans h.below.size hk
  · refine hr.kept fun j hj _ => heap_setCell_other _ _ _ _ (fun e => ?_)
    exact hne (by rw [← show j = E from e]; exact hj)
  · have := hr.lt k hk
    have h2 : (w3.setCell ⟨E, 0, none⟩ v3).heap.size = w3.heap.size := by simp [World.setCell]
    rw [h2]; exact this

section
variable {W w : World} {G : Nat → Prop} {E : Nat} {A : Ents}
end
end Go.Proofs.YtbgchhgdlceceaaGreatDoor.Shf

namespace Go.Proofs.YtbgchhgdlceceaaGreatDoor.Shf
open Go.RowKit Heap Idx
open Subj (Tok ML pieces Strs strAt StrsAt)

end Go.Proofs.YtbgchhgdlceceaaGreatDoor.Shf

namespace Go.Proofs.YtbgchhgdlceceaaGreatDoor.Shf
open Go.RowKit Heap Idx
open Subj (Tok ML pieces Strs strAt StrsAt)

section
variable {W w : World} {G : Nat → Prop} {E : Nat} {A : Ents}

end
end Go.Proofs.YtbgchhgdlceceaaGreatDoor.Shf

namespace Go.Proofs.YtbgchhgdlceceaaGreatDoor.Shf
open Go.RowKit Heap Idx
open Subj (Tok ML pieces takes)

/-- What has been found so far. -/
def OutE (w wr : World) (o : Value) (L : Ents) : Prop := Row wr 124 2 o L.length (entV L) ∧ ∀ k, own o k → w.heap.size ≤ k

section
variable {W w : World} {G : Nat → Prop} {E : Nat} {A : Ents}

theorem OutE.next {w wr w' : World} {o : Value} {L : Ents} (h : OutE w wr o L) (hb : Below wr.heap.size wr w') : OutE w w' o L := ⟨h.1.kept fun k _ hk => hb.block k hk, h.2⟩

end
end Go.Proofs.YtbgchhgdlceceaaGreatDoor.Shf

namespace Go.Proofs.YtbgchhgdlceceaaGreatDoor.Sto
open Go.RowKit Heap
open Subj (Tok ML pieces takes)
open Rec (Rc recErr far)
open Idx (Ents ptrV before before_irrefl before_trans rising_ext idxL idxL_cases insL_sorted findL FindPost)
open Shf (SortedE putL getL ShelfAt NextS)

section
variable {W w : World} {C : Nat} {L : List Rc} {last : Int} {v : Value} {I : Ents}

end
end Go.Proofs.YtbgchhgdlceceaaGreatDoor.Sto

namespace Go.Proofs.YtbgchhgdlceceaaGreatDoor.Log
open Go.RowKit Heap Dsk
open Subj (ML)
open Rec (Rc recErr recA rcOf codedL ml_alloc)
open Sto (recsV RecsAt Fits parts sixC)

section
variable {W w : World} {F : Nat → Prop} {D G : Nat} {room size : Int} {A : List FileP}

theorem app_fail {room : Int} {A : List FileP} {n : Int} {T : List UInt8} (h : (appD room A n T).2 ≠ 0) : (appD room A n T).1 = A := by
  unfold appD at h ⊢
  split
  · rfl
  · rename_i e
    rw [if_neg e] at h
    split
    · rfl
    · rename_i e2
      rw [if_neg e2] at h
      split
      · rename_i p hp; rw [hp] at h; exact absurd rfl h
      · rename_i hp
        rw [hp] at h
        simp only at h
        split
        · rfl
        · rename_i e3; rw [if_neg e3] at h; exact absurd rfl h

/-- The second loop: the old blocks from the last one. -/
def R2 (W : World) (F : Nat → Prop) (D : Nat) (room : Int) (A : List FileP) (q : FileP) (nv : Value) (w1 : World) (k : Nat) (wr : World) : Prop :=
  DiskAt W F D room (A.take k ++ [q]) wr ∧ Row wr 3 1 nv A.length (numsV (A.map (·.n))) ∧ Heap.Touch F w1 wr

end
end Go.Proofs.YtbgchhgdlceceaaGreatDoor.Log

namespace Go.Proofs.YtbgchhgdlceceaaGreatDoor.Sto
open Go.RowKit Heap
open Subj (Tok ML pieces takes)
open Rec (Rc recErr far)
open Idx (Ents ptrV)

section
variable {W w w1 : World} {C : Nat} {v : Value} {L : List Rc} {last : Int} {I : Ents}

end
end Go.Proofs.YtbgchhgdlceceaaGreatDoor.Sto

namespace Go.Proofs.YtbgchhgdlceceaaGreatDoor.Sto
open Go.RowKit Heap
open Subj (Tok ML pieces takes StrsAt)
open Rec (Rc recErr far)
open Idx (Ents ptrV split_dot strsAt_lt)

def tk (f : List UInt8) (x : Rc) : Bool := takes (pieces f) (pieces x.subj)

/-- What is told of a search. -/
def seekR (er : Nat) (o : Option Rc) : Rc × Nat := if er ≠ 0 then (Rc.zero, er) else match o with
  | some r => (r, 0)
  | none => (Rc.zero, 4)

theorem res_rec2 {fn : Func} (c t : Nat) (hf : fn.results = #[.cell c 33, .tmp t]) (tmps : Array Value) (w : World) (R : Nat) {a0 a1 a2 a3 a4 a5 k : Value}
    (h2 : tmps.getD c undef = .pointer (some ⟨R, 0, none⟩)) (h3 : tmps.getD t undef = k) (hR : w.heap[R]? = some (.cells #[a0, a1, a2, a3, a4, a5] 33 (0, 0))) :
    (results fn tmps).run Tryz.prog w = .ok (.tuple #[.agg #[a0, a1, a2, a3, a4, a5], k]) w := by
  obtain ⟨z0, z1, z2, z3, z4, z5⟩ := sixC hR
  simp only [Array.getD_eq_getD_getElem?] at h2 h3
  simp [results, hf, go_sem, h2, h3, z0, z1, z2, z3, z4, z5]

theorem below6 {n : Nat} {w0 w : World} (h : Below n w0 w) {R : Nat} (hR : n ≤ R) (a0 a1 a2 a3 a4 a5 : Value) : Below n w0 ((((((w.setCell ⟨R, 0, none⟩ a0).setCell ⟨R, 1, none⟩ a1).setCell ⟨R, 2, none⟩ a2).setCell ⟨R, 3, none⟩ a3).setCell ⟨R, 4, none⟩ a4).setCell ⟨R, 5, none⟩ a5) :=
  (((((h.setCell hR a0).setCell hR a1).setCell hR a2).setCell hR a3).setCell hR a4).setCell hR a5

/-- The k-th in the order of the search. -/
def nth (back : Bool) (l : List Rc) (k : Nat) : Option Rc := if back then l[l.length - 1 - k]? else l[k]?

def order (back : Bool) (l : List Rc) : List Rc := if back then l.reverse else l

theorem nth_order (back : Bool) (l : List Rc) (k : Nat) (hk : k < l.length) : nth back l k = (order back l)[k]? := by
  unfold nth order
  cases back with
  | false => rfl
  | true => simp [List.getElem?_reverse hk]

theorem find_nth {F : Rc → Bool} : ∀ {O : List Rc} {k : Nat} {p : Rc}, (∀ x ∈ O.take k, F x = false) → O[k]? = some p → F p = true → O.find? F = some p
  | [], _, _, _, h, _ => by simp at h
  | a :: O, 0, p, _, h, hp => by
    simp at h; subst h
    simp [List.find?, hp]
  | a :: O, k + 1, p, hn, h, hp => by
    have ha := hn a (by simp)
    have ih := find_nth (O := O) (k := k) (p := p) (fun x hx => hn x (by simp [hx])) (by simpa using h) hp
    simp [List.find?, ha, ih]

theorem order_len (back : Bool) (l : List Rc) : (order back l).length = l.length := by unfold order; cases back <;> simp
theorem order_mem {back : Bool} {l : List Rc} {r : Rc} (h : r ∈ order back l) : r ∈ l := by unfold order at h; cases back <;> simpa using h

section
variable {W w : World}

set_option maxHeartbeats 8000000 in
set_option maxRecDepth 100000 in
theorem seek_any (hb : Below W.heap.size W w) (hm : ML W) (f : ByteArray) (hf : f.size ≤ 1048576) {v : Value} {l : List Rc} (hl : RecsAt w v l) (hn : l.length ≤ 1000) (hz : ∀ r ∈ l, r.subj.length ≤ 1048576) (back : Bool) :
    Calls Tryz.prog 159 #[.string f, v, .bool back] w fun e w' => e = .returned (.tuple #[recV (seekR (Subj.err true f.data.toList) ((order back l).find? (tk f.data.toList))).1, .int .i64 ((seekR (Subj.err true f.data.toList) ((order back l).find? (tk f.data.toList))).2 : Nat)]) ∧ Below w.heap.size w w' := by
  obtain ⟨R, hR⟩ : ∃ R, seekR (Subj.err true f.data.toList) ((order back l).find? (tk f.data.toList)) = R := ⟨_, rfl⟩
  rw [hR]
  have HR := Lib.hid hR
  obtain ⟨n, hnL⟩ : ∃ n, l.length = n := ⟨_, rfl⟩
  have HN := Lib.hid hnL
  obtain ⟨w1, hw1⟩ : ∃ w1, w1 = w.alloc (.cells #[.int .i64 0, .int .i64 0, .int .i64 0, .string ⟨#[]⟩, .string ⟨#[]⟩, .string ⟨#[]⟩] 33) := ⟨_, rfl⟩
  have hb1 : Below w.heap.size w w1 := by rw [hw1]; exact (Below.refl _ _).alloc (Nat.le_refl _) _
  have hea : w1.heap[w.heap.size]? = some (.cells #[.int .i64 0, .int .i64 0, .int .i64 0, .string ⟨#[]⟩, .string ⟨#[]⟩, .string ⟨#[]⟩] 33 (0, 0)) := by rw [hw1]; exact heap_alloc_new w _
  obtain ⟨rb, hrb⟩ : ∃ rb, w.heap.size = rb := ⟨_, rfl⟩
  rw [hrb] at hea
  have HFI := Lib.hid (Subj.filter_any f w1 hf (hm.below (hb.trans (hb1.mono hb.size))))
  have HSP := Lib.hid (fun w1 hm1 => split_dot f w1 hf hm1)
  have hpl := Subj.pieces_size f hf
  have hne := Subj.pieces_ne f.data.toList
  obtain ⟨er, her⟩ : ∃ er, Subj.err true f.data.toList = er := ⟨_, rfl⟩
  rw [her] at HFI HR
  obtain ⟨F, hF⟩ : ∃ F, tk f.data.toList = F := ⟨_, rfl⟩
  rw [hF] at HR
  have HFF := Lib.hid hF
  obtain ⟨fl, hfl⟩ : ∃ fl, pieces f.data.toList = fl := ⟨_, rfl⟩
  rw [hfl] at HSP hpl hne
  have HFL := Lib.hid hfl
  have HL := Lib.hid hl; have HML := Lib.hid hm; have HZ := Lib.hid hz; have HB1 := Lib.hid hb1; have HEA := Lib.hid hea; have HRB := Lib.hid hrb; have HB := Lib.hid hb; have HNE := Lib.hid hne
  have HLv : ∃ ao cap, v = .slice ao n cap := by
    obtain ⟨ao, cap, h1, _⟩ := hl
    exact ⟨ao, cap, by rw [h1, hnL]⟩
  obtain ⟨ao, cap, rfl⟩ := HLv
  rw [hnL] at hn
  have hrbl := heap_lt hea
  clear hl hz hm hb hb1 hea hR hrb hnL hF hfl her hne
  go_enter Tryz.func159, Tryz.ntmps159
  go_upto_region 1 with fail
  rw [← hw1, HRB.out]
  clear hw1
  go_wp2_with fail
  refine HFI.out.mono ?_
  rintro e w2 ⟨rfl, hb2⟩
  have HB2 := Lib.hid (HB1.out.trans (hb2.mono HB1.out.size))
  have hea2 := (hb2.block rb hrbl).trans HEA.out
  have HEA2 := Lib.hid hea2
  obtain ⟨q0, q1, q2, q3, q4, q5⟩ := sixC hea2
  have hrbl2 := heap_lt hea2
  have zf : ∀ j, w2.frozen? ⟨rb, j, none⟩ = false := fun j => frozen_of_row w2 rb j _ _ hea2
  clear hb2 hea2 HFI HEA hrbl
  by_cases he : er = 0
  · subst he
    have HSP2 := Lib.hid (HSP.out w2 (HML.out.below (HB.out.trans (HB2.out.mono HB.out.size))))
    obtain ⟨gf, hgf⟩ : ∃ gf, w2.heap.size = gf := ⟨_, rfl⟩
    rw [hgf] at HSP2
    have HGF := Lib.hid hgf
    clear hgf HSP q0 q1 q2 q3 q4 q5 zf
    go_wp2_with fail
    refine HSP2.out.mono ?_
    rintro e w3 ⟨rfl, hst3, hb3⟩
    rw [← HGF.out] at hb3
    have HST3 := Lib.hid hst3
    have HB3 := Lib.hid (HB2.out.trans (hb3.mono HB2.out.size))
    have hea3 := (hb3.block rb hrbl2).trans HEA2.out
    have HEA3 := Lib.hid hea3
    clear hst3 hb3 hea3 HSP2 HEA2 hrbl2
    go_wp2_with fail
    go_loopw [22] (fun i wr => ∃ k : Nat, k ≤ n ∧ i = .int .i64 k ∧ Hid (∀ x ∈ (order back l).take k, F x = false) ∧ Hid (Below w3.heap.size w3 wr)) (fun i _ => n - (intOf i).toNat)
    case atStart => exact ⟨0, Nat.zero_le _, rfl, Lib.hid (fun x h => by simp at h), Lib.hid (Below.refl _ _)⟩
    case round =>
      obtain ⟨k, hk, rfl, HNO, HW⟩ := hrel
      have hear := (HW.out.block rb (heap_lt HEA3.out)).trans HEA3.out
      have HEAR := Lib.hid hear
      have HBr := Lib.hid (HB3.out.trans (HW.out.mono HB3.out.size))
      by_cases hlt : k < n
      · have hltz : (k : Int) < n := by omega
        obtain ⟨pk, hpk⟩ : ∃ p, l[k]? = some p := ⟨_, List.getElem?_eq_getElem (by rw [HN.out]; exact hlt)⟩
        obtain ⟨a', c', hv, ha⟩ := (HL.out.below HBr.out (Nat.le_refl _))
        simp only [Value.slice.injEq] at hv
        obtain ⟨rfl, hv0, rfl⟩ := hv
        clear hv0
        obtain ⟨g, off, rfl, hcs⟩ := ha (fun e => by rw [e] at hpk; simp at hpk)
        obtain ⟨m0, m1, m2, m3, m4, m5⟩ := hcs k pk hpk
        obtain ⟨s0, h0, d0, hpp0⟩ := parts pk
        rw [hpp0.s1] at m3
        rw [hpp0.h1] at m4
        rw [hpp0.d1] at m5
        cases back with
        | false =>
          have hO : (order false l)[k]? = some pk := hpk
          obtain ⟨pp, hpe⟩ : ∃ pp, pk = pp := ⟨_, rfl⟩
          rw [hpe] at hO hpp0 m0 m1 m2
          obtain ⟨s, hs⟩ : ∃ s, s0 = s := ⟨_, rfl⟩
          obtain ⟨h, hh⟩ : ∃ h, h0 = h := ⟨_, rfl⟩
          obtain ⟨d, hd⟩ : ∃ d, d0 = d := ⟨_, rfl⟩
          rw [hs, hh, hd] at hpp0
          rw [hs] at m3
          rw [hh] at m4
          rw [hd] at m5
          have hpp := hpp0
          clear hpp0 hs hh hd hpe hpk
          have hrv : recV pp = .agg #[.int .i64 pp.kind, .int .i64 pp.seq, .int .i64 pp.time, .string s, .string h, .string d] := by unfold recV; rw [hpp.s1, hpp.h1, hpp.d1]
          obtain ⟨kd, hkd⟩ : ∃ kd, pp.kind = kd := ⟨_, rfl⟩
          obtain ⟨sq, hsq⟩ : ∃ sq, pp.seq = sq := ⟨_, rfl⟩
          obtain ⟨tm, htm⟩ : ∃ tm, pp.time = tm := ⟨_, rfl⟩
          rw [hkd, hsq, htm] at hrv
          rw [hkd] at m0
          rw [hsq] at m1
          rw [htm] at m2
          have HRV := Lib.hid hrv
          obtain ⟨wb, hwb⟩ : ∃ wb, wb = wr.alloc (.cells #[.int .i64 kd, .int .i64 sq, .int .i64 tm, .string s, .string h, .string d] 33) := ⟨_, rfl⟩
          have hba : Below wr.heap.size wr wb := by rw [hwb]; exact (Below.refl _ _).alloc (Nat.le_refl _) _
          have heb : wb.heap[wr.heap.size]? = some (.cells #[.int .i64 kd, .int .i64 sq, .int .i64 tm, .string s, .string h, .string d] 33 (0, 0)) := by rw [hwb]; exact heap_alloc_new wr _
          have hrl := heap_lt hear
          obtain ⟨bx, hbx⟩ : ∃ bx, wr.heap.size = bx := ⟨_, rfl⟩
          rw [hbx] at heb
          have HEB := Lib.hid heb; have HBX := Lib.hid hbx
          have HWb := Lib.hid (HW.out.trans (hba.mono HW.out.size)); have HBb := Lib.hid (HBr.out.trans (hba.mono HBr.out.size)); have HRBb := Lib.hid ((hba.block rb hrl).trans hear)
          have HNB := Lib.hid (show ¬ rb = bx by omega)
          clear hba heb hbx hear hrv hkd hsq htm hrl
          go_upto_region 11 with fail
          rw [← hwb, HBX.out]
          clear hwb
          clear m0 m1 m2 m3 m4 m5 hcs ha
          obtain ⟨q0, q1, q2, q3, q4, q5⟩ := sixC HEB.out
          have hbxl := heap_lt HEB.out
          have hspl := split_dot s wb (by rw [hpp.s3]; exact HZ.out pp (order_mem (List.mem_of_getElem? hO))) (HML.out.below (HB.out.trans (HBb.out.mono HB.out.size)))
          rw [hpp.s2] at hspl
          have hpl2 : (pieces pp.subj).length ≤ 1048577 := by
            have := Subj.pieces_size s (by rw [hpp.s3]; exact HZ.out pp (order_mem (List.mem_of_getElem? hO)))
            rw [hpp.s2] at this; exact this
          obtain ⟨pl, hpli⟩ : ∃ pl, pieces pp.subj = pl := ⟨_, rfl⟩
          rw [hpli] at hspl hpl2
          obtain ⟨B, hBv⟩ : ∃ B, F pp = B := ⟨_, rfl⟩
          have htk := fun (w4 : World) (ha : StrsAt w4 gf 0 fl) (hb : StrsAt w4 wb.heap.size 0 pl) => Subj.takes_any gf wb.heap.size fl.length pl.length fl pl w4 ha hb (by unfold maxLen; omega) (by unfold maxLen; omega)
          have htv : takes fl pl = B := by
            rw [← hBv, ← HFF.out]
            unfold tk
            rw [HFL.out, hpli]
          rw [htv] at htk
          have HSPL := Lib.hid hspl; have HTK := Lib.hid htk; have HBV := Lib.hid hBv; have HO := Lib.hid hO
          have HSTb := Lib.hid (HST3.out.below HWb.out)
          clear hspl hpli hBv htv htk hO hpp
          go_wp2_with fail
          refine HSPL.out.mono ?_
          rintro e w5 ⟨rfl, hst5, hb5⟩
          have HTK5 := Lib.hid (HTK.out w5 (HSTb.out.below hb5) hst5)
          have heb5 := (hb5.block bx hbxl).trans HEB.out
          have her5 := (hb5.block rb (heap_lt HRBb.out)).trans HRBb.out
          have HW5 := Lib.hid (HWb.out.trans (hb5.mono HWb.out.size)); have HB5 := Lib.hid (HBb.out.trans (hb5.mono HBb.out.size)); have HRB5 := Lib.hid her5
          obtain ⟨q0, q1, q2, q3, q4, q5⟩ := sixC heb5
          obtain ⟨y0, y1, y2, y3, y4, y5⟩ := sixC her5
          have yf : ∀ j, w5.frozen? ⟨rb, j, none⟩ = false := fun j => frozen_of_row w5 rb j _ _ her5
          have hbxl5 := heap_lt heb5
          have hrbl5 := heap_lt her5
          clear hst5 hb5 heb5 her5 HSPL HTK
          go_wp2_with fail
          refine HTK5.out.mono ?_
          rintro e w' ⟨rfl, rfl⟩
          clear HTK5
          cases B with
          | false =>
            go_wp2_with fail
            exact ⟨⟨k + 1, by omega, by go_num, Lib.hid (fun x hx => by
              rw [List.take_add_one, HO.out, List.mem_append] at hx
              rcases hx with hx | hx
              · exact HNO.out x hx
              · simp at hx; subst hx; exact HBV.out), HW5⟩, by simp [intOf]; omega⟩
          | true =>
            obtain rfl : R = (pp, 0) := by
              rw [← HR.out, find_nth HNO.out HO.out HBV.out]; rfl
            have HF2 := Lib.hid (below6 HB5.out (Nat.le_of_eq HRB.out) (.int .i64 kd) (.int .i64 sq) (.int .i64 tm) (.string s) (.string h) (.string d))
            have HR6 := Lib.hid (set6 (.int .i64 kd) (.int .i64 sq) (.int .i64 tm) (.string s) (.string h) (.string d) HRB5.out)
            have hne2 : ¬ rb = bx := HNB.out
            go_wp2_with fail
            refine bodyPost_ret (v := .tuple #[.agg #[.int .i64 kd, .int .i64 sq, .int .i64 tm, .string s, .string h, .string d], .int .i64 0]) (res_rec2 6 7 Tryz.results159 _ _ rb rfl rfl HR6.out) rfl ?_
            exact ⟨by rw [← HRV.out], HF2.out⟩
        | true =>
          obtain ⟨pp, hpb⟩ : ∃ p, l[n - 1 - k]? = some p := ⟨_, List.getElem?_eq_getElem (by rw [HN.out]; omega)⟩
          have hO : (order true l)[k]? = some pp := by
            rw [← nth_order true l k (by rw [HN.out]; exact hlt)]
            unfold nth
            rw [if_pos rfl, HN.out]; exact hpb
          obtain ⟨b0, b1, b2, b3, b4, b5⟩ := hcs (n - 1 - k) pp hpb
          obtain ⟨s, h, d, hpp⟩ := parts pp
          rw [hpp.s1] at b3
          rw [hpp.h1] at b4
          rw [hpp.d1] at b5
          have hs1 : ((n : Int) - 1 - k).toNat = n - 1 - k := by omega
          have hs2 : (0 : Int) ≤ (n : Int) - 1 - k := by omega
          have hs3 : (n : Int) - 1 - k < n := by omega
          clear hpb hpk hpp0
          have hrv : recV pp = .agg #[.int .i64 pp.kind, .int .i64 pp.seq, .int .i64 pp.time, .string s, .string h, .string d] := by unfold recV; rw [hpp.s1, hpp.h1, hpp.d1]
          obtain ⟨kd, hkd⟩ : ∃ kd, pp.kind = kd := ⟨_, rfl⟩
          obtain ⟨sq, hsq⟩ : ∃ sq, pp.seq = sq := ⟨_, rfl⟩
          obtain ⟨tm, htm⟩ : ∃ tm, pp.time = tm := ⟨_, rfl⟩
          rw [hkd, hsq, htm] at hrv
          rw [hkd] at b0
          rw [hsq] at b1
          rw [htm] at b2
          have HRV := Lib.hid hrv
          obtain ⟨zk, hzk⟩ : ∃ zk, pk.kind = zk := ⟨_, rfl⟩
          obtain ⟨zq, hzq⟩ : ∃ zq, pk.seq = zq := ⟨_, rfl⟩
          obtain ⟨zt, hzt⟩ : ∃ zt, pk.time = zt := ⟨_, rfl⟩
          rw [hzk] at m0
          rw [hzq] at m1
          rw [hzt] at m2
          obtain ⟨wk, hwk⟩ : ∃ wk, wk = wr.alloc (.cells #[.int .i64 zk, .int .i64 zq, .int .i64 zt, .string s0, .string h0, .string d0] 33) := ⟨_, rfl⟩
          have hbk : Below wr.heap.size wr wk := by rw [hwk]; exact (Below.refl _ _).alloc (Nat.le_refl _) _
          have hek : wk.heap[wr.heap.size]? = some (.cells #[.int .i64 zk, .int .i64 zq, .int .i64 zt, .string s0, .string h0, .string d0] 33 (0, 0)) := by rw [hwk]; exact heap_alloc_new wr _
          have hg : g < wr.heap.size := World.block_lt_of_cell? wr _ b0
          have hgb := hbk.block g hg
          have b0' := (World.cell?_of_block (a := ⟨g, off + (n - 1 - k) * 6, none⟩) hgb).trans b0
          have b1' := (World.cell?_of_block (a := ⟨g, off + (n - 1 - k) * 6 + 1, none⟩) hgb).trans b1
          have b2' := (World.cell?_of_block (a := ⟨g, off + (n - 1 - k) * 6 + 2, none⟩) hgb).trans b2
          have b3' := (World.cell?_of_block (a := ⟨g, off + (n - 1 - k) * 6 + 3, none⟩) hgb).trans b3
          have b4' := (World.cell?_of_block (a := ⟨g, off + (n - 1 - k) * 6 + 4, none⟩) hgb).trans b4
          have b5' := (World.cell?_of_block (a := ⟨g, off + (n - 1 - k) * 6 + 5, none⟩) hgb).trans b5
          obtain ⟨x0, x1, x2, x3, x4, x5⟩ := sixC hek
          have xf : ∀ j, wk.frozen? ⟨wr.heap.size, j, none⟩ = false := fun j => frozen_of_row wk _ j _ _ hek
          have hxl := heap_lt hek
          obtain ⟨wb, hwb⟩ : ∃ wb, wb = ((((((wk.setCell ⟨wr.heap.size, 0, none⟩ (.int .i64 kd)).setCell ⟨wr.heap.size, 1, none⟩ (.int .i64 sq)).setCell ⟨wr.heap.size, 2, none⟩ (.int .i64 tm)).setCell ⟨wr.heap.size, 3, none⟩ (.string s)).setCell ⟨wr.heap.size, 4, none⟩ (.string h)).setCell ⟨wr.heap.size, 5, none⟩ (.string d)) := ⟨_, rfl⟩
          have hba : Below wr.heap.size wr wb := by rw [hwb]; exact below6 hbk (Nat.le_refl _) _ _ _ _ _ _
          have heb : wb.heap[wr.heap.size]? = some (.cells #[.int .i64 kd, .int .i64 sq, .int .i64 tm, .string s, .string h, .string d] 33 (0, 0)) := by rw [hwb]; exact set6 _ _ _ _ _ _ hek
          have hrl := heap_lt hear
          obtain ⟨bx, hbx⟩ : ∃ bx, wr.heap.size = bx := ⟨_, rfl⟩
          rw [hbx] at heb hwb x0 x1 x2 x3 x4 x5 hxl
          have xf' : ∀ j, wk.frozen? ⟨bx, j, none⟩ = false := by rw [← hbx]; exact xf
          have HEB := Lib.hid heb; have HBX := Lib.hid hbx
          have HWb := Lib.hid (HW.out.trans (hba.mono HW.out.size)); have HBb := Lib.hid (HBr.out.trans (hba.mono HBr.out.size)); have HRBb := Lib.hid ((hba.block rb hrl).trans hear)
          have HNB := Lib.hid (show ¬ rb = bx by omega)
          clear hba heb hbx hear hrv hkd hsq htm hrl xf hzk hzq hzt hbk hek hgb b0 b1 b2 b3 b4 b5
          go_upto_region 9 with fail
          rw [← hwk, HBX.out]
          clear hwk
          go_upto_region 11 with fail
          rw [← hwb]
          clear hwb x0 x1 x2 x3 x4 x5 xf' hxl
          clear m0 m1 m2 m3 m4 m5 b0' b1' b2' b3' b4' b5' hcs ha hs1 hs2 hs3
          obtain ⟨q0, q1, q2, q3, q4, q5⟩ := sixC HEB.out
          have hbxl := heap_lt HEB.out
          have hspl := split_dot s wb (by rw [hpp.s3]; exact HZ.out pp (order_mem (List.mem_of_getElem? hO))) (HML.out.below (HB.out.trans (HBb.out.mono HB.out.size)))
          rw [hpp.s2] at hspl
          have hpl2 : (pieces pp.subj).length ≤ 1048577 := by
            have := Subj.pieces_size s (by rw [hpp.s3]; exact HZ.out pp (order_mem (List.mem_of_getElem? hO)))
            rw [hpp.s2] at this; exact this
          obtain ⟨pl, hpli⟩ : ∃ pl, pieces pp.subj = pl := ⟨_, rfl⟩
          rw [hpli] at hspl hpl2
          obtain ⟨B, hBv⟩ : ∃ B, F pp = B := ⟨_, rfl⟩
          have htk := fun (w4 : World) (ha : StrsAt w4 gf 0 fl) (hb : StrsAt w4 wb.heap.size 0 pl) => Subj.takes_any gf wb.heap.size fl.length pl.length fl pl w4 ha hb (by unfold maxLen; omega) (by unfold maxLen; omega)
          have htv : takes fl pl = B := by
            rw [← hBv, ← HFF.out]
            unfold tk
            rw [HFL.out, hpli]
          rw [htv] at htk
          have HSPL := Lib.hid hspl; have HTK := Lib.hid htk; have HBV := Lib.hid hBv; have HO := Lib.hid hO
          have HSTb := Lib.hid (HST3.out.below HWb.out)
          clear hspl hpli hBv htv htk hO hpp
          go_wp2_with fail
          refine HSPL.out.mono ?_
          rintro e w5 ⟨rfl, hst5, hb5⟩
          have HTK5 := Lib.hid (HTK.out w5 (HSTb.out.below hb5) hst5)
          have heb5 := (hb5.block bx hbxl).trans HEB.out
          have her5 := (hb5.block rb (heap_lt HRBb.out)).trans HRBb.out
          have HW5 := Lib.hid (HWb.out.trans (hb5.mono HWb.out.size)); have HB5 := Lib.hid (HBb.out.trans (hb5.mono HBb.out.size)); have HRB5 := Lib.hid her5
          obtain ⟨q0, q1, q2, q3, q4, q5⟩ := sixC heb5
          obtain ⟨y0, y1, y2, y3, y4, y5⟩ := sixC her5
          have yf : ∀ j, w5.frozen? ⟨rb, j, none⟩ = false := fun j => frozen_of_row w5 rb j _ _ her5
          have hbxl5 := heap_lt heb5
          have hrbl5 := heap_lt her5
          clear hst5 hb5 heb5 her5 HSPL HTK
          go_wp2_with fail
          refine HTK5.out.mono ?_
          rintro e w' ⟨rfl, rfl⟩
          clear HTK5
          cases B with
          | false =>
            go_wp2_with fail
            exact ⟨⟨k + 1, by omega, by go_num, Lib.hid (fun x hx => by
              rw [List.take_add_one, HO.out, List.mem_append] at hx
              rcases hx with hx | hx
              · exact HNO.out x hx
              · simp at hx; subst hx; exact HBV.out), HW5⟩, by simp [intOf]; omega⟩
          | true =>
            obtain rfl : R = (pp, 0) := by
              rw [← HR.out, find_nth HNO.out HO.out HBV.out]; rfl
            have HF2 := Lib.hid (below6 HB5.out (Nat.le_of_eq HRB.out) (.int .i64 kd) (.int .i64 sq) (.int .i64 tm) (.string s) (.string h) (.string d))
            have HR6 := Lib.hid (set6 (.int .i64 kd) (.int .i64 sq) (.int .i64 tm) (.string s) (.string h) (.string d) HRB5.out)
            have hne2 : ¬ rb = bx := HNB.out
            go_wp2_with fail
            refine bodyPost_ret (v := .tuple #[.agg #[.int .i64 kd, .int .i64 sq, .int .i64 tm, .string s, .string h, .string d], .int .i64 0]) (res_rec2 6 7 Tryz.results159 _ _ rb rfl rfl HR6.out) rfl ?_
            exact ⟨by rw [← HRV.out], HF2.out⟩
      · have hltz : ¬ (k : Int) < n := by omega
        obtain rfl : k = n := by omega
        obtain rfl : R = (Rc.zero, 4) := by
          rw [← HR.out]
          have hno : (order back l).find? F = none := by
            rw [List.find?_eq_none]
            intro x hx
            have h1 := HNO.out x (by rw [List.take_of_length_le (by rw [order_len, HN.out]; exact Nat.le_refl _)]; exact hx)
            rw [h1]; simp
          rw [hno]; rfl
        obtain ⟨y0, y1, y2, y3, y4, y5⟩ := sixC hear
        have yf : ∀ j, wr.frozen? ⟨rb, j, none⟩ = false := fun j => frozen_of_row wr rb j _ _ hear
        have hrlr := heap_lt hear
        have HF2 := Lib.hid (below6 HBr.out (Nat.le_of_eq HRB.out) (.int .i64 0) (.int .i64 0) (.int .i64 0) (.string ⟨#[]⟩) (.string ⟨#[]⟩) (.string ⟨#[]⟩))
        have HR6 := Lib.hid (set6 (.int .i64 0) (.int .i64 0) (.int .i64 0) (.string ⟨#[]⟩) (.string ⟨#[]⟩) (.string ⟨#[]⟩) HEAR.out)
        clear hear
        go_wp2_with fail
        refine bodyPost_ret (v := .tuple #[.agg #[.int .i64 0, .int .i64 0, .int .i64 0, .string ⟨#[]⟩, .string ⟨#[]⟩, .string ⟨#[]⟩], .int .i64 4]) (res_rec2 6 7 Tryz.results159 _ _ rb rfl rfl HR6.out) rfl ?_
        exact ⟨rfl, HF2.out⟩
  · have he0 : ((er : Int) != 0) = true := by simpa using he
    obtain rfl : R = (Rc.zero, er) := by rw [← HR.out]; unfold seekR; rw [if_pos he]
    have HF2 := Lib.hid (below6 HB2.out (Nat.le_of_eq HRB.out) (.int .i64 0) (.int .i64 0) (.int .i64 0) (.string ⟨#[]⟩) (.string ⟨#[]⟩) (.string ⟨#[]⟩))
    have HR6 := Lib.hid (set6 (.int .i64 0) (.int .i64 0) (.int .i64 0) (.string ⟨#[]⟩) (.string ⟨#[]⟩) (.string ⟨#[]⟩) HEA2.out)
    clear he
    go_wp2_with fail
    refine bodyPost_ret (v := .tuple #[.agg #[.int .i64 0, .int .i64 0, .int .i64 0, .string ⟨#[]⟩, .string ⟨#[]⟩, .string ⟨#[]⟩], .int .i64 er]) (res_rec2 6 7 Tryz.results159 _ _ rb rfl rfl HR6.out) rfl ?_
    exact ⟨rfl, HF2.out⟩
end
end Go.Proofs.YtbgchhgdlceceaaGreatDoor.Sto
