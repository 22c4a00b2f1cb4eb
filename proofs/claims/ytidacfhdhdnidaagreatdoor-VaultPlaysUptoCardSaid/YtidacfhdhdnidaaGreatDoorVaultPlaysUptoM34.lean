/- Parts of the proof, joined: The reference's chest: Seek, walked.; The law StorePurges, walked: it returns true.; The law StoreSums, walked: it returns true. -/
import Derived.Test.YtidacfhdhdnidaaGreatDoorVaultPlaysUptoM33
namespace Go.Proofs.YtidacfhdhdnidaaGreatDoor.Sto
open Go.RowKit Heap
open Subj (Tok ML pieces takes)
open Rec (Rc recErr far)
open Idx (Ents ptrV)

def pk (f : List UInt8) (q : Int) (x : Rc) : Bool := decide (q ≤ x.seq) && tk f x

theorem pick_step {L : List Rc} {k : Nat} {p : Rc} (hp : L[k]? = some p) (lst : Bool) (P : Rc → Bool) :
    (order lst (L.take (k + 1))).find? P = if (P p && (lst || ((order lst (L.take k)).find? P).isNone)) = true then some p else (order lst (L.take k)).find? P := by
  rw [take_snoc hp]
  cases lst with
  | true =>
    unfold order
    simp only [if_true, List.reverse_append, List.reverse_singleton, List.singleton_append, Bool.true_or, Bool.and_true]
    rw [List.find?_cons]
    cases P p <;> simp
  | false =>
    unfold order
    simp only [Bool.false_eq_true, if_false, Bool.false_or]
    rw [List.find?_append]
    cases h1 : (L.take k).find? P with
    | some x => simp
    | none =>
      rw [List.find?_cons]
      cases P p <;> simp

section
variable {W w : World} {C : Nat} {L : List Rc} {last : Int} {v : Value} {I : Ents}

set_option maxHeartbeats 8000000 in
set_option maxRecDepth 100000 in
theorem seek_ch (h : ChAt W C v L last w) (hR : Right L last I) (f : ByteArray) (hf : f.size ≤ 1048576) (q : Int) (lst : Bool) :
    Calls Tryz.prog 84 #[.pointer (some ⟨C, 0, none⟩), .string f, .int .i64 q, .bool lst] w fun e w' => e = .returned (.tuple #[recV (seekR (Subj.err true f.data.toList) ((order lst L).find? (pk f.data.toList q))).1, .int .i64 ((seekR (Subj.err true f.data.toList) ((order lst L).find? (pk f.data.toList q))).2 : Nat)]) ∧ Below w.heap.size w w' := by
  obtain ⟨n, hn⟩ : ∃ n, L.length = n := ⟨_, rfl⟩
  have hn200 : n ≤ 200 := by rw [← hn]; exact hR.few
  obtain ⟨va, vc, hv⟩ := h.row.slice
  rw [hn] at hv
  subst hv
  obtain ⟨w1, hw1⟩ : ∃ w1, w1 = w.alloc (.cells #[.int .i64 0, .int .i64 0, .int .i64 0, .string ⟨#[]⟩, .string ⟨#[]⟩, .string ⟨#[]⟩] 33) := ⟨_, rfl⟩
  have hb1 : Below w.heap.size w w1 := by rw [hw1]; exact (Below.refl _ _).alloc (Nat.le_refl _) _
  have hea : w1.heap[w.heap.size]? = some (.cells #[.int .i64 0, .int .i64 0, .int .i64 0, .string ⟨#[]⟩, .string ⟨#[]⟩, .string ⟨#[]⟩] 33 (0, 0)) := by rw [hw1]; exact heap_alloc_new w _
  obtain ⟨rb, hrb⟩ : ∃ rb, w.heap.size = rb := ⟨_, rfl⟩
  rw [hrb] at hea
  have HSU := Lib.hid (Subj.refFilter_any f w1 hf)
  have HTK := Lib.hid (fun x w1 hx => Subj.takesS_ref f x w1 hf hx)
  obtain ⟨P, hP⟩ : ∃ P, pk f.data.toList q = P := ⟨_, rfl⟩
  obtain ⟨er, her⟩ : ∃ er, Subj.err true f.data.toList = er := ⟨_, rfl⟩
  rw [hP, her]
  rw [her] at HSU
  have hrbl := heap_lt hea
  have HC := Lib.hid h; have HB1 := Lib.hid hb1; have HEA := Lib.hid hea; have HRB := Lib.hid hrb; have HN := Lib.hid hn; have HR := Lib.hid hR; have HP := Lib.hid hP
  clear h hb1 hea hrb hn hR hP her
  by_cases he : er = 0
  · subst he
    obtain ⟨RR, hRR⟩ : ∃ RR, seekR 0 ((order lst L).find? P) = RR := ⟨_, rfl⟩
    rw [hRR]
    obtain ⟨r, e2⟩ := RR
    obtain ⟨rs, rh, rd, hpr⟩ := parts r
    have hrv : recV r = .agg #[.int .i64 r.kind, .int .i64 r.seq, .int .i64 r.time, .string rs, .string rh, .string rd] := by unfold recV; rw [hpr.s1, hpr.h1, hpr.d1]
    have hrc : recC r = [.int .i64 r.kind, .int .i64 r.seq, .int .i64 r.time, .string rs, .string rh, .string rd] := by unfold recC; rw [hpr.s1, hpr.h1, hpr.d1]
    simp only [hrv]
    obtain ⟨kd, hkd⟩ : ∃ kd, r.kind = kd := ⟨_, rfl⟩
    obtain ⟨sq, hsq⟩ : ∃ sq, r.seq = sq := ⟨_, rfl⟩
    obtain ⟨tm, htm⟩ : ∃ tm, r.time = tm := ⟨_, rfl⟩
    rw [hkd, hsq, htm] at hrc ⊢
    have HRR := Lib.hid hRR; have HRCr := Lib.hid hrc
    clear hRR hrc hrv hpr hkd hsq htm
    go_enter Tryz.func84, Tryz.ntmps84
    go_upto_region 1 with fail
    rw [← hw1, HRB.out]
    clear hw1
    go_wp2_with fail
    refine HSU.out.mono ?_
    rintro e w2 ⟨rfl, hb2⟩
    obtain ⟨w3, hw3⟩ : ∃ w3, w3 = w2.alloc (.cells #[.int .i64 0, .int .i64 0, .int .i64 0, .string ⟨#[]⟩, .string ⟨#[]⟩, .string ⟨#[]⟩] 33) := ⟨_, rfl⟩
    have hb3 : Below w2.heap.size w2 w3 := by rw [hw3]; exact (Below.refl _ _).alloc (Nat.le_refl _) _
    have heo : w3.heap[w2.heap.size]? = some (.cells #[.int .i64 0, .int .i64 0, .int .i64 0, .string ⟨#[]⟩, .string ⟨#[]⟩, .string ⟨#[]⟩] 33 (0, 0)) := by rw [hw3]; exact heap_alloc_new w2 _
    have hea2 := (hb2.block rb hrbl).trans HEA.out
    have hrbl2 := heap_lt hea2
    have HEA3 := Lib.hid ((hb3.block rb hrbl2).trans hea2)
    have HB2 := HB1.out.trans (hb2.mono HB1.out.size)
    have HB3 := Lib.hid (HB2.trans (hb3.mono HB2.size))
    obtain ⟨ob, hob⟩ : ∃ ob, w2.heap.size = ob := ⟨_, rfl⟩
    rw [hob] at heo
    have hro : rb < ob := by omega
    have HEO := Lib.hid (show w3.heap[ob]? = some (.cells (recC (seekR 0 ((order lst (L.take 0)).find? P)).1).toArray 33 (0, 0)) from by
      have : (order lst (L.take 0)).find? P = none := by unfold order; cases lst <;> rfl
      rw [this]; exact heo)
    have he0 : ((seekR 0 ((order lst (L.take 0)).find? P)).2 : Int) = 4 := by
      have : (order lst (L.take 0)).find? P = none := by unfold order; cases lst <;> rfl
      rw [this]; rfl
    have HE0 := Lib.hid he0
    have HOB := Lib.hid hob
    clear hb2 hb3 heo hea2 hrbl2 HB2 hob HEA hrbl he0
    go_upto_region 5 with fail
    rw [← hw3, HOB.out]
    clear hw3
    go_wp2_with fail
    go_loopw [12, 13] (fun ev i wr => ∃ k : Nat, k ≤ n ∧ i = .int .i64 k ∧ ev = .int .i64 ((seekR 0 ((order lst (L.take k)).find? P)).2 : Nat) ∧ Hid (Below w.heap.size w wr) ∧ Hid (wr.heap[rb]? = some (.cells #[.int .i64 0, .int .i64 0, .int .i64 0, .string ⟨#[]⟩, .string ⟨#[]⟩, .string ⟨#[]⟩] 33 (0, 0))) ∧
      Hid (wr.heap[ob]? = some (.cells (recC (seekR 0 ((order lst (L.take k)).find? P)).1).toArray 33 (0, 0)))) (fun _ i _ => n - (intOf i).toNat)
    case atStart => exact ⟨0, Nat.zero_le _, rfl, by rw [HE0.out], HB3, HEA3, HEO⟩
    case round =>
      obtain ⟨k, hk, rfl, rfl, HB, HRb, HOb⟩ := hrel
      clear HB3 HEA3 HEO
      have HCr := Lib.hid (HC.out.next HB.out)
      obtain ⟨c0, c1, cf⟩ := twoC HCr.out.cell
      have hlt := heap_lt HCr.out.cell
      obtain ⟨O, hOO⟩ : ∃ O, (order lst (L.take k)).find? P = O := ⟨_, rfl⟩
      rw [hOO] at HOb ⊢
      have HOO := Lib.hid hOO
      clear hOO
      by_cases hlt2 : k < n
      · have hltz : (k : Int) < n := by omega
        obtain ⟨p, hp⟩ : ∃ p, L[k]? = some p := ⟨_, List.getElem?_eq_getElem (by rw [HN.out]; exact hlt2)⟩
        have hrow := HCr.out.row
        rw [HN.out] at hrow
        rcases hrow.2 with ⟨_, h0⟩ | ⟨g, off, cap, cur, ev, hgg, _⟩
        · omega
        simp only [Value.slice.injEq, true_and] at ev
        obtain ⟨rfl, rfl⟩ := ev
        obtain ⟨m0, m1, m2, m3, m4, m5⟩ := cells_rec hrow k p hp hlt2
        obtain ⟨s, hd, d, hpp⟩ := parts p
        rw [hpp.s1] at m3
        have hgp := HR.out.good p (List.mem_of_getElem? hp)
        have htk := fun w1 => HTK.out s w1 (by rw [hpp.s3]; have := (good_parts hgp.1 hgp.2).2.1; omega)
        obtain ⟨tb, htb⟩ : ∃ tb, takes (pieces f.data.toList) (pieces p.subj) = tb := ⟨_, rfl⟩
        rw [hpp.s2, htb] at htk
        have hPp : P p = (decide (q ≤ p.seq) && tb) := by rw [← HP.out]; unfold pk tk; rw [htb]
        have hst := pick_step hp lst P
        rw [HOO.out] at hst
        obtain ⟨Bv, hBv⟩ : ∃ Bv, (P p && (lst || O.isNone)) = Bv := ⟨_, rfl⟩
        rw [hBv] at hst
        rw [hPp] at hBv
        have hrc : recC p = [.int .i64 p.kind, .int .i64 p.seq, .int .i64 p.time, .string s, .string hd, .string d] := by unfold recC; rw [hpp.s1, hpp.h1, hpp.d1]
        have HTK1 := Lib.hid htk; have HST := Lib.hid hst; have HBV := Lib.hid hBv; have HRC := Lib.hid hrc; have HPP := Lib.hid hpp; have HPK := Lib.hid hp
        clear hp hrow hgg hpp hgp htk htb hPp hst hBv hrc m0 m2 m4 m5
        go_upto_region 8 with fail
        go_cut [58] from 30 to 58 (fun s58 wx => s58 = .bool Bv ∧ Hid (Below wr.heap.size wr wx))
        case first =>
          by_cases hqp : q ≤ p.seq
          · have hbv := HBV.out
            rw [decide_eq_true hqp, Bool.true_and] at hbv
            have HBV2 := Lib.hid hbv
            clear hbv
            go_wp2_with fail
            refine (HTK1.out _).mono ?_
            rintro e wc ⟨rfl, hbc⟩
            have HBC := Lib.hid hbc
            clear hbc
            cases tb with
            | false =>
              go_wp2_with fail
              go_meet
              exact ⟨by rw [← HBV2.out]; simp, HBC⟩
            | true =>
              cases lst with
              | true =>
                go_wp2_with fail
                go_meet
                exact ⟨by rw [← HBV2.out]; simp, HBC⟩
              | false =>
                cases O with
                | none =>
                  rw [show (((seekR 0 (none : Option Rc)).2 : Nat) : Int) = 4 from rfl]
                  go_wp2_with fail
                  go_meet
                  exact ⟨by rw [← HBV2.out]; simp, HBC⟩
                | some o =>
                  rw [show (((seekR 0 (some o : Option Rc)).2 : Nat) : Int) = 0 from rfl]
                  go_wp2_with fail
                  go_meet
                  exact ⟨by rw [← HBV2.out]; simp, HBC⟩
          · have hqp2 : ¬ q ≤ p.seq := hqp
            obtain rfl : Bv = false := by rw [← HBV.out, decide_eq_false hqp]; rfl
            go_wp2_with fail
            go_meet
            exact ⟨by simp, Lib.hid (Below.refl _ _)⟩
        case rest =>
        obtain ⟨rfl, hbc⟩ := hcut
        have HBc := Lib.hid (HB.out.trans (hbc.out.mono HB.out.size))
        have HRc := Lib.hid ((hbc.out.block rb (heap_lt HRb.out)).trans HRb.out)
        have HOc := Lib.hid ((hbc.out.block ob (heap_lt HOb.out)).trans HOb.out)
        have HCc := Lib.hid (HC.out.next HBc.out)
        clear hbc c0 c1 cf hlt m1 m3 HB HRb HOb HCr HTK1 HBV
        cases Bv with
        | false =>
          have HS2 := Lib.hid (show (order lst (L.take (k + 1))).find? P = O from by rw [HST.out]; simp)
          go_wp2_with fail
          exact ⟨⟨k + 1, by omega, by go_num, by rw [HS2.out], HBc, HRc, by rw [HS2.out]; exact HOc⟩, by simp [intOf]; omega⟩
        | true =>
          have HS2 := Lib.hid (show (order lst (L.take (k + 1))).find? P = some p from by rw [HST.out]; simp)
          obtain ⟨z0, z1, z2, z3, z4, z5, hlc⟩ : ∃ z0 z1 z2 z3 z4 z5, (recC (seekR 0 O).1).toArray = #[z0, z1, z2, z3, z4, z5] := ⟨_, _, _, _, _, _, rfl⟩
          rw [hlc] at HOc
          clear hlc
          have hrow := HCc.out.row
          rw [HN.out] at hrow
          obtain ⟨m0, m1, m2, m3, m4, m5⟩ := cells_rec hrow k p HPK.out hlt2
          rw [HPP.out.s1] at m3
          rw [HPP.out.h1] at m4
          rw [HPP.out.d1] at m5
          obtain ⟨c0, c1, cf⟩ := twoC HCc.out.cell
          have hlt := heap_lt HCc.out.cell
          obtain ⟨y0, y1, y2, y3, y4, y5⟩ := sixC HOc.out
          have yf : ∀ j, wc.frozen? ⟨ob, j, none⟩ = false := fun j => frozen_of_row wc ob j _ _ HOc.out
          have hol := heap_lt HOc.out
          obtain ⟨kd, hkd⟩ : ∃ kd, p.kind = kd := ⟨_, rfl⟩
          obtain ⟨sq, hsq⟩ : ∃ sq, p.seq = sq := ⟨_, rfl⟩
          obtain ⟨tm, htm⟩ : ∃ tm, p.time = tm := ⟨_, rfl⟩
          rw [hkd] at m0
          rw [hsq] at m1
          rw [htm] at m2
          have hrc := HRC.out
          rw [hkd, hsq, htm] at hrc
          have HF := Lib.hid (show Below w.heap.size w ((((((wc.setCell ⟨ob, 0, none⟩ (.int .i64 kd)).setCell ⟨ob, 1, none⟩ (.int .i64 sq)).setCell ⟨ob, 2, none⟩ (.int .i64 tm)).setCell ⟨ob, 3, none⟩ (.string s)).setCell ⟨ob, 4, none⟩ (.string hd)).setCell ⟨ob, 5, none⟩ (.string d)) ∧
              ((((((wc.setCell ⟨ob, 0, none⟩ (.int .i64 kd)).setCell ⟨ob, 1, none⟩ (.int .i64 sq)).setCell ⟨ob, 2, none⟩ (.int .i64 tm)).setCell ⟨ob, 3, none⟩ (.string s)).setCell ⟨ob, 4, none⟩ (.string hd)).setCell ⟨ob, 5, none⟩ (.string d)).heap[rb]? = some (.cells #[.int .i64 0, .int .i64 0, .int .i64 0, .string ⟨#[]⟩, .string ⟨#[]⟩, .string ⟨#[]⟩] 33 (0, 0)) ∧
              ((((((wc.setCell ⟨ob, 0, none⟩ (.int .i64 kd)).setCell ⟨ob, 1, none⟩ (.int .i64 sq)).setCell ⟨ob, 2, none⟩ (.int .i64 tm)).setCell ⟨ob, 3, none⟩ (.string s)).setCell ⟨ob, 4, none⟩ (.string hd)).setCell ⟨ob, 5, none⟩ (.string d)).heap[ob]? = some (.cells (recC p).toArray 33 (0, 0)) from by
            have hne : rb ≠ ob := by omega
            refine ⟨below6 HBc.out (by have := HRB.out; omega) _ _ _ _ _ _, ?_, by rw [hrc]; exact set6 _ _ _ _ _ _ HOc.out⟩
            exact (heap_setCell_other _ _ _ _ hne).trans ((heap_setCell_other _ _ _ _ hne).trans ((heap_setCell_other _ _ _ _ hne).trans ((heap_setCell_other _ _ _ _ hne).trans ((heap_setCell_other _ _ _ _ hne).trans ((heap_setCell_other _ _ _ _ hne).trans HRc.out))))))
          clear hrow hkd hsq htm hrc
          go_wp2_with fail
          exact ⟨⟨k + 1, by omega, by go_num, by rw [HS2.out]; rfl, Lib.hid HF.out.1, Lib.hid HF.out.2.1, by rw [HS2.out]; exact Lib.hid HF.out.2.2⟩, by simp [intOf]; omega⟩
      · have hltz : ¬ (k : Int) < n := by omega
        obtain rfl : k = n := by omega
        have hOO := HOO.out
        rw [List.take_of_length_le (by rw [HN.out]; exact Nat.le_refl _)] at hOO
        have hRR := HRR.out
        rw [hOO] at hRR
        rw [hRR] at HOb ⊢
        simp only [HRCr.out] at HOb
        clear hOO hRR
        obtain ⟨y0, y1, y2, y3, y4, y5⟩ := sixC HOb.out
        obtain ⟨q0, q1, q2, q3, q4, q5⟩ := sixC HRb.out
        have zf : ∀ j, wr.frozen? ⟨rb, j, none⟩ = false := fun j => frozen_of_row wr rb j _ _ HRb.out
        have hrl := heap_lt HRb.out
        have hol := heap_lt HOb.out
        have HF2 := Lib.hid (below6 HB.out (Nat.le_of_eq HRB.out) (.int .i64 kd) (.int .i64 sq) (.int .i64 tm) (.string rs) (.string rh) (.string rd))
        have HR6 := Lib.hid (set6 (.int .i64 kd) (.int .i64 sq) (.int .i64 tm) (.string rs) (.string rh) (.string rd) HRb.out)
        go_wp2_with fail
        refine bodyPost_ret (v := .tuple #[.agg #[.int .i64 kd, .int .i64 sq, .int .i64 tm, .string rs, .string rh, .string rd], .int .i64 e2]) (res_rec2 8 9 Tryz.results84 _ _ rb rfl rfl HR6.out) rfl ?_
        exact ⟨rfl, HF2.out⟩
  · have herz : ¬ (er : Int) = 0 := by omega
    have hsk : ∀ o, seekR er o = (Rc.zero, er) := fun o => by unfold seekR; rw [if_pos he]
    rw [hsk]
    clear hsk
    have he0 : ((er : Int) != 0) = true := by simpa using he
    go_enter Tryz.func84, Tryz.ntmps84
    go_upto_region 1 with fail
    rw [← hw1, HRB.out]
    clear hw1
    go_wp2_with fail
    refine HSU.out.mono ?_
    rintro e w2 ⟨rfl, hb2⟩
    have hea2 := (hb2.block rb hrbl).trans HEA.out
    obtain ⟨q0, q1, q2, q3, q4, q5⟩ := sixC hea2
    have zf : ∀ j, w2.frozen? ⟨rb, j, none⟩ = false := fun j => frozen_of_row w2 rb j _ _ hea2
    have hrbl2 := heap_lt hea2
    have HF2 := Lib.hid (below6 (HB1.out.trans (hb2.mono HB1.out.size)) (Nat.le_of_eq HRB.out) (.int .i64 0) (.int .i64 0) (.int .i64 0) (.string ⟨#[]⟩) (.string ⟨#[]⟩) (.string ⟨#[]⟩))
    have HR6 := Lib.hid (set6 (.int .i64 0) (.int .i64 0) (.int .i64 0) (.string ⟨#[]⟩) (.string ⟨#[]⟩) (.string ⟨#[]⟩) hea2)
    clear hb2 hea2
    go_wp2_with fail
    refine bodyPost_ret (v := .tuple #[.agg #[.int .i64 0, .int .i64 0, .int .i64 0, .string ⟨#[]⟩, .string ⟨#[]⟩, .string ⟨#[]⟩], .int .i64 er]) (res_rec2 8 9 Tryz.results84 _ _ rb rfl rfl HR6.out) rfl ?_
    exact ⟨rfl, HF2.out⟩
end
end Go.Proofs.YtidacfhdhdnidaaGreatDoor.Sto

namespace Go.Proofs.YtidacfhdhdnidaaGreatDoor.Sto
open Go.RowKit Heap
open Subj (Tok ML pieces takes StrsAt)
open Rec (Rc recErr far)
open Idx (Ents ptrV)

theorem fld3 : ∀ (w : World) (a b c d : Int), (Instr.field 115 (.agg #[.int .i64 a, .int .i64 b, .int .i64 c, .int .i64 d]) 3).run Tryz.prog w = .ok (.int .i64 d) w := fun _ _ _ _ _ => by kernel_rfl

/-- What has been gathered so far. -/
def OutR (w wr : World) (o : Value) (K : List Rc) : Prop := Row wr 33 6 o K.length (recsV K) ∧ ∀ k, own o k → w.heap.size ≤ k

theorem OutR.next {w wr w' : World} {o : Value} {K : List Rc} (h : OutR w wr o K) (hb : Below wr.heap.size wr w') : OutR w w' o K := ⟨h.1.kept fun k _ hk => hb.block k hk, h.2⟩

section
variable {w : World}
end
end Go.Proofs.YtidacfhdhdnidaaGreatDoor.Sto

namespace Go.Proofs.YtidacfhdhdnidaaGreatDoor.Sto
open Go.RowKit Heap
open Subj (Tok ML pieces takes StrsAt)
open Rec (Rc recErr far)
open Idx (Ents ptrV findL FindPost entV)
open Shf (SortedE find_x cells_pull)

theorem nodup_le_subjs : ∀ L : List Rc, (subjs L).length ≤ L.length
  | [] => Nat.le_refl _
  | a :: L => by
    have ih := nodup_le_subjs L
    unfold subjs
    split <;> simp <;> omega

section
variable {W w : World} {F : Nat → Prop} {D B : Nat} {L : List Rc} {last : Int}

theorem subjects_any (hA : StoreAt W F D B L last w) (hB : B ≤ 80000) (hm : ML W) (f : ByteArray) (hf : f.size ≤ 1048576) : ∃ I, Right L last I ∧
    Calls Tryz.prog 121 #[.pointer (some ⟨D, 0, none⟩), .string f] w (FindPost (Subj.err true f.data.toList) (findL I f.data.toList) w) := by
  obtain ⟨M, x, N, I, v, h, hR, hN, _⟩ := hA.ex
  refine ⟨I, hR, ?_⟩
  obtain ⟨c0, c1, c2, c3, cf⟩ := fourS h.cell
  have hlt := h.lt
  have HC := Lib.hid (find_x h.idx (by omega) hm f hf)
  generalize Subj.err true f.data.toList = er at *
  generalize findL I f.data.toList = FL at *
  clear hA h hR hN hB
  go_enter Tryz.func121, Tryz.ntmps121
  go_wp2_with fail
  refine HC.out.mono ?_
  rintro e w' ⟨hb, hcase⟩
  obtain ⟨v, rfl, hfp⟩ : ∃ v, e = .returned (.tuple #[v, .int .i64 er]) ∧ FindPost er FL w (.returned (.tuple #[v, .int .i64 er])) w' := by
    rcases hcase with ⟨h1, rfl⟩ | ⟨rfl, v, rfl, h2, h3⟩
    · exact ⟨_, rfl, hb, .inl ⟨h1, rfl⟩⟩
    · exact ⟨v, rfl, hb, .inr ⟨rfl, v, rfl, h2, h3⟩⟩
  have HF := Lib.hid hfp
  clear hb hcase hfp HC
  go_wp2
  go_ret2
  exact HF.out
end

section
variable {w : World}
end
end Go.Proofs.YtidacfhdhdnidaaGreatDoor.Sto
