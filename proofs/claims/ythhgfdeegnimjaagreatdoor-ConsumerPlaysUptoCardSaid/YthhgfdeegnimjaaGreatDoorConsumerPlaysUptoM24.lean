/- Parts of the proof, joined: A store that is filled.; store.seek, Next, Last, walked.; (*Store).Next, Last, walked.; Get, of the store and of the reference's chest, walked.; The law StorePurges, walked: it returns true. -/
import Derived.Test.YthhgfdeegnimjaaGreatDoorConsumerPlaysUptoM11
import Derived.Test.YthhgfdeegnimjaaGreatDoorConsumerPlaysUptoM19
import Derived.Test.YthhgfdeegnimjaaGreatDoorConsumerPlaysUptoM23
namespace Go.Proofs.YthhgfdeegnimjaaGreatDoor.Sto
open Go.RowKit Heap
open Subj (Tok ML pieces takes StrsAt)
open Rec (Rc recErr far)
open Idx (Ents ptrV new_any)
open Shf (XAt NextX SortedE putL x_new)

/-- What a list of records leaves. -/
def runS (l : List Rc) : List Rc × Int := l.foldl (fun s r => after s.1 s.2 r) ([], 0)

theorem runS_step {l : List Rc} {k : Nat} {r : Rc} (h : l[k]? = some r) : runS (l.take (k + 1)) = after (runS (l.take k)).1 (runS (l.take k)).2 r := by
  unfold runS
  rw [List.take_add_one, h, List.foldl_append]
  rfl

section
variable {W w : World}

theorem new_store (hb : Below W.heap.size W w) : Calls Tryz.prog 8 #[] w fun e w' => e = .returned (.pointer (some ⟨w.heap.size + 1, 0, none⟩)) ∧ StoreAt W (fun k => w.heap.size ≤ k ∧ k < w.heap.size + 2) (w.heap.size + 1) 0 [] 0 w' ∧ Below w.heap.size w w' := by
  have HN := Lib.hid (new_any w)
  obtain ⟨w1, hw1⟩ : ∃ w1, w1 = w.alloc (.cells #[.string ⟨#[]⟩, .slice none 0 0, .bool false, .int .i64 0, .int .i64 0] 236) := ⟨_, rfl⟩
  have hX := x_new hb
  rw [← hw1] at hX HN
  have hsz : w1.heap.size = w.heap.size + 1 := by rw [hw1]; simp
  have hb1 : Below w.heap.size w w1 := by rw [hw1]; exact (Below.refl _ _).alloc (Nat.le_refl _) _
  have hP := Lib.hid (show StoreAt W (fun k => w.heap.size ≤ k ∧ k < w.heap.size + 2) (w.heap.size + 1) 0 [] 0 (w1.alloc (.cells #[.slice none 0 0, ptrV w.heap.size, .int .i64 0, .int .i64 0] 124)) ∧ Below w.heap.size w (w1.alloc (.cells #[.slice none 0 0, ptrV w.heap.size, .int .i64 0, .int .i64 0] 124)) from by
    have hb2 : Below w1.heap.size w1 (w1.alloc (.cells #[.slice none 0 0, ptrV w.heap.size, .int .i64 0, .int .i64 0] 124)) := (Below.refl _ _).alloc (Nat.le_refl _) _
    have hW := hb.size
    refine ⟨⟨⟨_, w.heap.size, 0, [], .slice none 0 0, ⟨hX.next hb2, by rw [← hsz]; exact heap_alloc_new w1 _, Row.nil _ _ _, by omega, by omega, fun k hk => by simp [own, Value.ownBlock] at hk⟩, ⟨List.Pairwise.nil, (fun _ h => by cases h), (fun _ h => by cases h), by simp, ⟨by omega, by unfold far; omega⟩, List.Pairwise.nil, fun s n => ⟨fun h => (by cases h), fun h => absurd rfl h.2⟩⟩, Nat.le_refl _, fun k hk => ?_⟩, ⟨by omega, by omega⟩, fun k hk => by omega, fun k hk => ?_⟩, hb1.trans (hb2.mono hb1.size)⟩
    · rcases hk with rfl | hk
      · exact ⟨Nat.le_refl _, by omega⟩
      · simp [own, Value.ownBlock] at hk
    · have : (w1.alloc (.cells #[.slice none 0 0, ptrV w.heap.size, .int .i64 0, .int .i64 0] 124)).heap.size = w1.heap.size + 1 := by simp
      omega)
  have HSZ := Lib.hid hsz
  clear hX hw1 hsz hb1
  go_enter Tryz.func8, Tryz.ntmps8
  go_wp2_with fail
  refine HN.out.mono ?_
  rintro e w' ⟨rfl, rfl⟩
  have hs := HSZ.out
  go_wp2
  go_ret
  exact ⟨by simp, hP.out⟩

end
end Go.Proofs.YthhgfdeegnimjaaGreatDoor.Sto

namespace Go.Proofs.YthhgfdeegnimjaaGreatDoor.Sto
open Go.RowKit Heap
open Subj (Tok ML pieces takes StrsAt)
open Rec (Rc recErr far)
open Idx (Ents ptrV split_dot strsAt_lt)

def tk (f : List UInt8) (x : Rc) : Bool := takes (pieces f) (pieces x.subj)

/-- What is told of a search. -/
def seekR (er : Nat) (o : Option Rc) : Rc × Nat := if er ≠ 0 then (Rc.zero, er) else match o with
  | some r => (r, 0)
  | none => (Rc.zero, 4)

theorem res_rec2 {fn : Func} (c t : Nat) (hf : fn.results = #[.cell c 33, .tmp t]) (tmps : Array Value) (w : World) (R : Nat) {a0 a1 a2 a3 a4 a5 k : Value}
    (h2 : tmps.getD c undef = .pointer (some ⟨R, 0, none⟩)) (h3 : tmps.getD t undef = k) (hR : w.heap[R]? = some (.cells #[a0, a1, a2, a3, a4, a5] 33 (0, 0))) :
    (results fn tmps).run Tryz.prog w = .ok (.tuple #[.agg #[a0, a1, a2, a3, a4, a5], k]) w := by
  obtain ⟨z0, z1, z2, z3, z4, z5⟩ := sixC hR
  simp only [Array.getD_eq_getD_getElem?] at h2 h3
  simp [results, hf, go_sem, h2, h3, z0, z1, z2, z3, z4, z5]

theorem below6 {n : Nat} {w0 w : World} (h : Below n w0 w) {R : Nat} (hR : n ≤ R) (a0 a1 a2 a3 a4 a5 : Value) : Below n w0 ((((((w.setCell ⟨R, 0, none⟩ a0).setCell ⟨R, 1, none⟩ a1).setCell ⟨R, 2, none⟩ a2).setCell ⟨R, 3, none⟩ a3).setCell ⟨R, 4, none⟩ a4).setCell ⟨R, 5, none⟩ a5) :=
  (((((h.setCell hR a0).setCell hR a1).setCell hR a2).setCell hR a3).setCell hR a4).setCell hR a5

/-- The k-th in the order of the search. -/
def nth (back : Bool) (l : List Rc) (k : Nat) : Option Rc := if back then l[l.length - 1 - k]? else l[k]?

def order (back : Bool) (l : List Rc) : List Rc := if back then l.reverse else l

theorem nth_order (back : Bool) (l : List Rc) (k : Nat) (hk : k < l.length) : nth back l k = (order back l)[k]? := by
  unfold nth order
  cases back with
  | false => rfl
  | true => simp [List.getElem?_reverse hk]

theorem find_nth {F : Rc → Bool} : ∀ {O : List Rc} {k : Nat} {p : Rc}, (∀ x ∈ O.take k, F x = false) → O[k]? = some p → F p = true → O.find? F = some p
  | [], _, _, _, h, _ => by simp at h
  | a :: O, 0, p, _, h, hp => by
    simp at h; subst h
    simp [List.find?, hp]
  | a :: O, k + 1, p, hn, h, hp => by
    have ha := hn a (by simp)
    have ih := find_nth (O := O) (k := k) (p := p) (fun x hx => hn x (by simp [hx])) (by simpa using h) hp
    simp [List.find?, ha, ih]

theorem order_len (back : Bool) (l : List Rc) : (order back l).length = l.length := by unfold order; cases back <;> simp
theorem order_mem {back : Bool} {l : List Rc} {r : Rc} (h : r ∈ order back l) : r ∈ l := by unfold order at h; cases back <;> simpa using h

section
variable {W w : World}

set_option maxHeartbeats 8000000 in
set_option maxRecDepth 100000 in
theorem seek_any (hb : Below W.heap.size W w) (hm : ML W) (f : ByteArray) (hf : f.size ≤ 1048576) {v : Value} {l : List Rc} (hl : RecsAt w v l) (hn : l.length ≤ 1000) (hz : ∀ r ∈ l, r.subj.length ≤ 1048576) (back : Bool) :
    Calls Tryz.prog 161 #[.string f, v, .bool back] w fun e w' => e = .returned (.tuple #[recV (seekR (Subj.err true f.data.toList) ((order back l).find? (tk f.data.toList))).1, .int .i64 ((seekR (Subj.err true f.data.toList) ((order back l).find? (tk f.data.toList))).2 : Nat)]) ∧ Below w.heap.size w w' := by
  obtain ⟨R, hR⟩ : ∃ R, seekR (Subj.err true f.data.toList) ((order back l).find? (tk f.data.toList)) = R := ⟨_, rfl⟩
  rw [hR]
  have HR := Lib.hid hR
  obtain ⟨n, hnL⟩ : ∃ n, l.length = n := ⟨_, rfl⟩
  have HN := Lib.hid hnL
  obtain ⟨w1, hw1⟩ : ∃ w1, w1 = w.alloc (.cells #[.int .i64 0, .int .i64 0, .int .i64 0, .string ⟨#[]⟩, .string ⟨#[]⟩, .string ⟨#[]⟩] 33) := ⟨_, rfl⟩
  have hb1 : Below w.heap.size w w1 := by rw [hw1]; exact (Below.refl _ _).alloc (Nat.le_refl _) _
  have hea : w1.heap[w.heap.size]? = some (.cells #[.int .i64 0, .int .i64 0, .int .i64 0, .string ⟨#[]⟩, .string ⟨#[]⟩, .string ⟨#[]⟩] 33 (0, 0)) := by rw [hw1]; exact heap_alloc_new w _
  obtain ⟨rb, hrb⟩ : ∃ rb, w.heap.size = rb := ⟨_, rfl⟩
  rw [hrb] at hea
  have HFI := Lib.hid (Subj.filter_any f w1 hf (hm.below (hb.trans (hb1.mono hb.size))))
  have HSP := Lib.hid (fun w1 hm1 => split_dot f w1 hf hm1)
  have hpl := Subj.pieces_size f hf
  have hne := Subj.pieces_ne f.data.toList
  obtain ⟨er, her⟩ : ∃ er, Subj.err true f.data.toList = er := ⟨_, rfl⟩
  rw [her] at HFI HR
  obtain ⟨F, hF⟩ : ∃ F, tk f.data.toList = F := ⟨_, rfl⟩
  rw [hF] at HR
  have HFF := Lib.hid hF
  obtain ⟨fl, hfl⟩ : ∃ fl, pieces f.data.toList = fl := ⟨_, rfl⟩
  rw [hfl] at HSP hpl hne
  have HFL := Lib.hid hfl
  have HL := Lib.hid hl; have HML := Lib.hid hm; have HZ := Lib.hid hz; have HB1 := Lib.hid hb1; have HEA := Lib.hid hea; have HRB := Lib.hid hrb; have HB := Lib.hid hb; have HNE := Lib.hid hne
  have HLv : ∃ ao cap, v = .slice ao n cap := by
    obtain ⟨ao, cap, h1, _⟩ := hl
    exact ⟨ao, cap, by rw [h1, hnL]⟩
  obtain ⟨ao, cap, rfl⟩ := HLv
  rw [hnL] at hn
  have hrbl := heap_lt hea
  clear hl hz hm hb hb1 hea hR hrb hnL hF hfl her hne
  go_enter Tryz.func161, Tryz.ntmps161
  go_upto_region 1 with fail
  rw [← hw1, HRB.out]
  clear hw1
  go_wp2_with fail
  refine HFI.out.mono ?_
  rintro e w2 ⟨rfl, hb2⟩
  have HB2 := Lib.hid (HB1.out.trans (hb2.mono HB1.out.size))
  have hea2 := (hb2.block rb hrbl).trans HEA.out
  have HEA2 := Lib.hid hea2
  obtain ⟨q0, q1, q2, q3, q4, q5⟩ := sixC hea2
  have hrbl2 := heap_lt hea2
  have zf : ∀ j, w2.frozen? ⟨rb, j, none⟩ = false := fun j => frozen_of_row w2 rb j _ _ hea2
  clear hb2 hea2 HFI HEA hrbl
  by_cases he : er = 0
  · subst he
    have HSP2 := Lib.hid (HSP.out w2 (HML.out.below (HB.out.trans (HB2.out.mono HB.out.size))))
    obtain ⟨gf, hgf⟩ : ∃ gf, w2.heap.size = gf := ⟨_, rfl⟩
    rw [hgf] at HSP2
    have HGF := Lib.hid hgf
    clear hgf HSP q0 q1 q2 q3 q4 q5 zf
    go_wp2_with fail
    refine HSP2.out.mono ?_
    rintro e w3 ⟨rfl, hst3, hb3⟩
    rw [← HGF.out] at hb3
    have HST3 := Lib.hid hst3
    have HB3 := Lib.hid (HB2.out.trans (hb3.mono HB2.out.size))
    have hea3 := (hb3.block rb hrbl2).trans HEA2.out
    have HEA3 := Lib.hid hea3
    clear hst3 hb3 hea3 HSP2 HEA2 hrbl2
    go_wp2_with fail
    go_loopw [22] (fun i wr => ∃ k : Nat, k ≤ n ∧ i = .int .i64 k ∧ Hid (∀ x ∈ (order back l).take k, F x = false) ∧ Hid (Below w3.heap.size w3 wr)) (fun i _ => n - (intOf i).toNat)
    case atStart => exact ⟨0, Nat.zero_le _, rfl, Lib.hid (fun x h => by simp at h), Lib.hid (Below.refl _ _)⟩
    case round =>
      obtain ⟨k, hk, rfl, HNO, HW⟩ := hrel
      have hear := (HW.out.block rb (heap_lt HEA3.out)).trans HEA3.out
      have HEAR := Lib.hid hear
      have HBr := Lib.hid (HB3.out.trans (HW.out.mono HB3.out.size))
      by_cases hlt : k < n
      · have hltz : (k : Int) < n := by omega
        obtain ⟨pk, hpk⟩ : ∃ p, l[k]? = some p := ⟨_, List.getElem?_eq_getElem (by rw [HN.out]; exact hlt)⟩
        obtain ⟨a', c', hv, ha⟩ := (HL.out.below HBr.out (Nat.le_refl _))
        simp only [Value.slice.injEq] at hv
        obtain ⟨rfl, hv0, rfl⟩ := hv
        clear hv0
        obtain ⟨g, off, rfl, hcs⟩ := ha (fun e => by rw [e] at hpk; simp at hpk)
        obtain ⟨m0, m1, m2, m3, m4, m5⟩ := hcs k pk hpk
        obtain ⟨s0, h0, d0, hpp0⟩ := parts pk
        rw [hpp0.s1] at m3
        rw [hpp0.h1] at m4
        rw [hpp0.d1] at m5
        cases back with
        | false =>
          have hO : (order false l)[k]? = some pk := hpk
          obtain ⟨pp, hpe⟩ : ∃ pp, pk = pp := ⟨_, rfl⟩
          rw [hpe] at hO hpp0 m0 m1 m2
          obtain ⟨s, hs⟩ : ∃ s, s0 = s := ⟨_, rfl⟩
          obtain ⟨h, hh⟩ : ∃ h, h0 = h := ⟨_, rfl⟩
          obtain ⟨d, hd⟩ : ∃ d, d0 = d := ⟨_, rfl⟩
          rw [hs, hh, hd] at hpp0
          rw [hs] at m3
          rw [hh] at m4
          rw [hd] at m5
          have hpp := hpp0
          clear hpp0 hs hh hd hpe hpk
          have hrv : recV pp = .agg #[.int .i64 pp.kind, .int .i64 pp.seq, .int .i64 pp.time, .string s, .string h, .string d] := by unfold recV; rw [hpp.s1, hpp.h1, hpp.d1]
          obtain ⟨kd, hkd⟩ : ∃ kd, pp.kind = kd := ⟨_, rfl⟩
          obtain ⟨sq, hsq⟩ : ∃ sq, pp.seq = sq := ⟨_, rfl⟩
          obtain ⟨tm, htm⟩ : ∃ tm, pp.time = tm := ⟨_, rfl⟩
          rw [hkd, hsq, htm] at hrv
          rw [hkd] at m0
          rw [hsq] at m1
          rw [htm] at m2
          have HRV := Lib.hid hrv
          obtain ⟨wb, hwb⟩ : ∃ wb, wb = wr.alloc (.cells #[.int .i64 kd, .int .i64 sq, .int .i64 tm, .string s, .string h, .string d] 33) := ⟨_, rfl⟩
          have hba : Below wr.heap.size wr wb := by rw [hwb]; exact (Below.refl _ _).alloc (Nat.le_refl _) _
          have heb : wb.heap[wr.heap.size]? = some (.cells #[.int .i64 kd, .int .i64 sq, .int .i64 tm, .string s, .string h, .string d] 33 (0, 0)) := by rw [hwb]; exact heap_alloc_new wr _
          have hrl := heap_lt hear
          obtain ⟨bx, hbx⟩ : ∃ bx, wr.heap.size = bx := ⟨_, rfl⟩
          rw [hbx] at heb
          have HEB := Lib.hid heb; have HBX := Lib.hid hbx
          have HWb := Lib.hid (HW.out.trans (hba.mono HW.out.size)); have HBb := Lib.hid (HBr.out.trans (hba.mono HBr.out.size)); have HRBb := Lib.hid ((hba.block rb hrl).trans hear)
          have HNB := Lib.hid (show ¬ rb = bx by omega)
          clear hba heb hbx hear hrv hkd hsq htm hrl
          go_upto_region 11 with fail
          rw [← hwb, HBX.out]
          clear hwb
          clear m0 m1 m2 m3 m4 m5 hcs ha
          obtain ⟨q0, q1, q2, q3, q4, q5⟩ := sixC HEB.out
          have hbxl := heap_lt HEB.out
          have hspl := split_dot s wb (by rw [hpp.s3]; exact HZ.out pp (order_mem (List.mem_of_getElem? hO))) (HML.out.below (HB.out.trans (HBb.out.mono HB.out.size)))
          rw [hpp.s2] at hspl
          have hpl2 : (pieces pp.subj).length ≤ 1048577 := by
            have := Subj.pieces_size s (by rw [hpp.s3]; exact HZ.out pp (order_mem (List.mem_of_getElem? hO)))
            rw [hpp.s2] at this; exact this
          obtain ⟨pl, hpli⟩ : ∃ pl, pieces pp.subj = pl := ⟨_, rfl⟩
          rw [hpli] at hspl hpl2
          obtain ⟨B, hBv⟩ : ∃ B, F pp = B := ⟨_, rfl⟩
          have htk := fun (w4 : World) (ha : StrsAt w4 gf 0 fl) (hb : StrsAt w4 wb.heap.size 0 pl) => Subj.takes_any gf wb.heap.size fl.length pl.length fl pl w4 ha hb (by unfold maxLen; omega) (by unfold maxLen; omega)
          have htv : takes fl pl = B := by
            rw [← hBv, ← HFF.out]
            unfold tk
            rw [HFL.out, hpli]
          rw [htv] at htk
          have HSPL := Lib.hid hspl; have HTK := Lib.hid htk; have HBV := Lib.hid hBv; have HO := Lib.hid hO
          have HSTb := Lib.hid (HST3.out.below HWb.out)
          clear hspl hpli hBv htv htk hO hpp
          go_wp2_with fail
          refine HSPL.out.mono ?_
          rintro e w5 ⟨rfl, hst5, hb5⟩
          have HTK5 := Lib.hid (HTK.out w5 (HSTb.out.below hb5) hst5)
          have heb5 := (hb5.block bx hbxl).trans HEB.out
          have her5 := (hb5.block rb (heap_lt HRBb.out)).trans HRBb.out
          have HW5 := Lib.hid (HWb.out.trans (hb5.mono HWb.out.size)); have HB5 := Lib.hid (HBb.out.trans (hb5.mono HBb.out.size)); have HRB5 := Lib.hid her5
          obtain ⟨q0, q1, q2, q3, q4, q5⟩ := sixC heb5
          obtain ⟨y0, y1, y2, y3, y4, y5⟩ := sixC her5
          have yf : ∀ j, w5.frozen? ⟨rb, j, none⟩ = false := fun j => frozen_of_row w5 rb j _ _ her5
          have hbxl5 := heap_lt heb5
          have hrbl5 := heap_lt her5
          clear hst5 hb5 heb5 her5 HSPL HTK
          go_wp2_with fail
          refine HTK5.out.mono ?_
          rintro e w' ⟨rfl, rfl⟩
          clear HTK5
          cases B with
          | false =>
            go_wp2_with fail
            exact ⟨⟨k + 1, by omega, by go_num, Lib.hid (fun x hx => by
              rw [List.take_add_one, HO.out, List.mem_append] at hx
              rcases hx with hx | hx
              · exact HNO.out x hx
              · simp at hx; subst hx; exact HBV.out), HW5⟩, by simp [intOf]; omega⟩
          | true =>
            obtain rfl : R = (pp, 0) := by
              rw [← HR.out, find_nth HNO.out HO.out HBV.out]; rfl
            have HF2 := Lib.hid (below6 HB5.out (Nat.le_of_eq HRB.out) (.int .i64 kd) (.int .i64 sq) (.int .i64 tm) (.string s) (.string h) (.string d))
            have HR6 := Lib.hid (set6 (.int .i64 kd) (.int .i64 sq) (.int .i64 tm) (.string s) (.string h) (.string d) HRB5.out)
            have hne2 : ¬ rb = bx := HNB.out
            go_wp2_with fail
            refine bodyPost_ret (v := .tuple #[.agg #[.int .i64 kd, .int .i64 sq, .int .i64 tm, .string s, .string h, .string d], .int .i64 0]) (res_rec2 6 7 Tryz.results161 _ _ rb rfl rfl HR6.out) rfl ?_
            exact ⟨by rw [← HRV.out], HF2.out⟩
        | true =>
          obtain ⟨pp, hpb⟩ : ∃ p, l[n - 1 - k]? = some p := ⟨_, List.getElem?_eq_getElem (by rw [HN.out]; omega)⟩
          have hO : (order true l)[k]? = some pp := by
            rw [← nth_order true l k (by rw [HN.out]; exact hlt)]
            unfold nth
            rw [if_pos rfl, HN.out]; exact hpb
          obtain ⟨b0, b1, b2, b3, b4, b5⟩ := hcs (n - 1 - k) pp hpb
          obtain ⟨s, h, d, hpp⟩ := parts pp
          rw [hpp.s1] at b3
          rw [hpp.h1] at b4
          rw [hpp.d1] at b5
          have hs1 : ((n : Int) - 1 - k).toNat = n - 1 - k := by omega
          have hs2 : (0 : Int) ≤ (n : Int) - 1 - k := by omega
          have hs3 : (n : Int) - 1 - k < n := by omega
          clear hpb hpk hpp0
          have hrv : recV pp = .agg #[.int .i64 pp.kind, .int .i64 pp.seq, .int .i64 pp.time, .string s, .string h, .string d] := by unfold recV; rw [hpp.s1, hpp.h1, hpp.d1]
          obtain ⟨kd, hkd⟩ : ∃ kd, pp.kind = kd := ⟨_, rfl⟩
          obtain ⟨sq, hsq⟩ : ∃ sq, pp.seq = sq := ⟨_, rfl⟩
          obtain ⟨tm, htm⟩ : ∃ tm, pp.time = tm := ⟨_, rfl⟩
          rw [hkd, hsq, htm] at hrv
          rw [hkd] at b0
          rw [hsq] at b1
          rw [htm] at b2
          have HRV := Lib.hid hrv
          obtain ⟨zk, hzk⟩ : ∃ zk, pk.kind = zk := ⟨_, rfl⟩
          obtain ⟨zq, hzq⟩ : ∃ zq, pk.seq = zq := ⟨_, rfl⟩
          obtain ⟨zt, hzt⟩ : ∃ zt, pk.time = zt := ⟨_, rfl⟩
          rw [hzk] at m0
          rw [hzq] at m1
          rw [hzt] at m2
          obtain ⟨wk, hwk⟩ : ∃ wk, wk = wr.alloc (.cells #[.int .i64 zk, .int .i64 zq, .int .i64 zt, .string s0, .string h0, .string d0] 33) := ⟨_, rfl⟩
          have hbk : Below wr.heap.size wr wk := by rw [hwk]; exact (Below.refl _ _).alloc (Nat.le_refl _) _
          have hek : wk.heap[wr.heap.size]? = some (.cells #[.int .i64 zk, .int .i64 zq, .int .i64 zt, .string s0, .string h0, .string d0] 33 (0, 0)) := by rw [hwk]; exact heap_alloc_new wr _
          have hg : g < wr.heap.size := World.block_lt_of_cell? wr _ b0
          have hgb := hbk.block g hg
          have b0' := (World.cell?_of_block (a := ⟨g, off + (n - 1 - k) * 6, none⟩) hgb).trans b0
          have b1' := (World.cell?_of_block (a := ⟨g, off + (n - 1 - k) * 6 + 1, none⟩) hgb).trans b1
          have b2' := (World.cell?_of_block (a := ⟨g, off + (n - 1 - k) * 6 + 2, none⟩) hgb).trans b2
          have b3' := (World.cell?_of_block (a := ⟨g, off + (n - 1 - k) * 6 + 3, none⟩) hgb).trans b3
          have b4' := (World.cell?_of_block (a := ⟨g, off + (n - 1 - k) * 6 + 4, none⟩) hgb).trans b4
          have b5' := (World.cell?_of_block (a := ⟨g, off + (n - 1 - k) * 6 + 5, none⟩) hgb).trans b5
          obtain ⟨x0, x1, x2, x3, x4, x5⟩ := sixC hek
          have xf : ∀ j, wk.frozen? ⟨wr.heap.size, j, none⟩ = false := fun j => frozen_of_row wk _ j _ _ hek
          have hxl := heap_lt hek
          obtain ⟨wb, hwb⟩ : ∃ wb, wb = ((((((wk.setCell ⟨wr.heap.size, 0, none⟩ (.int .i64 kd)).setCell ⟨wr.heap.size, 1, none⟩ (.int .i64 sq)).setCell ⟨wr.heap.size, 2, none⟩ (.int .i64 tm)).setCell ⟨wr.heap.size, 3, none⟩ (.string s)).setCell ⟨wr.heap.size, 4, none⟩ (.string h)).setCell ⟨wr.heap.size, 5, none⟩ (.string d)) := ⟨_, rfl⟩
          have hba : Below wr.heap.size wr wb := by rw [hwb]; exact below6 hbk (Nat.le_refl _) _ _ _ _ _ _
          have heb : wb.heap[wr.heap.size]? = some (.cells #[.int .i64 kd, .int .i64 sq, .int .i64 tm, .string s, .string h, .string d] 33 (0, 0)) := by rw [hwb]; exact set6 _ _ _ _ _ _ hek
          have hrl := heap_lt hear
          obtain ⟨bx, hbx⟩ : ∃ bx, wr.heap.size = bx := ⟨_, rfl⟩
          rw [hbx] at heb hwb x0 x1 x2 x3 x4 x5 hxl
          have xf' : ∀ j, wk.frozen? ⟨bx, j, none⟩ = false := by rw [← hbx]; exact xf
          have HEB := Lib.hid heb; have HBX := Lib.hid hbx
          have HWb := Lib.hid (HW.out.trans (hba.mono HW.out.size)); have HBb := Lib.hid (HBr.out.trans (hba.mono HBr.out.size)); have HRBb := Lib.hid ((hba.block rb hrl).trans hear)
          have HNB := Lib.hid (show ¬ rb = bx by omega)
          clear hba heb hbx hear hrv hkd hsq htm hrl xf hzk hzq hzt hbk hek hgb b0 b1 b2 b3 b4 b5
          go_upto_region 9 with fail
          rw [← hwk, HBX.out]
          clear hwk
          go_upto_region 11 with fail
          rw [← hwb]
          clear hwb x0 x1 x2 x3 x4 x5 xf' hxl
          clear m0 m1 m2 m3 m4 m5 b0' b1' b2' b3' b4' b5' hcs ha hs1 hs2 hs3
          obtain ⟨q0, q1, q2, q3, q4, q5⟩ := sixC HEB.out
          have hbxl := heap_lt HEB.out
          have hspl := split_dot s wb (by rw [hpp.s3]; exact HZ.out pp (order_mem (List.mem_of_getElem? hO))) (HML.out.below (HB.out.trans (HBb.out.mono HB.out.size)))
          rw [hpp.s2] at hspl
          have hpl2 : (pieces pp.subj).length ≤ 1048577 := by
            have := Subj.pieces_size s (by rw [hpp.s3]; exact HZ.out pp (order_mem (List.mem_of_getElem? hO)))
            rw [hpp.s2] at this; exact this
          obtain ⟨pl, hpli⟩ : ∃ pl, pieces pp.subj = pl := ⟨_, rfl⟩
          rw [hpli] at hspl hpl2
          obtain ⟨B, hBv⟩ : ∃ B, F pp = B := ⟨_, rfl⟩
          have htk := fun (w4 : World) (ha : StrsAt w4 gf 0 fl) (hb : StrsAt w4 wb.heap.size 0 pl) => Subj.takes_any gf wb.heap.size fl.length pl.length fl pl w4 ha hb (by unfold maxLen; omega) (by unfold maxLen; omega)
          have htv : takes fl pl = B := by
            rw [← hBv, ← HFF.out]
            unfold tk
            rw [HFL.out, hpli]
          rw [htv] at htk
          have HSPL := Lib.hid hspl; have HTK := Lib.hid htk; have HBV := Lib.hid hBv; have HO := Lib.hid hO
          have HSTb := Lib.hid (HST3.out.below HWb.out)
          clear hspl hpli hBv htv htk hO hpp
          go_wp2_with fail
          refine HSPL.out.mono ?_
          rintro e w5 ⟨rfl, hst5, hb5⟩
          have HTK5 := Lib.hid (HTK.out w5 (HSTb.out.below hb5) hst5)
          have heb5 := (hb5.block bx hbxl).trans HEB.out
          have her5 := (hb5.block rb (heap_lt HRBb.out)).trans HRBb.out
          have HW5 := Lib.hid (HWb.out.trans (hb5.mono HWb.out.size)); have HB5 := Lib.hid (HBb.out.trans (hb5.mono HBb.out.size)); have HRB5 := Lib.hid her5
          obtain ⟨q0, q1, q2, q3, q4, q5⟩ := sixC heb5
          obtain ⟨y0, y1, y2, y3, y4, y5⟩ := sixC her5
          have yf : ∀ j, w5.frozen? ⟨rb, j, none⟩ = false := fun j => frozen_of_row w5 rb j _ _ her5
          have hbxl5 := heap_lt heb5
          have hrbl5 := heap_lt her5
          clear hst5 hb5 heb5 her5 HSPL HTK
          go_wp2_with fail
          refine HTK5.out.mono ?_
          rintro e w' ⟨rfl, rfl⟩
          clear HTK5
          cases B with
          | false =>
            go_wp2_with fail
            exact ⟨⟨k + 1, by omega, by go_num, Lib.hid (fun x hx => by
              rw [List.take_add_one, HO.out, List.mem_append] at hx
              rcases hx with hx | hx
              · exact HNO.out x hx
              · simp at hx; subst hx; exact HBV.out), HW5⟩, by simp [intOf]; omega⟩
          | true =>
            obtain rfl : R = (pp, 0) := by
              rw [← HR.out, find_nth HNO.out HO.out HBV.out]; rfl
            have HF2 := Lib.hid (below6 HB5.out (Nat.le_of_eq HRB.out) (.int .i64 kd) (.int .i64 sq) (.int .i64 tm) (.string s) (.string h) (.string d))
            have HR6 := Lib.hid (set6 (.int .i64 kd) (.int .i64 sq) (.int .i64 tm) (.string s) (.string h) (.string d) HRB5.out)
            have hne2 : ¬ rb = bx := HNB.out
            go_wp2_with fail
            refine bodyPost_ret (v := .tuple #[.agg #[.int .i64 kd, .int .i64 sq, .int .i64 tm, .string s, .string h, .string d], .int .i64 0]) (res_rec2 6 7 Tryz.results161 _ _ rb rfl rfl HR6.out) rfl ?_
            exact ⟨by rw [← HRV.out], HF2.out⟩
      · have hltz : ¬ (k : Int) < n := by omega
        obtain rfl : k = n := by omega
        obtain rfl : R = (Rc.zero, 4) := by
          rw [← HR.out]
          have hno : (order back l).find? F = none := by
            rw [List.find?_eq_none]
            intro x hx
            have h1 := HNO.out x (by rw [List.take_of_length_le (by rw [order_len, HN.out]; exact Nat.le_refl _)]; exact hx)
            rw [h1]; simp
          rw [hno]; rfl
        obtain ⟨y0, y1, y2, y3, y4, y5⟩ := sixC hear
        have yf : ∀ j, wr.frozen? ⟨rb, j, none⟩ = false := fun j => frozen_of_row wr rb j _ _ hear
        have hrlr := heap_lt hear
        have HF2 := Lib.hid (below6 HBr.out (Nat.le_of_eq HRB.out) (.int .i64 0) (.int .i64 0) (.int .i64 0) (.string ⟨#[]⟩) (.string ⟨#[]⟩) (.string ⟨#[]⟩))
        have HR6 := Lib.hid (set6 (.int .i64 0) (.int .i64 0) (.int .i64 0) (.string ⟨#[]⟩) (.string ⟨#[]⟩) (.string ⟨#[]⟩) HEAR.out)
        clear hear
        go_wp2_with fail
        refine bodyPost_ret (v := .tuple #[.agg #[.int .i64 0, .int .i64 0, .int .i64 0, .string ⟨#[]⟩, .string ⟨#[]⟩, .string ⟨#[]⟩], .int .i64 4]) (res_rec2 6 7 Tryz.results161 _ _ rb rfl rfl HR6.out) rfl ?_
        exact ⟨rfl, HF2.out⟩
  · have he0 : ((er : Int) != 0) = true := by simpa using he
    obtain rfl : R = (Rc.zero, er) := by rw [← HR.out]; unfold seekR; rw [if_pos he]
    have HF2 := Lib.hid (below6 HB2.out (Nat.le_of_eq HRB.out) (.int .i64 0) (.int .i64 0) (.int .i64 0) (.string ⟨#[]⟩) (.string ⟨#[]⟩) (.string ⟨#[]⟩))
    have HR6 := Lib.hid (set6 (.int .i64 0) (.int .i64 0) (.int .i64 0) (.string ⟨#[]⟩) (.string ⟨#[]⟩) (.string ⟨#[]⟩) HEA2.out)
    clear he
    go_wp2_with fail
    refine bodyPost_ret (v := .tuple #[.agg #[.int .i64 0, .int .i64 0, .int .i64 0, .string ⟨#[]⟩, .string ⟨#[]⟩, .string ⟨#[]⟩], .int .i64 er]) (res_rec2 6 7 Tryz.results161 _ _ rb rfl rfl HR6.out) rfl ?_
    exact ⟨rfl, HF2.out⟩
end
end Go.Proofs.YthhgfdeegnimjaaGreatDoor.Sto

namespace Go.Proofs.YthhgfdeegnimjaaGreatDoor.Sto
open Go.RowKit Heap
open Subj (Tok ML pieces takes StrsAt)
open Rec (Rc recErr far)
open Idx (Ents ptrV)

theorem RecsAt.tail {w : World} {g off n cap : Nat} {l : List Rc} (h : RecsAt w (.slice (some ⟨g, off, none⟩) n cap) l) (i : Nat) (hi : i ≤ n) (ao : Option Addr) (c : Nat) (ha : i < n → ao = some ⟨g, off + i * 6, none⟩) : RecsAt w (.slice ao (n - i) c) (l.drop i) := by
  obtain ⟨a', c', hv, hc⟩ := h
  simp only [Value.slice.injEq] at hv
  obtain ⟨rfl, rfl, rfl⟩ := hv
  refine ⟨ao, c, by rw [List.length_drop], fun hne => ?_⟩
  have hil : i < l.length := by
    rcases Nat.lt_or_ge i l.length with h | h
    · exact h
    · exact absurd (List.drop_of_length_le h) hne
  have hne2 : l ≠ [] := fun e => by rw [e] at hil; simp at hil
  obtain ⟨g', off', hgo, hcs⟩ := hc hne2
  simp only [Option.some.injEq, Addr.mk.injEq] at hgo
  obtain ⟨rfl, rfl, _⟩ := hgo
  refine ⟨g, off + i * 6, ha hil, fun j p hp => ?_⟩
  rw [List.getElem?_drop] at hp
  have h1 := hcs (i + j) p hp
  rw [show off + i * 6 + j * 6 = off + (i + j) * 6 by omega]
  exact h1

section
variable {W w : World} {F : Nat → Prop} {D B : Nat} {L : List Rc} {last : Int}

theorem StoreAt.list (hA : StoreAt W F D B L last w) : ∃ v, w.cell? ⟨D, 0, none⟩ = some v ∧ D < w.heap.size ∧ RecsAt w v L ∧ L.length ≤ 200 ∧ (∀ r ∈ L, r.subj.length ≤ 1048576) ∧ Row w 33 6 v L.length (recsV L) := by
  obtain ⟨M, x, N, I, v, h, hR, _, _⟩ := hA.ex
  refine ⟨v, (fourS h.cell).1, h.lt, row_recs h.row, hR.few, fun r hr => ?_, h.row⟩
  have := (good_parts (hR.good r hr).1 (hR.good r hr).2).2.1
  omega

set_option maxHeartbeats 4000000 in
set_option maxRecDepth 100000 in
theorem last_any (hA : StoreAt W F D B L last w) (hm : ML W) (f : ByteArray) (hf : f.size ≤ 1048576) :
    Calls Tryz.prog 61 #[.pointer (some ⟨D, 0, none⟩), .string f] w fun e w' => e = .returned (.tuple #[recV (seekR (Subj.err true f.data.toList) (L.reverse.find? (tk f.data.toList))).1, .int .i64 ((seekR (Subj.err true f.data.toList) (L.reverse.find? (tk f.data.toList))).2 : Nat)]) ∧ Below w.heap.size w w' := by
  obtain ⟨w1, hw1⟩ : ∃ w1, w1 = w.alloc (.cells #[.int .i64 0, .int .i64 0, .int .i64 0, .string ⟨#[]⟩, .string ⟨#[]⟩, .string ⟨#[]⟩] 33) := ⟨_, rfl⟩
  have hb1 : Below w.heap.size w w1 := by rw [hw1]; exact (Below.refl _ _).alloc (Nat.le_refl _) _
  have hea : w1.heap[w.heap.size]? = some (.cells #[.int .i64 0, .int .i64 0, .int .i64 0, .string ⟨#[]⟩, .string ⟨#[]⟩, .string ⟨#[]⟩] 33 (0, 0)) := by rw [hw1]; exact heap_alloc_new w _
  obtain ⟨rb, hrb⟩ : ∃ rb, w.heap.size = rb := ⟨_, rfl⟩
  rw [hrb] at hea
  obtain ⟨v, c0, hlt, hrec, hfew, hz, _⟩ := (hA.next hb1).list
  have hsk := seek_any (W := W) (hA.next hb1).below hm f hf hrec (by omega) hz true
  rw [show order true L = L.reverse from rfl] at hsk
  generalize seekR (Subj.err true f.data.toList) (L.reverse.find? (tk f.data.toList)) = R at *
  obtain ⟨r, er⟩ := R
  obtain ⟨s, h, d, hpp⟩ := parts r
  have hrv : recV r = .agg #[.int .i64 r.kind, .int .i64 r.seq, .int .i64 r.time, .string s, .string h, .string d] := by unfold recV; rw [hpp.s1, hpp.h1, hpp.d1]
  simp only [hrv] at hsk ⊢
  have HSK := Lib.hid hsk; have HB1 := Lib.hid hb1; have HEA := Lib.hid hea; have HRB := Lib.hid hrb
  have hrbl := heap_lt hea
  generalize r.kind = kd at *
  generalize r.seq = sq at *
  generalize r.time = tm at *
  clear hA hb1 hea hrb hrec hz hsk hrv hpp hm hf
  go_enter Tryz.func61, Tryz.ntmps61
  go_upto_region 1 with fail
  rw [← hw1, HRB.out]
  clear hw1
  go_wp2_with fail
  refine HSK.out.mono ?_
  rintro e w2 ⟨rfl, hb2⟩
  have hea2 := (hb2.block rb hrbl).trans HEA.out
  obtain ⟨q0, q1, q2, q3, q4, q5⟩ := sixC hea2
  have zf : ∀ j, w2.frozen? ⟨rb, j, none⟩ = false := fun j => frozen_of_row w2 rb j _ _ hea2
  have hrbl2 := heap_lt hea2
  have HF2 := Lib.hid (below6 (HB1.out.trans (hb2.mono HB1.out.size)) (Nat.le_of_eq HRB.out) (.int .i64 kd) (.int .i64 sq) (.int .i64 tm) (.string s) (.string h) (.string d))
  have HR6 := Lib.hid (set6 (.int .i64 kd) (.int .i64 sq) (.int .i64 tm) (.string s) (.string h) (.string d) hea2)
  clear hb2 hea2 HSK HEA hrbl
  go_wp2_with fail
  refine bodyPost_ret (v := .tuple #[.agg #[.int .i64 kd, .int .i64 sq, .int .i64 tm, .string s, .string h, .string d], .int .i64 er]) (res_rec2 4 5 Tryz.results61 _ _ rb rfl rfl HR6.out) rfl ?_
  exact ⟨rfl, HF2.out⟩

set_option maxHeartbeats 4000000 in
set_option maxRecDepth 100000 in
theorem next_from (hA : StoreAt W F D B L last w) (hm : ML W) (f : ByteArray) (hf : f.size ≤ 1048576) (q0 q : Int) (hmx : max q0 0 = q) (hq : 0 ≤ q ∧ q ≤ 9223372036854775807) :
    Calls Tryz.prog 66 #[.pointer (some ⟨D, 0, none⟩), .string f, .int .i64 q0] w fun e w' => ∃ i, (∀ r ∈ L.take i, r.seq < q) ∧ (∀ r ∈ L.drop i, q ≤ r.seq) ∧ e = .returned (.tuple #[recV (seekR (Subj.err true f.data.toList) ((L.drop i).find? (tk f.data.toList))).1, .int .i64 ((seekR (Subj.err true f.data.toList) ((L.drop i).find? (tk f.data.toList))).2 : Nat)]) ∧ Below w.heap.size w w' := by
  obtain ⟨w1, hw1⟩ : ∃ w1, w1 = w.alloc (.cells #[.int .i64 0, .int .i64 0, .int .i64 0, .string ⟨#[]⟩, .string ⟨#[]⟩, .string ⟨#[]⟩] 33) := ⟨_, rfl⟩
  have hb1 : Below w.heap.size w w1 := by rw [hw1]; exact (Below.refl _ _).alloc (Nat.le_refl _) _
  have hea : w1.heap[w.heap.size]? = some (.cells #[.int .i64 0, .int .i64 0, .int .i64 0, .string ⟨#[]⟩, .string ⟨#[]⟩, .string ⟨#[]⟩] 33 (0, 0)) := by rw [hw1]; exact heap_alloc_new w _
  obtain ⟨rb, hrb⟩ : ∃ rb, w.heap.size = rb := ⟨_, rfl⟩
  rw [hrb] at hea
  have hA1 := hA.next hb1
  obtain ⟨M, x, N, I, v', hS, hR, _, _⟩ := hA1.ex
  have hpl := place_rec hS (by have := hR.few; omega) q
  have HA1 := Lib.hid hA1; have HPL := Lib.hid hpl; have HB1 := Lib.hid hb1; have HEA := Lib.hid hea; have HRB := Lib.hid hrb; have HR := Lib.hid hR; have HML := Lib.hid hm
  have hrbl := heap_lt hea
  clear hA hb1 hea hrb hA1 hS hR hpl hm
  go_enter Tryz.func66, Tryz.ntmps66
  go_upto_region 1 with fail
  rw [← hw1, HRB.out]
  clear hw1
  go_wp2_with fail
  refine HPL.out.mono ?_
  rintro e w2 ⟨i, fd, rfl, hfo, hb2⟩
  obtain ⟨hlo, hhi, _, _⟩ := hfo.in HR.out.rise HR.out.seqs (by omega)
  have hile := hfo.le
  have HLO := Lib.hid hlo; have HHI := Lib.hid hhi
  have HA2 := Lib.hid (HA1.out.next hb2)
  have hea2 := (hb2.block rb hrbl).trans HEA.out
  have HEA2 := Lib.hid hea2
  have HB2 := Lib.hid (HB1.out.trans (hb2.mono HB1.out.size))
  obtain ⟨v, c0, hlt, hrec, hfew, hz, hrow⟩ := HA2.out.list
  obtain ⟨n, hnL⟩ : ∃ n, L.length = n := ⟨_, rfl⟩
  rw [hnL] at hfew hile hrow
  have HZ := Lib.hid hz; have HREC := Lib.hid hrec; have HNL := Lib.hid hnL
  have hrbl2 := heap_lt hea2
  clear hb2 hfo hlo hhi hea2 HPL hz hrec hnL hrbl
  -- what is behind the place
  have key : ∀ ao c, RecsAt w2 (.slice ao (n - i) c) (L.drop i) → Calls Tryz.prog 161 #[.string f, .slice ao (n - i) c, .bool false] w2 fun e w' => e = .returned (.tuple #[recV (seekR (Subj.err true f.data.toList) ((L.drop i).find? (tk f.data.toList))).1, .int .i64 ((seekR (Subj.err true f.data.toList) ((L.drop i).find? (tk f.data.toList))).2 : Nat)]) ∧ Below w2.heap.size w2 w' := fun ao c hr =>
    seek_any (W := W) HA2.out.below HML.out f hf hr (by rw [List.length_drop, HNL.out]; omega) (fun r hr => HZ.out r (List.mem_of_mem_drop hr)) false
  obtain ⟨R, hRR⟩ : ∃ R, seekR (Subj.err true f.data.toList) ((L.drop i).find? (tk f.data.toList)) = R := ⟨_, rfl⟩
  rw [hRR] at key
  obtain ⟨r, er⟩ := R
  obtain ⟨s, h, d, hpp⟩ := parts r
  have hrv : recV r = .agg #[.int .i64 r.kind, .int .i64 r.seq, .int .i64 r.time, .string s, .string h, .string d] := by unfold recV; rw [hpp.s1, hpp.h1, hpp.d1]
  simp only [hrv] at key
  have HRV := Lib.hid hrv; have HRR := Lib.hid hRR
  obtain ⟨kd, hkd⟩ : ∃ kd, r.kind = kd := ⟨_, rfl⟩
  obtain ⟨sq, hsq⟩ : ∃ sq, r.seq = sq := ⟨_, rfl⟩
  obtain ⟨tm, htm⟩ : ∃ tm, r.time = tm := ⟨_, rfl⟩
  rw [hkd, hsq, htm] at key HRV
  have HKEY := Lib.hid key
  have hiz : (i : Int) ≤ n := by omega
  clear key hrv hRR hpp hkd hsq htm
  have HEND := Lib.hid (show ∀ w3, Below w2.heap.size w2 w3 → w3.heap[rb]? = some (.cells #[.int .i64 0, .int .i64 0, .int .i64 0, .string ⟨#[]⟩, .string ⟨#[]⟩, .string ⟨#[]⟩] 33 (0, 0)) from fun w3 hb3 => (hb3.block rb hrbl2).trans HEA2.out)
  rcases hrow.2 with ⟨rfl, h0⟩ | ⟨g, off, cap, cur, rfl, hgg, hle, hcapm, _⟩
  · obtain rfl : i = 0 := by omega
    subst h0
    have HS := Lib.hid (HKEY.out none 0 (by
      have hL : L = [] := List.eq_nil_of_length_eq_zero HNL.out
      rw [hL]; exact ⟨none, 0, rfl, fun h => absurd rfl h⟩))
    clear hrow HKEY
    go_wp2_with fail
    refine HS.out.mono ?_
    rintro e w3 ⟨rfl, hb3⟩
    have hea3 := HEND.out w3 hb3
    obtain ⟨q0, q1, q2, q3, q4, q5⟩ := sixC hea3
    have zf : ∀ j, w3.frozen? ⟨rb, j, none⟩ = false := fun j => frozen_of_row w3 rb j _ _ hea3
    have hrbl3 := heap_lt hea3
    have HF2 := Lib.hid (below6 (HB2.out.trans (hb3.mono HB2.out.size)) (Nat.le_of_eq HRB.out) (.int .i64 kd) (.int .i64 sq) (.int .i64 tm) (.string s) (.string h) (.string d))
    have HR6 := Lib.hid (set6 (.int .i64 kd) (.int .i64 sq) (.int .i64 tm) (.string s) (.string h) (.string d) hea3)
    clear hb3 hea3 HS
    go_wp2_with fail
    refine bodyPost_ret (v := .tuple #[.agg #[.int .i64 kd, .int .i64 sq, .int .i64 tm, .string s, .string h, .string d], .int .i64 er]) (res_rec2 6 7 Tryz.results66 _ _ rb rfl rfl HR6.out) rfl ?_
    exact ⟨0, HLO.out, HHI.out, by rw [HRR.out]; simp only; rw [← HRV.out], HF2.out⟩
  · by_cases hci : cap = i
    · subst hci
      have hni : n = cap := by omega
      subst hni
      have HS := Lib.hid (HKEY.out (some ⟨g, off, none⟩) 0 (HREC.out.tail n (Nat.le_refl _) _ _ (fun h => absurd h (Nat.lt_irrefl _))))
      rw [Nat.sub_self] at HS
      clear hrow HKEY hgg
      go_wp2_with fail
      refine HS.out.mono ?_
      rintro e w3 ⟨rfl, hb3⟩
      have hea3 := HEND.out w3 hb3
      obtain ⟨q0, q1, q2, q3, q4, q5⟩ := sixC hea3
      have zf : ∀ j, w3.frozen? ⟨rb, j, none⟩ = false := fun j => frozen_of_row w3 rb j _ _ hea3
      have hrbl3 := heap_lt hea3
      have HF2 := Lib.hid (below6 (HB2.out.trans (hb3.mono HB2.out.size)) (Nat.le_of_eq HRB.out) (.int .i64 kd) (.int .i64 sq) (.int .i64 tm) (.string s) (.string h) (.string d))
      have HR6 := Lib.hid (set6 (.int .i64 kd) (.int .i64 sq) (.int .i64 tm) (.string s) (.string h) (.string d) hea3)
      clear hb3 hea3 HS
      go_wp2_with fail
      refine bodyPost_ret (v := .tuple #[.agg #[.int .i64 kd, .int .i64 sq, .int .i64 tm, .string s, .string h, .string d], .int .i64 er]) (res_rec2 6 7 Tryz.results66 _ _ rb rfl rfl HR6.out) rfl ?_
      exact ⟨n, HLO.out, HHI.out, by rw [HRR.out]; simp only; rw [← HRV.out], HF2.out⟩
    · have HS := Lib.hid (HKEY.out (some ⟨g, off + i * 6, none⟩) (cap - i) (HREC.out.tail i hile _ _ (fun _ => rfl)))
      have hci2 : (i : Int) ≤ cap := by omega
      clear hrow HKEY hgg
      go_wp2_with fail
      refine HS.out.mono ?_
      rintro e w3 ⟨rfl, hb3⟩
      have hea3 := HEND.out w3 hb3
      obtain ⟨q0, q1, q2, q3, q4, q5⟩ := sixC hea3
      have zf : ∀ j, w3.frozen? ⟨rb, j, none⟩ = false := fun j => frozen_of_row w3 rb j _ _ hea3
      have hrbl3 := heap_lt hea3
      have HF2 := Lib.hid (below6 (HB2.out.trans (hb3.mono HB2.out.size)) (Nat.le_of_eq HRB.out) (.int .i64 kd) (.int .i64 sq) (.int .i64 tm) (.string s) (.string h) (.string d))
      have HR6 := Lib.hid (set6 (.int .i64 kd) (.int .i64 sq) (.int .i64 tm) (.string s) (.string h) (.string d) hea3)
      clear hb3 hea3 HS
      go_wp2_with fail
      refine bodyPost_ret (v := .tuple #[.agg #[.int .i64 kd, .int .i64 sq, .int .i64 tm, .string s, .string h, .string d], .int .i64 er]) (res_rec2 6 7 Tryz.results66 _ _ rb rfl rfl HR6.out) rfl ?_
      exact ⟨i, HLO.out, HHI.out, by rw [HRR.out]; simp only; rw [← HRV.out], HF2.out⟩

theorem next_any (hA : StoreAt W F D B L last w) (hm : ML W) (f : ByteArray) (hf : f.size ≤ 1048576) (q : Int) (hq : 0 ≤ q ∧ q ≤ 4611686018427387904) :
    Calls Tryz.prog 66 #[.pointer (some ⟨D, 0, none⟩), .string f, .int .i64 q] w fun e w' => ∃ i, (∀ r ∈ L.take i, r.seq < q) ∧ (∀ r ∈ L.drop i, q ≤ r.seq) ∧ e = .returned (.tuple #[recV (seekR (Subj.err true f.data.toList) ((L.drop i).find? (tk f.data.toList))).1, .int .i64 ((seekR (Subj.err true f.data.toList) ((L.drop i).find? (tk f.data.toList))).2 : Nat)]) ∧ Below w.heap.size w w' :=
  next_from hA hm f hf q q (by omega) ⟨hq.1, by omega⟩
end
end Go.Proofs.YthhgfdeegnimjaaGreatDoor.Sto

namespace Go.Proofs.YthhgfdeegnimjaaGreatDoor.Sto
open Go.RowKit Heap
open Subj (Tok ML pieces takes)
open Rec (Rc recErr far)
open Idx (Ents ptrV)

/-- The message of a number. -/
def getQ (L : List Rc) (q : Int) : Option Rc := L.find? fun r => r.seq == q

/-- What is told of a number. -/
def GetPost (w : World) (o : Option Rc) (e : Ending) (w' : World) : Prop := e = .returned (.tuple #[recV (seekR 0 o).1, .int .i64 ((seekR 0 o).2 : Nat)]) ∧ Below w.heap.size w w'

theorem getQ_none {L : List Rc} {q : Int} (h : ∀ r ∈ L, r.seq ≠ q) : getQ L q = none := by
  unfold getQ
  rw [List.find?_eq_none]
  intro r hr
  have := h r hr
  simpa using this

theorem getQ_at {L : List Rc} {q : Int} {i : Nat} {p : Rc} (h : ∀ r ∈ L.take i, r.seq ≠ q) (hp : L[i]? = some p) (hq : p.seq = q) : getQ L q = some p := by
  unfold getQ
  exact find_nth (k := i) (fun x hx => by have := h x hx; simpa using this) hp (by simpa using hq)

theorem Found.get {L : List Rc} {i : Nat} {fd : Bool} {q : Int} (h : Found L q i fd) (hr : L.Pairwise fun a b => a.seq < b.seq) (hs : ∀ r ∈ L, 0 ≤ r.seq ∧ r.seq ≤ far) (hq : -9223372036854775808 ≤ q ∧ q ≤ 9223372036854775807) :
    (fd = false → getQ L q = none) ∧ (fd = true → ∃ p, L[i]? = some p ∧ getQ L q = some p) := by
  by_cases hin : 0 ≤ q
  · obtain ⟨h1, h2, h3, h4⟩ := h.in hr hs ⟨by omega, hq.2⟩
    refine ⟨fun hf => getQ_none fun r hm e => ?_, fun hf => ?_⟩
    · rw [hf] at h3
      have : hasSeq L q = true := by unfold hasSeq; rw [List.any_eq_true]; exact ⟨r, hm, by simpa using e⟩
      rw [this] at h3; cases h3
    · obtain ⟨p, hp, hpq⟩ := h4 hf
      exact ⟨p, hp, getQ_at (fun r hr => by have := h1 r hr; omega) hp hpq⟩
  · have hno : ∀ r ∈ L, r.seq ≠ q := fun r hm e => by have := hs r hm; omega
    refine ⟨fun _ => getQ_none hno, fun hf => ?_⟩
    obtain ⟨r, h1, h2⟩ := h.yes hf
    have hm := List.mem_of_getElem? h1
    exact absurd (cmpR_zero (hs r hm) hq h2) (hno r hm)

section
variable {W w : World} {F : Nat → Prop} {D B C : Nat} {L : List Rc} {last : Int} {v : Value} {I : Ents}

set_option maxHeartbeats 4000000 in
set_option maxRecDepth 100000 in
theorem get_any (hA : StoreAt W F D B L last w) (q : Int) (hq : -9223372036854775808 ≤ q ∧ q ≤ 9223372036854775807) :
    Calls Tryz.prog 96 #[.pointer (some ⟨D, 0, none⟩), .int .i64 q] w (GetPost w (getQ L q)) := by
  obtain ⟨w1, hw1⟩ : ∃ w1, w1 = w.alloc (.cells #[.int .i64 0, .int .i64 0, .int .i64 0, .string ⟨#[]⟩, .string ⟨#[]⟩, .string ⟨#[]⟩] 33) := ⟨_, rfl⟩
  have hb1 : Below w.heap.size w w1 := by rw [hw1]; exact (Below.refl _ _).alloc (Nat.le_refl _) _
  have hea : w1.heap[w.heap.size]? = some (.cells #[.int .i64 0, .int .i64 0, .int .i64 0, .string ⟨#[]⟩, .string ⟨#[]⟩, .string ⟨#[]⟩] 33 (0, 0)) := by rw [hw1]; exact heap_alloc_new w _
  obtain ⟨rb, hrb⟩ : ∃ rb, w.heap.size = rb := ⟨_, rfl⟩
  rw [hrb] at hea
  have hA1 := hA.next hb1
  obtain ⟨M, x, N, I, v', hS, hR, _, _⟩ := hA1.ex
  have hpl := place_rec hS (by have := hR.few; omega) q
  obtain ⟨o, ho⟩ : ∃ o, getQ L q = o := ⟨_, rfl⟩
  have HA1 := Lib.hid hA1; have HPL := Lib.hid hpl; have HB1 := Lib.hid hb1; have HEA := Lib.hid hea; have HRB := Lib.hid hrb; have HR := Lib.hid hR; have HO := Lib.hid ho
  rw [ho]
  unfold GetPost
  have hrbl := heap_lt hea
  clear hA hb1 hea hrb hA1 hS hR hpl ho
  go_enter Tryz.func96, Tryz.ntmps96
  go_upto_region 1 with fail
  rw [← hw1, HRB.out]
  clear hw1
  go_wp2_with fail
  refine HPL.out.mono ?_
  rintro e w2 ⟨i, fd, rfl, hfo, hb2⟩
  obtain ⟨hno, hyes⟩ := hfo.get HR.out.rise HR.out.seqs hq
  rw [HO.out] at hno hyes
  have HNO := Lib.hid hno; have HYES := Lib.hid hyes
  have HA2 := Lib.hid (HA1.out.next hb2)
  have hea2 := (hb2.block rb hrbl).trans HEA.out
  have HB2 := Lib.hid (HB1.out.trans (hb2.mono HB1.out.size))
  obtain ⟨q0, q1, q2, q3, q4, q5⟩ := sixC hea2
  have zf : ∀ j, w2.frozen? ⟨rb, j, none⟩ = false := fun j => frozen_of_row w2 rb j _ _ hea2
  have hrbl2 := heap_lt hea2
  have HEA2 := Lib.hid hea2
  clear hb2 hfo hno hyes hea2 HPL hrbl
  cases fd with
  | false =>
    obtain rfl : o = none := HNO.out rfl
    have HF2 := Lib.hid (below6 HB2.out (Nat.le_of_eq HRB.out) (.int .i64 0) (.int .i64 0) (.int .i64 0) (.string ⟨#[]⟩) (.string ⟨#[]⟩) (.string ⟨#[]⟩))
    have HR6 := Lib.hid (set6 (.int .i64 0) (.int .i64 0) (.int .i64 0) (.string ⟨#[]⟩) (.string ⟨#[]⟩) (.string ⟨#[]⟩) HEA2.out)
    go_wp2_with fail
    refine bodyPost_ret (v := .tuple #[.agg #[.int .i64 0, .int .i64 0, .int .i64 0, .string ⟨#[]⟩, .string ⟨#[]⟩, .string ⟨#[]⟩], .int .i64 4]) (res_rec2 4 5 Tryz.results96 _ _ rb rfl rfl HR6.out) rfl ?_
    exact ⟨rfl, HF2.out⟩
  | true =>
    obtain ⟨p, hp, ho⟩ := HYES.out rfl
    subst ho
    obtain ⟨vv, c0, hlt, hrec, hfew, hz, hrow⟩ := HA2.out.list
    obtain ⟨n, hnL⟩ : ∃ n, L.length = n := ⟨_, rfl⟩
    rw [hnL] at hfew hrow
    have hin : i < n := by rw [← hnL]; exact (List.getElem?_eq_some_iff.1 hp).1
    have hiz : (i : Int) < n := by omega
    rcases hrow.2 with ⟨_, h0⟩ | ⟨g, off, cap, cur, rfl, hgg, _⟩
    · omega
    obtain ⟨m0, m1, m2, m3, m4, m5⟩ := cells_rec hrow i p hp hin
    obtain ⟨s, h, d, hpp⟩ := parts p
    rw [hpp.s1] at m3
    rw [hpp.h1] at m4
    rw [hpp.d1] at m5
    have hrv : recV p = .agg #[.int .i64 p.kind, .int .i64 p.seq, .int .i64 p.time, .string s, .string h, .string d] := by unfold recV; rw [hpp.s1, hpp.h1, hpp.d1]
    have HRV := Lib.hid hrv
    have HF2 := Lib.hid (below6 HB2.out (Nat.le_of_eq HRB.out) (.int .i64 p.kind) (.int .i64 p.seq) (.int .i64 p.time) (.string s) (.string h) (.string d))
    have HR6 := Lib.hid (set6 (.int .i64 p.kind) (.int .i64 p.seq) (.int .i64 p.time) (.string s) (.string h) (.string d) HEA2.out)
    clear hp hz hrec hrow hgg hpp hrv hnL HNO HYES
    go_wp2_with fail
    refine bodyPost_ret (v := .tuple #[.agg #[.int .i64 p.kind, .int .i64 p.seq, .int .i64 p.time, .string s, .string h, .string d], .int .i64 0]) (res_rec2 4 5 Tryz.results96 _ _ rb rfl rfl HR6.out) rfl ?_
    exact ⟨by rw [show seekR 0 (some p) = (p, 0) from rfl, HRV.out]; rfl, HF2.out⟩

set_option maxHeartbeats 4000000 in
set_option maxRecDepth 100000 in
theorem get_ch (h : ChAt W C v L last w) (hR : Right L last I) (q : Int) :
    Calls Tryz.prog 69 #[.pointer (some ⟨C, 0, none⟩), .int .i64 q] w (GetPost w (getQ L q)) := by
  obtain ⟨n, hn⟩ : ∃ n, L.length = n := ⟨_, rfl⟩
  have hn200 : n ≤ 200 := by rw [← hn]; exact hR.few
  obtain ⟨va, vc, hv⟩ := h.row.slice
  rw [hn] at hv
  subst hv
  obtain ⟨w1, hw1⟩ : ∃ w1, w1 = w.alloc (.cells #[.int .i64 0, .int .i64 0, .int .i64 0, .string ⟨#[]⟩, .string ⟨#[]⟩, .string ⟨#[]⟩] 33) := ⟨_, rfl⟩
  have hb1 : Below w.heap.size w w1 := by rw [hw1]; exact (Below.refl _ _).alloc (Nat.le_refl _) _
  have hea : w1.heap[w.heap.size]? = some (.cells #[.int .i64 0, .int .i64 0, .int .i64 0, .string ⟨#[]⟩, .string ⟨#[]⟩, .string ⟨#[]⟩] 33 (0, 0)) := by rw [hw1]; exact heap_alloc_new w _
  obtain ⟨rb, hrb⟩ : ∃ rb, w.heap.size = rb := ⟨_, rfl⟩
  rw [hrb] at hea
  have h1 := h.next hb1
  obtain ⟨c0, c1, cf⟩ := twoC h1.cell
  have hlt := heap_lt h1.cell
  obtain ⟨q0, q1, q2, q3, q4, q5⟩ := sixC hea
  have zf : ∀ j, w1.frozen? ⟨rb, j, none⟩ = false := fun j => frozen_of_row w1 rb j _ _ hea
  have hrbl := heap_lt hea
  obtain ⟨o, ho⟩ : ∃ o, getQ L q = o := ⟨_, rfl⟩
  have HC := Lib.hid h1; have HB1 := Lib.hid hb1; have HEA := Lib.hid hea; have HRB := Lib.hid hrb; have HO := Lib.hid ho; have HN := Lib.hid hn; have HR := Lib.hid hR
  rw [ho]
  unfold GetPost
  clear h hb1 hea hrb h1 ho hn hR
  go_enter Tryz.func69, Tryz.ntmps69
  go_upto_region 1 with fail
  rw [← hw1, HRB.out]
  clear hw1
  go_wp2_with fail
  go_loopw [6] (fun i wr => ∃ k : Nat, k ≤ n ∧ i = .int .i64 k ∧ wr = w1 ∧ Hid (∀ r ∈ L.take k, r.seq ≠ q)) (fun i _ => n - (intOf i).toNat)
  case atStart => exact ⟨0, Nat.zero_le _, rfl, rfl, Lib.hid fun r hr => by simp at hr⟩
  case round =>
    obtain ⟨k, hk, rfl, rfl, HNO⟩ := hrel
    by_cases hlt2 : k < n
    · have hltz : (k : Int) < n := by omega
      obtain ⟨p, hp⟩ : ∃ p, L[k]? = some p := ⟨_, List.getElem?_eq_getElem (by rw [HN.out]; exact hlt2)⟩
      have hrow := HC.out.row
      rw [HN.out] at hrow
      rcases hrow.2 with ⟨_, h0⟩ | ⟨g, off, cap, cur, ev, hgg, _⟩
      · omega
      simp only [Value.slice.injEq, true_and] at ev
      obtain ⟨rfl, rfl⟩ := ev
      obtain ⟨m0, m1, m2, m3, m4, m5⟩ := cells_rec hrow k p hp hlt2
      obtain ⟨s, h, d, hpp⟩ := parts p
      rw [hpp.s1] at m3
      rw [hpp.h1] at m4
      rw [hpp.d1] at m5
      by_cases hpq : p.seq = q
      · have hog := getQ_at HNO.out hp hpq
        rw [HO.out] at hog
        subst hog
        have hrv : recV p = .agg #[.int .i64 p.kind, .int .i64 p.seq, .int .i64 p.time, .string s, .string h, .string d] := by unfold recV; rw [hpp.s1, hpp.h1, hpp.d1]
        have HRV := Lib.hid hrv
        subst hpq
        have HF2 := Lib.hid (below6 HB1.out (Nat.le_of_eq HRB.out) (.int .i64 p.kind) (.int .i64 p.seq) (.int .i64 p.time) (.string s) (.string h) (.string d))
        have HR6 := Lib.hid (set6 (.int .i64 p.kind) (.int .i64 p.seq) (.int .i64 p.time) (.string s) (.string h) (.string d) HEA.out)
        clear hp hrow hgg hpp hrv
        go_wp2_with fail
        refine bodyPost_ret (v := .tuple #[.agg #[.int .i64 p.kind, .int .i64 p.seq, .int .i64 p.time, .string s, .string h, .string d], .int .i64 0]) (res_rec2 4 5 Tryz.results69 _ _ rb rfl rfl HR6.out) rfl ?_
        exact ⟨by rw [show seekR 0 (some p) = (p, 0) from rfl, HRV.out]; rfl, HF2.out⟩
      · have HNO2 := Lib.hid (show ∀ r ∈ L.take (k + 1), r.seq ≠ q from fun r hr => by
          rw [take_snoc hp, List.mem_append] at hr
          rcases hr with hr | hr
          · exact HNO.out r hr
          · rw [List.mem_singleton] at hr; rw [hr]; exact hpq)
        clear hp hrow hgg hpp
        go_wp2_with fail
        exact ⟨⟨k + 1, by omega, by go_num, trivial, HNO2⟩, by simp [intOf]; omega⟩
    · have hltz : ¬ (k : Int) < n := by omega
      obtain rfl : k = n := by omega
      have hog := getQ_none (q := q) (L := L) (by have := HNO.out; rwa [List.take_of_length_le (by rw [HN.out]; exact Nat.le_refl _)] at this)
      rw [HO.out] at hog
      subst hog
      have HF2 := Lib.hid (below6 HB1.out (Nat.le_of_eq HRB.out) (.int .i64 0) (.int .i64 0) (.int .i64 0) (.string ⟨#[]⟩) (.string ⟨#[]⟩) (.string ⟨#[]⟩))
      have HR6 := Lib.hid (set6 (.int .i64 0) (.int .i64 0) (.int .i64 0) (.string ⟨#[]⟩) (.string ⟨#[]⟩) (.string ⟨#[]⟩) HEA.out)
      go_wp2_with fail
      refine bodyPost_ret (v := .tuple #[.agg #[.int .i64 0, .int .i64 0, .int .i64 0, .string ⟨#[]⟩, .string ⟨#[]⟩, .string ⟨#[]⟩], .int .i64 4]) (res_rec2 4 5 Tryz.results69 _ _ rb rfl rfl HR6.out) rfl ?_
      exact ⟨rfl, HF2.out⟩
end
end Go.Proofs.YthhgfdeegnimjaaGreatDoor.Sto

namespace Go.Proofs.YthhgfdeegnimjaaGreatDoor.Sto
open Go.RowKit Heap
open Subj (Tok ML pieces takes StrsAt)
open Rec (Rc recErr far)
open Idx (Ents ptrV)

/-- What has been gathered so far. -/
def OutR (w wr : World) (o : Value) (K : List Rc) : Prop := Row wr 33 6 o K.length (recsV K) ∧ ∀ k, own o k → w.heap.size ≤ k

theorem OutR.next {w wr w' : World} {o : Value} {K : List Rc} (h : OutR w wr o K) (hb : Below wr.heap.size wr w') : OutR w w' o K := ⟨h.1.kept fun k _ hk => hb.block k hk, h.2⟩

section
variable {w : World}
end
end Go.Proofs.YthhgfdeegnimjaaGreatDoor.Sto
