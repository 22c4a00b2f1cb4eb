/- Parts of the proof, joined: A store that is filled.; store.seek, Next, Last, walked.; (*Store).Next, Last, walked.; Get, of the store and of the reference's chest, walked.; A consumer in plain Lean: what it does of a list of messages. No program here. -/
import Derived.Test.YtapmhpnkpjgefaaDoorConsumerRulesUptoM17
import Derived.Test.YtapmhpnkpjgefaaDoorConsumerRulesUptoM22
import Derived.Test.YtapmhpnkpjgefaaDoorConsumerRulesUptoM25
namespace Go.Proofs.YtapmhpnkpjgefaaDoor.Sto
open Go.RowKit Heap
open Subj (Tok ML pieces takes StrsAt)
open Rec (Rc recErr far)
open Idx (Ents ptrV new_any)
open Shf (XAt NextX SortedE putL x_new)

/-- What a list of records leaves. -/
def runS (l : List Rc) : List Rc × Int := l.foldl (fun s r => after s.1 s.2 r) ([], 0)

theorem runS_step {l : List Rc} {k : Nat} {r : Rc} (h : l[k]? = some r) : runS (l.take (k + 1)) = after (runS (l.take k)).1 (runS (l.take k)).2 r := by
  unfold runS
  rw [List.take_add_one, h, List.foldl_append]
  rfl

section
variable {W w : World}

theorem new_store (hb : Below W.heap.size W w) : Calls Tryd.prog 14 #[] w fun e w' => e = .returned (.pointer (some ⟨w.heap.size + 1, 0, none⟩)) ∧ StoreAt W (fun k => w.heap.size ≤ k ∧ k < w.heap.size + 2) (w.heap.size + 1) 0 [] 0 w' ∧ Below w.heap.size w w' := by
  have HN := Lib.hid (new_any w)
  obtain ⟨w1, hw1⟩ : ∃ w1, w1 = w.alloc (.cells #[.string ⟨#[]⟩, .slice none 0 0, .bool false, .int .i64 0, .int .i64 0] 117) := ⟨_, rfl⟩
  have hX := x_new hb
  rw [← hw1] at hX HN
  have hsz : w1.heap.size = w.heap.size + 1 := by rw [hw1]; simp
  have hb1 : Below w.heap.size w w1 := by rw [hw1]; exact (Below.refl _ _).alloc (Nat.le_refl _) _
  have hP := Lib.hid (show StoreAt W (fun k => w.heap.size ≤ k ∧ k < w.heap.size + 2) (w.heap.size + 1) 0 [] 0 (w1.alloc (.cells #[.slice none 0 0, ptrV w.heap.size, .int .i64 0, .int .i64 0] 85)) ∧ Below w.heap.size w (w1.alloc (.cells #[.slice none 0 0, ptrV w.heap.size, .int .i64 0, .int .i64 0] 85)) from by
    have hb2 : Below w1.heap.size w1 (w1.alloc (.cells #[.slice none 0 0, ptrV w.heap.size, .int .i64 0, .int .i64 0] 85)) := (Below.refl _ _).alloc (Nat.le_refl _) _
    have hW := hb.size
    refine ⟨⟨⟨_, w.heap.size, 0, [], .slice none 0 0, ⟨hX.next hb2, by rw [← hsz]; exact heap_alloc_new w1 _, Row.nil _ _ _, by omega, by omega, fun k hk => by simp [own, Value.ownBlock] at hk⟩, ⟨List.Pairwise.nil, (fun _ h => by cases h), (fun _ h => by cases h), by simp, ⟨by omega, by unfold far; omega⟩, List.Pairwise.nil, fun s n => ⟨fun h => (by cases h), fun h => absurd rfl h.2⟩⟩, Nat.le_refl _, fun k hk => ?_⟩, ⟨by omega, by omega⟩, fun k hk => by omega, fun k hk => ?_⟩, hb1.trans (hb2.mono hb1.size)⟩
    · rcases hk with rfl | hk
      · exact ⟨Nat.le_refl _, by omega⟩
      · simp [own, Value.ownBlock] at hk
    · have : (w1.alloc (.cells #[.slice none 0 0, ptrV w.heap.size, .int .i64 0, .int .i64 0] 85)).heap.size = w1.heap.size + 1 := by simp
      omega)
  have HSZ := Lib.hid hsz
  clear hX hw1 hsz hb1
  go_enter Tryd.func14, Tryd.ntmps14
  go_wp2_with fail
  refine HN.out.mono ?_
  rintro e w' ⟨rfl, rfl⟩
  have hs := HSZ.out
  go_wp2
  go_ret
  exact ⟨by simp, hP.out⟩

/-- A store of one's own, filled. -/
def FilledAt (W w : World) (l : List Rc) (e : Ending) (w' : World) : Prop :=
  ∃ D F, e = .returned (.pointer (some ⟨D, 0, none⟩)) ∧ StoreAt W F D (16 * l.length) (runS l).1 (runS l).2 w' ∧ (∀ k, F k → w.heap.size ≤ k) ∧ Below w.heap.size w w'

set_option maxHeartbeats 2000000 in
set_option maxRecDepth 100000 in
theorem filled_any (hb : Below W.heap.size W w) (hm : ML W) {v : Value} {l : List Rc} (hl : RecsAt w v l) (hn : l.length ≤ 1000) (hf : ∀ r ∈ l, Fits r) :
    Calls Tryd.prog 5 #[v] w (FilledAt W w l) := by
  obtain ⟨n, hnL⟩ : ∃ n, l.length = n := ⟨_, rfl⟩
  have HN := Lib.hid hnL
  obtain ⟨ao, cap, rfl, ha⟩ := hl
  rw [hnL] at hn ⊢
  have HNEW := Lib.hid (new_store hb)
  obtain ⟨D, hD⟩ : ∃ D, w.heap.size + 1 = D := ⟨_, rfl⟩
  rw [hD] at HNEW
  have HL := Lib.hid (show RecsAt w (.slice ao l.length cap) l from ⟨ao, cap, rfl, ha⟩); have HF := Lib.hid hf; have HML := Lib.hid hm
  clear ha hf hm hD hnL
  go_enter Tryd.func5, Tryd.ntmps5
  go_wp2_with fail
  refine HNEW.out.mono ?_
  rintro e w1 ⟨rfl, hs1, hb1⟩
  have h0 := Lib.hid (show ∃ F, StoreAt W F D (16 * 0) (runS (l.take 0)).1 (runS (l.take 0)).2 w1 ∧ (∀ k, F k → w.heap.size ≤ k) ∧ Below w.heap.size w w1 from ⟨_, hs1, fun k hk => hk.1, hb1⟩)
  clear hs1 hb1 HNEW
  go_wp2_with fail
  go_loopw [9] (fun i wr => ∃ k : Nat, k ≤ n ∧ i = .int .i64 k ∧ Hid (∃ F, StoreAt W F D (16 * k) (runS (l.take k)).1 (runS (l.take k)).2 wr ∧ (∀ k, F k → w.heap.size ≤ k) ∧ Below w.heap.size w wr)) (fun i _ => n - (intOf i).toNat)
  case atStart => exact ⟨0, Nat.zero_le _, rfl, h0⟩
  case round =>
    obtain ⟨k, hk, rfl, HR⟩ := hrel
    clear h0
    obtain ⟨F, hS, hFn, hbw⟩ := HR.out
    by_cases hlt : k < n
    · have hltz : (k : Int) < n := by omega
      obtain ⟨p, hp⟩ : ∃ p, l[k]? = some p := ⟨_, List.getElem?_eq_getElem (by rw [HN.out]; exact hlt)⟩
      have hlr := HL.out.below hbw (Nat.le_refl _)
      obtain ⟨ao', cap', hv, ha⟩ := hlr
      simp only [Value.slice.injEq, true_and] at hv
      obtain ⟨rfl, rfl⟩ := hv
      obtain ⟨g, off, rfl, hcs⟩ := ha (fun e => by rw [e] at hp; simp at hp)
      obtain ⟨m0, m1, m2, m3, m4, m5⟩ := hcs k p hp
      have hfp := HF.out p (List.mem_of_getElem? hp)
      have hrv : recV p = .agg #[.int .i64 p.kind, .int .i64 p.seq, .int .i64 p.time, .string ⟨p.subj.toArray⟩, .string ⟨p.head.toArray⟩, .string ⟨p.data.toArray⟩] := rfl
      obtain ⟨s, h, d, hpp⟩ := parts p
      rw [hpp.s1, hpp.h1, hpp.d1] at hrv
      rw [hpp.s1] at m3
      rw [hpp.h1] at m4
      rw [hpp.d1] at m5
      obtain ⟨wa, hwa⟩ : ∃ wa, wa = wr.alloc (.cells #[.int .i64 p.kind, .int .i64 p.seq, .int .i64 p.time, .string s, .string h, .string d] 42) := ⟨_, rfl⟩
      have hba : Below wr.heap.size wr wa := by rw [hwa]; exact (Below.refl _ _).alloc (Nat.le_refl _) _
      have hea : wa.heap[wr.heap.size]? = some (.cells #[.int .i64 p.kind, .int .i64 p.seq, .int .i64 p.time, .string s, .string h, .string d] 42 (0, 0)) := by rw [hwa]; exact heap_alloc_new wr _
      obtain ⟨bx, hbx⟩ : ∃ bx, wr.heap.size = bx := ⟨_, rfl⟩
      rw [hbx] at hea
      have hAP := apply_any (hS.next hba) (by omega) HML.out p hfp
      rw [hrv] at hAP
      have HSA := Lib.hid (hS.next hba)
      obtain ⟨q0, q1, q2, q3, q4, q5⟩ := sixC hea
      have hbxl := heap_lt hea
      have HAP := Lib.hid hAP; have HBX := Lib.hid hbx; have HBW := Lib.hid (hbw.trans (hba.mono hbw.size)); have HFN := Lib.hid hFn; have HP := Lib.hid hp
      clear hp ha hcs hfp hrv hpp hea hbx hAP hS hFn hbw hba HR
      go_upto_region 5 with fail
      rw [← hwa, HBX.out]
      clear hwa m0 m1 m2 m3 m4 m5
      go_wp2_with fail
      refine HAP.out.mono ?_
      rintro e w4 ⟨rfl, ⟨F', hS4, hF4⟩, ht4⟩
      have HNX := Lib.hid (show ∃ F, StoreAt W F D (16 * (k + 1)) (runS (l.take (k + 1))).1 (runS (l.take (k + 1))).2 w4 ∧ (∀ k, F k → w.heap.size ≤ k) ∧ Below w.heap.size w w4 from by
        refine ⟨F', ?_, fun j hj => ?_, HBW.out.trans (ht4.below HBW.out.size HFN.out)⟩
        · rw [runS_step HP.out]
          exact hS4.mono (by omega)
        · rcases hF4 j hj with e | e
          · exact HFN.out j e
          · exact Nat.le_trans HBW.out.size e)
      clear hS4 hF4 ht4 HAP q0 q1 q2 q3 q4 q5
      go_wp2_with fail
      exact ⟨⟨k + 1, by omega, by go_num, HNX⟩, by simp [intOf]; omega⟩
    · have hltz : ¬ (k : Int) < n := by omega
      obtain rfl : k = n := by omega
      have HFI := Lib.hid (show FilledAt W w l (.returned (.pointer (some ⟨D, 0, none⟩))) wr from by
        rw [List.take_of_length_le (by rw [HN.out]; exact Nat.le_refl _)] at hS
        exact ⟨D, F, rfl, by rw [HN.out]; exact hS, hFn, hbw⟩)
      clear hS hFn hbw HR
      go_wp2_with fail
      go_ret
      exact HFI.out
end
end Go.Proofs.YtapmhpnkpjgefaaDoor.Sto

namespace Go.Proofs.YtapmhpnkpjgefaaDoor.Sto
open Go.RowKit Heap
open Subj (Tok ML pieces takes StrsAt)
open Rec (Rc recErr far)
open Idx (Ents ptrV split_dot strsAt_lt)

def tk (f : List UInt8) (x : Rc) : Bool := takes (pieces f) (pieces x.subj)

/-- What is told of a search. -/
def seekR (er : Nat) (o : Option Rc) : Rc × Nat := if er ≠ 0 then (Rc.zero, er) else match o with
  | some r => (r, 0)
  | none => (Rc.zero, 4)

theorem res_rec2 {fn : Func} (c t : Nat) (hf : fn.results = #[.cell c 42, .tmp t]) (tmps : Array Value) (w : World) (R : Nat) {a0 a1 a2 a3 a4 a5 k : Value}
    (h2 : tmps.getD c undef = .pointer (some ⟨R, 0, none⟩)) (h3 : tmps.getD t undef = k) (hR : w.heap[R]? = some (.cells #[a0, a1, a2, a3, a4, a5] 42 (0, 0))) :
    (results fn tmps).run Tryd.prog w = .ok (.tuple #[.agg #[a0, a1, a2, a3, a4, a5], k]) w := by
  obtain ⟨z0, z1, z2, z3, z4, z5⟩ := sixC hR
  simp only [Array.getD_eq_getD_getElem?] at h2 h3
  simp [results, hf, go_sem, h2, h3, z0, z1, z2, z3, z4, z5]

theorem below6 {n : Nat} {w0 w : World} (h : Below n w0 w) {R : Nat} (hR : n ≤ R) (a0 a1 a2 a3 a4 a5 : Value) : Below n w0 ((((((w.setCell ⟨R, 0, none⟩ a0).setCell ⟨R, 1, none⟩ a1).setCell ⟨R, 2, none⟩ a2).setCell ⟨R, 3, none⟩ a3).setCell ⟨R, 4, none⟩ a4).setCell ⟨R, 5, none⟩ a5) :=
  (((((h.setCell hR a0).setCell hR a1).setCell hR a2).setCell hR a3).setCell hR a4).setCell hR a5

/-- The k-th in the order of the search. -/
def nth (back : Bool) (l : List Rc) (k : Nat) : Option Rc := if back then l[l.length - 1 - k]? else l[k]?

def order (back : Bool) (l : List Rc) : List Rc := if back then l.reverse else l

theorem nth_order (back : Bool) (l : List Rc) (k : Nat) (hk : k < l.length) : nth back l k = (order back l)[k]? := by
  unfold nth order
  cases back with
  | false => rfl
  | true => simp [List.getElem?_reverse hk]

theorem find_nth {F : Rc → Bool} : ∀ {O : List Rc} {k : Nat} {p : Rc}, (∀ x ∈ O.take k, F x = false) → O[k]? = some p → F p = true → O.find? F = some p
  | [], _, _, _, h, _ => by simp at h
  | a :: O, 0, p, _, h, hp => by
    simp at h; subst h
    simp [List.find?, hp]
  | a :: O, k + 1, p, hn, h, hp => by
    have ha := hn a (by simp)
    have ih := find_nth (O := O) (k := k) (p := p) (fun x hx => hn x (by simp [hx])) (by simpa using h) hp
    simp [List.find?, ha, ih]

theorem order_len (back : Bool) (l : List Rc) : (order back l).length = l.length := by unfold order; cases back <;> simp
theorem order_mem {back : Bool} {l : List Rc} {r : Rc} (h : r ∈ order back l) : r ∈ l := by unfold order at h; cases back <;> simpa using h

section
variable {W w : World}

set_option maxHeartbeats 8000000 in
set_option maxRecDepth 100000 in
theorem seek_any (hb : Below W.heap.size W w) (hm : ML W) (f : ByteArray) (hf : f.size ≤ 1048576) {v : Value} {l : List Rc} (hl : RecsAt w v l) (hn : l.length ≤ 1000) (hz : ∀ r ∈ l, r.subj.length ≤ 1048576) (back : Bool) :
    Calls Tryd.prog 40 #[.string f, v, .bool back] w fun e w' => e = .returned (.tuple #[recV (seekR (Subj.err true f.data.toList) ((order back l).find? (tk f.data.toList))).1, .int .i64 ((seekR (Subj.err true f.data.toList) ((order back l).find? (tk f.data.toList))).2 : Nat)]) ∧ Below w.heap.size w w' := by
  obtain ⟨R, hR⟩ : ∃ R, seekR (Subj.err true f.data.toList) ((order back l).find? (tk f.data.toList)) = R := ⟨_, rfl⟩
  rw [hR]
  have HR := Lib.hid hR
  obtain ⟨n, hnL⟩ : ∃ n, l.length = n := ⟨_, rfl⟩
  have HN := Lib.hid hnL
  obtain ⟨w1, hw1⟩ : ∃ w1, w1 = w.alloc (.cells #[.int .i64 0, .int .i64 0, .int .i64 0, .string ⟨#[]⟩, .string ⟨#[]⟩, .string ⟨#[]⟩] 42) := ⟨_, rfl⟩
  have hb1 : Below w.heap.size w w1 := by rw [hw1]; exact (Below.refl _ _).alloc (Nat.le_refl _) _
  have hea : w1.heap[w.heap.size]? = some (.cells #[.int .i64 0, .int .i64 0, .int .i64 0, .string ⟨#[]⟩, .string ⟨#[]⟩, .string ⟨#[]⟩] 42 (0, 0)) := by rw [hw1]; exact heap_alloc_new w _
  obtain ⟨rb, hrb⟩ : ∃ rb, w.heap.size = rb := ⟨_, rfl⟩
  rw [hrb] at hea
  have HFI := Lib.hid (Subj.filter_any f w1 hf (hm.below (hb.trans (hb1.mono hb.size))))
  have HSP := Lib.hid (fun w1 hm1 => split_dot f w1 hf hm1)
  have hpl := Subj.pieces_size f hf
  have hne := Subj.pieces_ne f.data.toList
  obtain ⟨er, her⟩ : ∃ er, Subj.err true f.data.toList = er := ⟨_, rfl⟩
  rw [her] at HFI HR
  obtain ⟨F, hF⟩ : ∃ F, tk f.data.toList = F := ⟨_, rfl⟩
  rw [hF] at HR
  have HFF := Lib.hid hF
  obtain ⟨fl, hfl⟩ : ∃ fl, pieces f.data.toList = fl := ⟨_, rfl⟩
  rw [hfl] at HSP hpl hne
  have HFL := Lib.hid hfl
  have HL := Lib.hid hl; have HML := Lib.hid hm; have HZ := Lib.hid hz; have HB1 := Lib.hid hb1; have HEA := Lib.hid hea; have HRB := Lib.hid hrb; have HB := Lib.hid hb; have HNE := Lib.hid hne
  have HLv : ∃ ao cap, v = .slice ao n cap := by
    obtain ⟨ao, cap, h1, _⟩ := hl
    exact ⟨ao, cap, by rw [h1, hnL]⟩
  obtain ⟨ao, cap, rfl⟩ := HLv
  rw [hnL] at hn
  have hrbl := heap_lt hea
  clear hl hz hm hb hb1 hea hR hrb hnL hF hfl her hne
  go_enter Tryd.func40, Tryd.ntmps40
  go_upto_region 1 with fail
  rw [← hw1, HRB.out]
  clear hw1
  go_wp2_with fail
  refine HFI.out.mono ?_
  rintro e w2 ⟨rfl, hb2⟩
  have HB2 := Lib.hid (HB1.out.trans (hb2.mono HB1.out.size))
  have hea2 := (hb2.block rb hrbl).trans HEA.out
  have HEA2 := Lib.hid hea2
  obtain ⟨q0, q1, q2, q3, q4, q5⟩ := sixC hea2
  have hrbl2 := heap_lt hea2
  have zf : ∀ j, w2.frozen? ⟨rb, j, none⟩ = false := fun j => frozen_of_row w2 rb j _ _ hea2
  clear hb2 hea2 HFI HEA hrbl
  by_cases he : er = 0
  · subst he
    have HSP2 := Lib.hid (HSP.out w2 (HML.out.below (HB.out.trans (HB2.out.mono HB.out.size))))
    obtain ⟨gf, hgf⟩ : ∃ gf, w2.heap.size = gf := ⟨_, rfl⟩
    rw [hgf] at HSP2
    have HGF := Lib.hid hgf
    clear hgf HSP q0 q1 q2 q3 q4 q5 zf
    go_wp2_with fail
    refine HSP2.out.mono ?_
    rintro e w3 ⟨rfl, hst3, hb3⟩
    rw [← HGF.out] at hb3
    have HST3 := Lib.hid hst3
    have HB3 := Lib.hid (HB2.out.trans (hb3.mono HB2.out.size))
    have hea3 := (hb3.block rb hrbl2).trans HEA2.out
    have HEA3 := Lib.hid hea3
    clear hst3 hb3 hea3 HSP2 HEA2 hrbl2
    go_wp2_with fail
    go_loopw [22] (fun i wr => ∃ k : Nat, k ≤ n ∧ i = .int .i64 k ∧ Hid (∀ x ∈ (order back l).take k, F x = false) ∧ Hid (Below w3.heap.size w3 wr)) (fun i _ => n - (intOf i).toNat)
    case atStart => exact ⟨0, Nat.zero_le _, rfl, Lib.hid (fun x h => by simp at h), Lib.hid (Below.refl _ _)⟩
    case round =>
      obtain ⟨k, hk, rfl, HNO, HW⟩ := hrel
      have hear := (HW.out.block rb (heap_lt HEA3.out)).trans HEA3.out
      have HEAR := Lib.hid hear
      have HBr := Lib.hid (HB3.out.trans (HW.out.mono HB3.out.size))
      by_cases hlt : k < n
      · have hltz : (k : Int) < n := by omega
        obtain ⟨pk, hpk⟩ : ∃ p, l[k]? = some p := ⟨_, List.getElem?_eq_getElem (by rw [HN.out]; exact hlt)⟩
        obtain ⟨a', c', hv, ha⟩ := (HL.out.below HBr.out (Nat.le_refl _))
        simp only [Value.slice.injEq] at hv
        obtain ⟨rfl, hv0, rfl⟩ := hv
        clear hv0
        obtain ⟨g, off, rfl, hcs⟩ := ha (fun e => by rw [e] at hpk; simp at hpk)
        obtain ⟨m0, m1, m2, m3, m4, m5⟩ := hcs k pk hpk
        obtain ⟨s0, h0, d0, hpp0⟩ := parts pk
        rw [hpp0.s1] at m3
        rw [hpp0.h1] at m4
        rw [hpp0.d1] at m5
        cases back with
        | false =>
          have hO : (order false l)[k]? = some pk := hpk
          obtain ⟨pp, hpe⟩ : ∃ pp, pk = pp := ⟨_, rfl⟩
          rw [hpe] at hO hpp0 m0 m1 m2
          obtain ⟨s, hs⟩ : ∃ s, s0 = s := ⟨_, rfl⟩
          obtain ⟨h, hh⟩ : ∃ h, h0 = h := ⟨_, rfl⟩
          obtain ⟨d, hd⟩ : ∃ d, d0 = d := ⟨_, rfl⟩
          rw [hs, hh, hd] at hpp0
          rw [hs] at m3
          rw [hh] at m4
          rw [hd] at m5
          have hpp := hpp0
          clear hpp0 hs hh hd hpe hpk
          have hrv : recV pp = .agg #[.int .i64 pp.kind, .int .i64 pp.seq, .int .i64 pp.time, .string s, .string h, .string d] := by unfold recV; rw [hpp.s1, hpp.h1, hpp.d1]
          obtain ⟨kd, hkd⟩ : ∃ kd, pp.kind = kd := ⟨_, rfl⟩
          obtain ⟨sq, hsq⟩ : ∃ sq, pp.seq = sq := ⟨_, rfl⟩
          obtain ⟨tm, htm⟩ : ∃ tm, pp.time = tm := ⟨_, rfl⟩
          rw [hkd, hsq, htm] at hrv
          rw [hkd] at m0
          rw [hsq] at m1
          rw [htm] at m2
          have HRV := Lib.hid hrv
          obtain ⟨wb, hwb⟩ : ∃ wb, wb = wr.alloc (.cells #[.int .i64 kd, .int .i64 sq, .int .i64 tm, .string s, .string h, .string d] 42) := ⟨_, rfl⟩
          have hba : Below wr.heap.size wr wb := by rw [hwb]; exact (Below.refl _ _).alloc (Nat.le_refl _) _
          have heb : wb.heap[wr.heap.size]? = some (.cells #[.int .i64 kd, .int .i64 sq, .int .i64 tm, .string s, .string h, .string d] 42 (0, 0)) := by rw [hwb]; exact heap_alloc_new wr _
          have hrl := heap_lt hear
          obtain ⟨bx, hbx⟩ : ∃ bx, wr.heap.size = bx := ⟨_, rfl⟩
          rw [hbx] at heb
          have HEB := Lib.hid heb; have HBX := Lib.hid hbx
          have HWb := Lib.hid (HW.out.trans (hba.mono HW.out.size)); have HBb := Lib.hid (HBr.out.trans (hba.mono HBr.out.size)); have HRBb := Lib.hid ((hba.block rb hrl).trans hear)
          have HNB := Lib.hid (show ¬ rb = bx by omega)
          clear hba heb hbx hear hrv hkd hsq htm hrl
          go_upto_region 11 with fail
          rw [← hwb, HBX.out]
          clear hwb
          clear m0 m1 m2 m3 m4 m5 hcs ha
          obtain ⟨q0, q1, q2, q3, q4, q5⟩ := sixC HEB.out
          have hbxl := heap_lt HEB.out
          have hspl := split_dot s wb (by rw [hpp.s3]; exact HZ.out pp (order_mem (List.mem_of_getElem? hO))) (HML.out.below (HB.out.trans (HBb.out.mono HB.out.size)))
          rw [hpp.s2] at hspl
          have hpl2 : (pieces pp.subj).length ≤ 1048577 := by
            have := Subj.pieces_size s (by rw [hpp.s3]; exact HZ.out pp (order_mem (List.mem_of_getElem? hO)))
            rw [hpp.s2] at this; exact this
          obtain ⟨pl, hpli⟩ : ∃ pl, pieces pp.subj = pl := ⟨_, rfl⟩
          rw [hpli] at hspl hpl2
          obtain ⟨B, hBv⟩ : ∃ B, F pp = B := ⟨_, rfl⟩
          have htk := fun (w4 : World) (ha : StrsAt w4 gf 0 fl) (hb : StrsAt w4 wb.heap.size 0 pl) => Subj.takes_any gf wb.heap.size fl.length pl.length fl pl w4 ha hb (by unfold maxLen; omega) (by unfold maxLen; omega)
          have htv : takes fl pl = B := by
            rw [← hBv, ← HFF.out]
            unfold tk
            rw [HFL.out, hpli]
          rw [htv] at htk
          have HSPL := Lib.hid hspl; have HTK := Lib.hid htk; have HBV := Lib.hid hBv; have HO := Lib.hid hO
          have HSTb := Lib.hid (HST3.out.below HWb.out)
          clear hspl hpli hBv htv htk hO hpp
          go_wp2_with fail
          refine HSPL.out.mono ?_
          rintro e w5 ⟨rfl, hst5, hb5⟩
          have HTK5 := Lib.hid (HTK.out w5 (HSTb.out.below hb5) hst5)
          have heb5 := (hb5.block bx hbxl).trans HEB.out
          have her5 := (hb5.block rb (heap_lt HRBb.out)).trans HRBb.out
          have HW5 := Lib.hid (HWb.out.trans (hb5.mono HWb.out.size)); have HB5 := Lib.hid (HBb.out.trans (hb5.mono HBb.out.size)); have HRB5 := Lib.hid her5
          obtain ⟨q0, q1, q2, q3, q4, q5⟩ := sixC heb5
          obtain ⟨y0, y1, y2, y3, y4, y5⟩ := sixC her5
          have yf : ∀ j, w5.frozen? ⟨rb, j, none⟩ = false := fun j => frozen_of_row w5 rb j _ _ her5
          have hbxl5 := heap_lt heb5
          have hrbl5 := heap_lt her5
          clear hst5 hb5 heb5 her5 HSPL HTK
          go_wp2_with fail
          refine HTK5.out.mono ?_
          rintro e w' ⟨rfl, rfl⟩
          clear HTK5
          cases B with
          | false =>
            go_wp2_with fail
            exact ⟨⟨k + 1, by omega, by go_num, Lib.hid (fun x hx => by
              rw [List.take_add_one, HO.out, List.mem_append] at hx
              rcases hx with hx | hx
              · exact HNO.out x hx
              · simp at hx; subst hx; exact HBV.out), HW5⟩, by simp [intOf]; omega⟩
          | true =>
            obtain rfl : R = (pp, 0) := by
              rw [← HR.out, find_nth HNO.out HO.out HBV.out]; rfl
            have HF2 := Lib.hid (below6 HB5.out (Nat.le_of_eq HRB.out) (.int .i64 kd) (.int .i64 sq) (.int .i64 tm) (.string s) (.string h) (.string d))
            have HR6 := Lib.hid (set6 (.int .i64 kd) (.int .i64 sq) (.int .i64 tm) (.string s) (.string h) (.string d) HRB5.out)
            have hne2 : ¬ rb = bx := HNB.out
            go_wp2_with fail
            refine bodyPost_ret (v := .tuple #[.agg #[.int .i64 kd, .int .i64 sq, .int .i64 tm, .string s, .string h, .string d], .int .i64 0]) (res_rec2 6 7 Tryd.results40 _ _ rb rfl rfl HR6.out) rfl ?_
            exact ⟨by rw [← HRV.out], HF2.out⟩
        | true =>
          obtain ⟨pp, hpb⟩ : ∃ p, l[n - 1 - k]? = some p := ⟨_, List.getElem?_eq_getElem (by rw [HN.out]; omega)⟩
          have hO : (order true l)[k]? = some pp := by
            rw [← nth_order true l k (by rw [HN.out]; exact hlt)]
            unfold nth
            rw [if_pos rfl, HN.out]; exact hpb
          obtain ⟨b0, b1, b2, b3, b4, b5⟩ := hcs (n - 1 - k) pp hpb
          obtain ⟨s, h, d, hpp⟩ := parts pp
          rw [hpp.s1] at b3
          rw [hpp.h1] at b4
          rw [hpp.d1] at b5
          have hs1 : ((n : Int) - 1 - k).toNat = n - 1 - k := by omega
          have hs2 : (0 : Int) ≤ (n : Int) - 1 - k := by omega
          have hs3 : (n : Int) - 1 - k < n := by omega
          clear hpb hpk hpp0
          have hrv : recV pp = .agg #[.int .i64 pp.kind, .int .i64 pp.seq, .int .i64 pp.time, .string s, .string h, .string d] := by unfold recV; rw [hpp.s1, hpp.h1, hpp.d1]
          obtain ⟨kd, hkd⟩ : ∃ kd, pp.kind = kd := ⟨_, rfl⟩
          obtain ⟨sq, hsq⟩ : ∃ sq, pp.seq = sq := ⟨_, rfl⟩
          obtain ⟨tm, htm⟩ : ∃ tm, pp.time = tm := ⟨_, rfl⟩
          rw [hkd, hsq, htm] at hrv
          rw [hkd] at b0
          rw [hsq] at b1
          rw [htm] at b2
          have HRV := Lib.hid hrv
          obtain ⟨zk, hzk⟩ : ∃ zk, pk.kind = zk := ⟨_, rfl⟩
          obtain ⟨zq, hzq⟩ : ∃ zq, pk.seq = zq := ⟨_, rfl⟩
          obtain ⟨zt, hzt⟩ : ∃ zt, pk.time = zt := ⟨_, rfl⟩
          rw [hzk] at m0
          rw [hzq] at m1
          rw [hzt] at m2
          obtain ⟨wk, hwk⟩ : ∃ wk, wk = wr.alloc (.cells #[.int .i64 zk, .int .i64 zq, .int .i64 zt, .string s0, .string h0, .string d0] 42) := ⟨_, rfl⟩
          have hbk : Below wr.heap.size wr wk := by rw [hwk]; exact (Below.refl _ _).alloc (Nat.le_refl _) _
          have hek : wk.heap[wr.heap.size]? = some (.cells #[.int .i64 zk, .int .i64 zq, .int .i64 zt, .string s0, .string h0, .string d0] 42 (0, 0)) := by rw [hwk]; exact heap_alloc_new wr _
          have hg : g < wr.heap.size := World.block_lt_of_cell? wr _ b0
          have hgb := hbk.block g hg
          have b0' := (World.cell?_of_block (a := ⟨g, off + (n - 1 - k) * 6, none⟩) hgb).trans b0
          have b1' := (World.cell?_of_block (a := ⟨g, off + (n - 1 - k) * 6 + 1, none⟩) hgb).trans b1
          have b2' := (World.cell?_of_block (a := ⟨g, off + (n - 1 - k) * 6 + 2, none⟩) hgb).trans b2
          have b3' := (World.cell?_of_block (a := ⟨g, off + (n - 1 - k) * 6 + 3, none⟩) hgb).trans b3
          have b4' := (World.cell?_of_block (a := ⟨g, off + (n - 1 - k) * 6 + 4, none⟩) hgb).trans b4
          have b5' := (World.cell?_of_block (a := ⟨g, off + (n - 1 - k) * 6 + 5, none⟩) hgb).trans b5
          obtain ⟨x0, x1, x2, x3, x4, x5⟩ := sixC hek
          have xf : ∀ j, wk.frozen? ⟨wr.heap.size, j, none⟩ = false := fun j => frozen_of_row wk _ j _ _ hek
          have hxl := heap_lt hek
          obtain ⟨wb, hwb⟩ : ∃ wb, wb = ((((((wk.setCell ⟨wr.heap.size, 0, none⟩ (.int .i64 kd)).setCell ⟨wr.heap.size, 1, none⟩ (.int .i64 sq)).setCell ⟨wr.heap.size, 2, none⟩ (.int .i64 tm)).setCell ⟨wr.heap.size, 3, none⟩ (.string s)).setCell ⟨wr.heap.size, 4, none⟩ (.string h)).setCell ⟨wr.heap.size, 5, none⟩ (.string d)) := ⟨_, rfl⟩
          have hba : Below wr.heap.size wr wb := by rw [hwb]; exact below6 hbk (Nat.le_refl _) _ _ _ _ _ _
          have heb : wb.heap[wr.heap.size]? = some (.cells #[.int .i64 kd, .int .i64 sq, .int .i64 tm, .string s, .string h, .string d] 42 (0, 0)) := by rw [hwb]; exact set6 _ _ _ _ _ _ hek
          have hrl := heap_lt hear
          obtain ⟨bx, hbx⟩ : ∃ bx, wr.heap.size = bx := ⟨_, rfl⟩
          rw [hbx] at heb hwb x0 x1 x2 x3 x4 x5 hxl
          have xf' : ∀ j, wk.frozen? ⟨bx, j, none⟩ = false := by rw [← hbx]; exact xf
          have HEB := Lib.hid heb; have HBX := Lib.hid hbx
          have HWb := Lib.hid (HW.out.trans (hba.mono HW.out.size)); have HBb := Lib.hid (HBr.out.trans (hba.mono HBr.out.size)); have HRBb := Lib.hid ((hba.block rb hrl).trans hear)
          have HNB := Lib.hid (show ¬ rb = bx by omega)
          clear hba heb hbx hear hrv hkd hsq htm hrl xf hzk hzq hzt hbk hek hgb b0 b1 b2 b3 b4 b5
          go_upto_region 9 with fail
          rw [← hwk, HBX.out]
          clear hwk
          go_upto_region 11 with fail
          rw [← hwb]
          clear hwb x0 x1 x2 x3 x4 x5 xf' hxl
          clear m0 m1 m2 m3 m4 m5 b0' b1' b2' b3' b4' b5' hcs ha hs1 hs2 hs3
          obtain ⟨q0, q1, q2, q3, q4, q5⟩ := sixC HEB.out
          have hbxl := heap_lt HEB.out
          have hspl := split_dot s wb (by rw [hpp.s3]; exact HZ.out pp (order_mem (List.mem_of_getElem? hO))) (HML.out.below (HB.out.trans (HBb.out.mono HB.out.size)))
          rw [hpp.s2] at hspl
          have hpl2 : (pieces pp.subj).length ≤ 1048577 := by
            have := Subj.pieces_size s (by rw [hpp.s3]; exact HZ.out pp (order_mem (List.mem_of_getElem? hO)))
            rw [hpp.s2] at this; exact this
          obtain ⟨pl, hpli⟩ : ∃ pl, pieces pp.subj = pl := ⟨_, rfl⟩
          rw [hpli] at hspl hpl2
          obtain ⟨B, hBv⟩ : ∃ B, F pp = B := ⟨_, rfl⟩
          have htk := fun (w4 : World) (ha : StrsAt w4 gf 0 fl) (hb : StrsAt w4 wb.heap.size 0 pl) => Subj.takes_any gf wb.heap.size fl.length pl.length fl pl w4 ha hb (by unfold maxLen; omega) (by unfold maxLen; omega)
          have htv : takes fl pl = B := by
            rw [← hBv, ← HFF.out]
            unfold tk
            rw [HFL.out, hpli]
          rw [htv] at htk
          have HSPL := Lib.hid hspl; have HTK := Lib.hid htk; have HBV := Lib.hid hBv; have HO := Lib.hid hO
          have HSTb := Lib.hid (HST3.out.below HWb.out)
          clear hspl hpli hBv htv htk hO hpp
          go_wp2_with fail
          refine HSPL.out.mono ?_
          rintro e w5 ⟨rfl, hst5, hb5⟩
          have HTK5 := Lib.hid (HTK.out w5 (HSTb.out.below hb5) hst5)
          have heb5 := (hb5.block bx hbxl).trans HEB.out
          have her5 := (hb5.block rb (heap_lt HRBb.out)).trans HRBb.out
          have HW5 := Lib.hid (HWb.out.trans (hb5.mono HWb.out.size)); have HB5 := Lib.hid (HBb.out.trans (hb5.mono HBb.out.size)); have HRB5 := Lib.hid her5
          obtain ⟨q0, q1, q2, q3, q4, q5⟩ := sixC heb5
          obtain ⟨y0, y1, y2, y3, y4, y5⟩ := sixC her5
          have yf : ∀ j, w5.frozen? ⟨rb, j, none⟩ = false := fun j => frozen_of_row w5 rb j _ _ her5
          have hbxl5 := heap_lt heb5
          have hrbl5 := heap_lt her5
          clear hst5 hb5 heb5 her5 HSPL HTK
          go_wp2_with fail
          refine HTK5.out.mono ?_
          rintro e w' ⟨rfl, rfl⟩
          clear HTK5
          cases B with
          | false =>
            go_wp2_with fail
            exact ⟨⟨k + 1, by omega, by go_num, Lib.hid (fun x hx => by
              rw [List.take_add_one, HO.out, List.mem_append] at hx
              rcases hx with hx | hx
              · exact HNO.out x hx
              · simp at hx; subst hx; exact HBV.out), HW5⟩, by simp [intOf]; omega⟩
          | true =>
            obtain rfl : R = (pp, 0) := by
              rw [← HR.out, find_nth HNO.out HO.out HBV.out]; rfl
            have HF2 := Lib.hid (below6 HB5.out (Nat.le_of_eq HRB.out) (.int .i64 kd) (.int .i64 sq) (.int .i64 tm) (.string s) (.string h) (.string d))
            have HR6 := Lib.hid (set6 (.int .i64 kd) (.int .i64 sq) (.int .i64 tm) (.string s) (.string h) (.string d) HRB5.out)
            have hne2 : ¬ rb = bx := HNB.out
            go_wp2_with fail
            refine bodyPost_ret (v := .tuple #[.agg #[.int .i64 kd, .int .i64 sq, .int .i64 tm, .string s, .string h, .string d], .int .i64 0]) (res_rec2 6 7 Tryd.results40 _ _ rb rfl rfl HR6.out) rfl ?_
            exact ⟨by rw [← HRV.out], HF2.out⟩
      · have hltz : ¬ (k : Int) < n := by omega
        obtain rfl : k = n := by omega
        obtain rfl : R = (Rc.zero, 4) := by
          rw [← HR.out]
          have hno : (order back l).find? F = none := by
            rw [List.find?_eq_none]
            intro x hx
            have h1 := HNO.out x (by rw [List.take_of_length_le (by rw [order_len, HN.out]; exact Nat.le_refl _)]; exact hx)
            rw [h1]; simp
          rw [hno]; rfl
        obtain ⟨y0, y1, y2, y3, y4, y5⟩ := sixC hear
        have yf : ∀ j, wr.frozen? ⟨rb, j, none⟩ = false := fun j => frozen_of_row wr rb j _ _ hear
        have hrlr := heap_lt hear
        have HF2 := Lib.hid (below6 HBr.out (Nat.le_of_eq HRB.out) (.int .i64 0) (.int .i64 0) (.int .i64 0) (.string ⟨#[]⟩) (.string ⟨#[]⟩) (.string ⟨#[]⟩))
        have HR6 := Lib.hid (set6 (.int .i64 0) (.int .i64 0) (.int .i64 0) (.string ⟨#[]⟩) (.string ⟨#[]⟩) (.string ⟨#[]⟩) HEAR.out)
        clear hear
        go_wp2_with fail
        refine bodyPost_ret (v := .tuple #[.agg #[.int .i64 0, .int .i64 0, .int .i64 0, .string ⟨#[]⟩, .string ⟨#[]⟩, .string ⟨#[]⟩], .int .i64 4]) (res_rec2 6 7 Tryd.results40 _ _ rb rfl rfl HR6.out) rfl ?_
        exact ⟨rfl, HF2.out⟩
  · have he0 : ((er : Int) != 0) = true := by simpa using he
    obtain rfl : R = (Rc.zero, er) := by rw [← HR.out]; unfold seekR; rw [if_pos he]
    have HF2 := Lib.hid (below6 HB2.out (Nat.le_of_eq HRB.out) (.int .i64 0) (.int .i64 0) (.int .i64 0) (.string ⟨#[]⟩) (.string ⟨#[]⟩) (.string ⟨#[]⟩))
    have HR6 := Lib.hid (set6 (.int .i64 0) (.int .i64 0) (.int .i64 0) (.string ⟨#[]⟩) (.string ⟨#[]⟩) (.string ⟨#[]⟩) HEA2.out)
    clear he
    go_wp2_with fail
    refine bodyPost_ret (v := .tuple #[.agg #[.int .i64 0, .int .i64 0, .int .i64 0, .string ⟨#[]⟩, .string ⟨#[]⟩, .string ⟨#[]⟩], .int .i64 er]) (res_rec2 6 7 Tryd.results40 _ _ rb rfl rfl HR6.out) rfl ?_
    exact ⟨rfl, HF2.out⟩
end
end Go.Proofs.YtapmhpnkpjgefaaDoor.Sto

namespace Go.Proofs.YtapmhpnkpjgefaaDoor.Sto
open Go.RowKit Heap
open Subj (Tok ML pieces takes StrsAt)
open Rec (Rc recErr far)
open Idx (Ents ptrV)

theorem RecsAt.tail {w : World} {g off n cap : Nat} {l : List Rc} (h : RecsAt w (.slice (some ⟨g, off, none⟩) n cap) l) (i : Nat) (hi : i ≤ n) (ao : Option Addr) (c : Nat) (ha : i < n → ao = some ⟨g, off + i * 6, none⟩) : RecsAt w (.slice ao (n - i) c) (l.drop i) := by
  obtain ⟨a', c', hv, hc⟩ := h
  simp only [Value.slice.injEq] at hv
  obtain ⟨rfl, rfl, rfl⟩ := hv
  refine ⟨ao, c, by rw [List.length_drop], fun hne => ?_⟩
  have hil : i < l.length := by
    rcases Nat.lt_or_ge i l.length with h | h
    · exact h
    · exact absurd (List.drop_of_length_le h) hne
  have hne2 : l ≠ [] := fun e => by rw [e] at hil; simp at hil
  obtain ⟨g', off', hgo, hcs⟩ := hc hne2
  simp only [Option.some.injEq, Addr.mk.injEq] at hgo
  obtain ⟨rfl, rfl, _⟩ := hgo
  refine ⟨g, off + i * 6, ha hil, fun j p hp => ?_⟩
  rw [List.getElem?_drop] at hp
  have h1 := hcs (i + j) p hp
  rw [show off + i * 6 + j * 6 = off + (i + j) * 6 by omega]
  exact h1

section
variable {W w : World} {F : Nat → Prop} {D B : Nat} {L : List Rc} {last : Int}

theorem StoreAt.list (hA : StoreAt W F D B L last w) : ∃ v, w.cell? ⟨D, 0, none⟩ = some v ∧ D < w.heap.size ∧ RecsAt w v L ∧ L.length ≤ 200 ∧ (∀ r ∈ L, r.subj.length ≤ 1048576) ∧ Row w 42 6 v L.length (recsV L) := by
  obtain ⟨M, x, N, I, v, h, hR, _, _⟩ := hA.ex
  refine ⟨v, (fourS h.cell).1, h.lt, row_recs h.row, hR.few, fun r hr => ?_, h.row⟩
  have := (good_parts (hR.good r hr).1 (hR.good r hr).2).2.1
  omega

set_option maxHeartbeats 4000000 in
set_option maxRecDepth 100000 in
theorem last_any (hA : StoreAt W F D B L last w) (hm : ML W) (f : ByteArray) (hf : f.size ≤ 1048576) :
    Calls Tryd.prog 18 #[.pointer (some ⟨D, 0, none⟩), .string f] w fun e w' => e = .returned (.tuple #[recV (seekR (Subj.err true f.data.toList) (L.reverse.find? (tk f.data.toList))).1, .int .i64 ((seekR (Subj.err true f.data.toList) (L.reverse.find? (tk f.data.toList))).2 : Nat)]) ∧ Below w.heap.size w w' := by
  obtain ⟨w1, hw1⟩ : ∃ w1, w1 = w.alloc (.cells #[.int .i64 0, .int .i64 0, .int .i64 0, .string ⟨#[]⟩, .string ⟨#[]⟩, .string ⟨#[]⟩] 42) := ⟨_, rfl⟩
  have hb1 : Below w.heap.size w w1 := by rw [hw1]; exact (Below.refl _ _).alloc (Nat.le_refl _) _
  have hea : w1.heap[w.heap.size]? = some (.cells #[.int .i64 0, .int .i64 0, .int .i64 0, .string ⟨#[]⟩, .string ⟨#[]⟩, .string ⟨#[]⟩] 42 (0, 0)) := by rw [hw1]; exact heap_alloc_new w _
  obtain ⟨rb, hrb⟩ : ∃ rb, w.heap.size = rb := ⟨_, rfl⟩
  rw [hrb] at hea
  obtain ⟨v, c0, hlt, hrec, hfew, hz, _⟩ := (hA.next hb1).list
  have hsk := seek_any (W := W) (hA.next hb1).below hm f hf hrec (by omega) hz true
  rw [show order true L = L.reverse from rfl] at hsk
  generalize seekR (Subj.err true f.data.toList) (L.reverse.find? (tk f.data.toList)) = R at *
  obtain ⟨r, er⟩ := R
  obtain ⟨s, h, d, hpp⟩ := parts r
  have hrv : recV r = .agg #[.int .i64 r.kind, .int .i64 r.seq, .int .i64 r.time, .string s, .string h, .string d] := by unfold recV; rw [hpp.s1, hpp.h1, hpp.d1]
  simp only [hrv] at hsk ⊢
  have HSK := Lib.hid hsk; have HB1 := Lib.hid hb1; have HEA := Lib.hid hea; have HRB := Lib.hid hrb
  have hrbl := heap_lt hea
  generalize r.kind = kd at *
  generalize r.seq = sq at *
  generalize r.time = tm at *
  clear hA hb1 hea hrb hrec hz hsk hrv hpp hm hf
  go_enter Tryd.func18, Tryd.ntmps18
  go_upto_region 1 with fail
  rw [← hw1, HRB.out]
  clear hw1
  go_wp2_with fail
  refine HSK.out.mono ?_
  rintro e w2 ⟨rfl, hb2⟩
  have hea2 := (hb2.block rb hrbl).trans HEA.out
  obtain ⟨q0, q1, q2, q3, q4, q5⟩ := sixC hea2
  have zf : ∀ j, w2.frozen? ⟨rb, j, none⟩ = false := fun j => frozen_of_row w2 rb j _ _ hea2
  have hrbl2 := heap_lt hea2
  have HF2 := Lib.hid (below6 (HB1.out.trans (hb2.mono HB1.out.size)) (Nat.le_of_eq HRB.out) (.int .i64 kd) (.int .i64 sq) (.int .i64 tm) (.string s) (.string h) (.string d))
  have HR6 := Lib.hid (set6 (.int .i64 kd) (.int .i64 sq) (.int .i64 tm) (.string s) (.string h) (.string d) hea2)
  clear hb2 hea2 HSK HEA hrbl
  go_wp2_with fail
  refine bodyPost_ret (v := .tuple #[.agg #[.int .i64 kd, .int .i64 sq, .int .i64 tm, .string s, .string h, .string d], .int .i64 er]) (res_rec2 4 5 Tryd.results18 _ _ rb rfl rfl HR6.out) rfl ?_
  exact ⟨rfl, HF2.out⟩

set_option maxHeartbeats 4000000 in
set_option maxRecDepth 100000 in
theorem next_from (hA : StoreAt W F D B L last w) (hm : ML W) (f : ByteArray) (hf : f.size ≤ 1048576) (q0 q : Int) (hmx : max q0 0 = q) (hq : 0 ≤ q ∧ q ≤ 9223372036854775807) :
    Calls Tryd.prog 20 #[.pointer (some ⟨D, 0, none⟩), .string f, .int .i64 q0] w fun e w' => ∃ i, (∀ r ∈ L.take i, r.seq < q) ∧ (∀ r ∈ L.drop i, q ≤ r.seq) ∧ e = .returned (.tuple #[recV (seekR (Subj.err true f.data.toList) ((L.drop i).find? (tk f.data.toList))).1, .int .i64 ((seekR (Subj.err true f.data.toList) ((L.drop i).find? (tk f.data.toList))).2 : Nat)]) ∧ Below w.heap.size w w' := by
  obtain ⟨w1, hw1⟩ : ∃ w1, w1 = w.alloc (.cells #[.int .i64 0, .int .i64 0, .int .i64 0, .string ⟨#[]⟩, .string ⟨#[]⟩, .string ⟨#[]⟩] 42) := ⟨_, rfl⟩
  have hb1 : Below w.heap.size w w1 := by rw [hw1]; exact (Below.refl _ _).alloc (Nat.le_refl _) _
  have hea : w1.heap[w.heap.size]? = some (.cells #[.int .i64 0, .int .i64 0, .int .i64 0, .string ⟨#[]⟩, .string ⟨#[]⟩, .string ⟨#[]⟩] 42 (0, 0)) := by rw [hw1]; exact heap_alloc_new w _
  obtain ⟨rb, hrb⟩ : ∃ rb, w.heap.size = rb := ⟨_, rfl⟩
  rw [hrb] at hea
  have hA1 := hA.next hb1
  obtain ⟨M, x, N, I, v', hS, hR, _, _⟩ := hA1.ex
  have hpl := place_rec hS (by have := hR.few; omega) q
  have HA1 := Lib.hid hA1; have HPL := Lib.hid hpl; have HB1 := Lib.hid hb1; have HEA := Lib.hid hea; have HRB := Lib.hid hrb; have HR := Lib.hid hR; have HML := Lib.hid hm
  have hrbl := heap_lt hea
  clear hA hb1 hea hrb hA1 hS hR hpl hm
  go_enter Tryd.func20, Tryd.ntmps20
  go_upto_region 1 with fail
  rw [← hw1, HRB.out]
  clear hw1
  go_wp2_with fail
  refine HPL.out.mono ?_
  rintro e w2 ⟨i, fd, rfl, hfo, hb2⟩
  obtain ⟨hlo, hhi, _, _⟩ := hfo.in HR.out.rise HR.out.seqs (by omega)
  have hile := hfo.le
  have HLO := Lib.hid hlo; have HHI := Lib.hid hhi
  have HA2 := Lib.hid (HA1.out.next hb2)
  have hea2 := (hb2.block rb hrbl).trans HEA.out
  have HEA2 := Lib.hid hea2
  have HB2 := Lib.hid (HB1.out.trans (hb2.mono HB1.out.size))
  obtain ⟨v, c0, hlt, hrec, hfew, hz, hrow⟩ := HA2.out.list
  obtain ⟨n, hnL⟩ : ∃ n, L.length = n := ⟨_, rfl⟩
  rw [hnL] at hfew hile hrow
  have HZ := Lib.hid hz; have HREC := Lib.hid hrec; have HNL := Lib.hid hnL
  have hrbl2 := heap_lt hea2
  clear hb2 hfo hlo hhi hea2 HPL hz hrec hnL hrbl
  -- what is behind the place
  have key : ∀ ao c, RecsAt w2 (.slice ao (n - i) c) (L.drop i) → Calls Tryd.prog 40 #[.string f, .slice ao (n - i) c, .bool false] w2 fun e w' => e = .returned (.tuple #[recV (seekR (Subj.err true f.data.toList) ((L.drop i).find? (tk f.data.toList))).1, .int .i64 ((seekR (Subj.err true f.data.toList) ((L.drop i).find? (tk f.data.toList))).2 : Nat)]) ∧ Below w2.heap.size w2 w' := fun ao c hr =>
    seek_any (W := W) HA2.out.below HML.out f hf hr (by rw [List.length_drop, HNL.out]; omega) (fun r hr => HZ.out r (List.mem_of_mem_drop hr)) false
  obtain ⟨R, hRR⟩ : ∃ R, seekR (Subj.err true f.data.toList) ((L.drop i).find? (tk f.data.toList)) = R := ⟨_, rfl⟩
  rw [hRR] at key
  obtain ⟨r, er⟩ := R
  obtain ⟨s, h, d, hpp⟩ := parts r
  have hrv : recV r = .agg #[.int .i64 r.kind, .int .i64 r.seq, .int .i64 r.time, .string s, .string h, .string d] := by unfold recV; rw [hpp.s1, hpp.h1, hpp.d1]
  simp only [hrv] at key
  have HRV := Lib.hid hrv; have HRR := Lib.hid hRR
  obtain ⟨kd, hkd⟩ : ∃ kd, r.kind = kd := ⟨_, rfl⟩
  obtain ⟨sq, hsq⟩ : ∃ sq, r.seq = sq := ⟨_, rfl⟩
  obtain ⟨tm, htm⟩ : ∃ tm, r.time = tm := ⟨_, rfl⟩
  rw [hkd, hsq, htm] at key HRV
  have HKEY := Lib.hid key
  have hiz : (i : Int) ≤ n := by omega
  clear key hrv hRR hpp hkd hsq htm
  have HEND := Lib.hid (show ∀ w3, Below w2.heap.size w2 w3 → w3.heap[rb]? = some (.cells #[.int .i64 0, .int .i64 0, .int .i64 0, .string ⟨#[]⟩, .string ⟨#[]⟩, .string ⟨#[]⟩] 42 (0, 0)) from fun w3 hb3 => (hb3.block rb hrbl2).trans HEA2.out)
  rcases hrow.2 with ⟨rfl, h0⟩ | ⟨g, off, cap, cur, rfl, hgg, hle, hcapm, _⟩
  · obtain rfl : i = 0 := by omega
    subst h0
    have HS := Lib.hid (HKEY.out none 0 (by
      have hL : L = [] := List.eq_nil_of_length_eq_zero HNL.out
      rw [hL]; exact ⟨none, 0, rfl, fun h => absurd rfl h⟩))
    clear hrow HKEY
    go_wp2_with fail
    refine HS.out.mono ?_
    rintro e w3 ⟨rfl, hb3⟩
    have hea3 := HEND.out w3 hb3
    obtain ⟨q0, q1, q2, q3, q4, q5⟩ := sixC hea3
    have zf : ∀ j, w3.frozen? ⟨rb, j, none⟩ = false := fun j => frozen_of_row w3 rb j _ _ hea3
    have hrbl3 := heap_lt hea3
    have HF2 := Lib.hid (below6 (HB2.out.trans (hb3.mono HB2.out.size)) (Nat.le_of_eq HRB.out) (.int .i64 kd) (.int .i64 sq) (.int .i64 tm) (.string s) (.string h) (.string d))
    have HR6 := Lib.hid (set6 (.int .i64 kd) (.int .i64 sq) (.int .i64 tm) (.string s) (.string h) (.string d) hea3)
    clear hb3 hea3 HS
    go_wp2_with fail
    refine bodyPost_ret (v := .tuple #[.agg #[.int .i64 kd, .int .i64 sq, .int .i64 tm, .string s, .string h, .string d], .int .i64 er]) (res_rec2 6 7 Tryd.results20 _ _ rb rfl rfl HR6.out) rfl ?_
    exact ⟨0, HLO.out, HHI.out, by rw [HRR.out]; simp only; rw [← HRV.out], HF2.out⟩
  · by_cases hci : cap = i
    · subst hci
      have hni : n = cap := by omega
      subst hni
      have HS := Lib.hid (HKEY.out (some ⟨g, off, none⟩) 0 (HREC.out.tail n (Nat.le_refl _) _ _ (fun h => absurd h (Nat.lt_irrefl _))))
      rw [Nat.sub_self] at HS
      clear hrow HKEY hgg
      go_wp2_with fail
      refine HS.out.mono ?_
      rintro e w3 ⟨rfl, hb3⟩
      have hea3 := HEND.out w3 hb3
      obtain ⟨q0, q1, q2, q3, q4, q5⟩ := sixC hea3
      have zf : ∀ j, w3.frozen? ⟨rb, j, none⟩ = false := fun j => frozen_of_row w3 rb j _ _ hea3
      have hrbl3 := heap_lt hea3
      have HF2 := Lib.hid (below6 (HB2.out.trans (hb3.mono HB2.out.size)) (Nat.le_of_eq HRB.out) (.int .i64 kd) (.int .i64 sq) (.int .i64 tm) (.string s) (.string h) (.string d))
      have HR6 := Lib.hid (set6 (.int .i64 kd) (.int .i64 sq) (.int .i64 tm) (.string s) (.string h) (.string d) hea3)
      clear hb3 hea3 HS
      go_wp2_with fail
      refine bodyPost_ret (v := .tuple #[.agg #[.int .i64 kd, .int .i64 sq, .int .i64 tm, .string s, .string h, .string d], .int .i64 er]) (res_rec2 6 7 Tryd.results20 _ _ rb rfl rfl HR6.out) rfl ?_
      exact ⟨n, HLO.out, HHI.out, by rw [HRR.out]; simp only; rw [← HRV.out], HF2.out⟩
    · have HS := Lib.hid (HKEY.out (some ⟨g, off + i * 6, none⟩) (cap - i) (HREC.out.tail i hile _ _ (fun _ => rfl)))
      have hci2 : (i : Int) ≤ cap := by omega
      clear hrow HKEY hgg
      go_wp2_with fail
      refine HS.out.mono ?_
      rintro e w3 ⟨rfl, hb3⟩
      have hea3 := HEND.out w3 hb3
      obtain ⟨q0, q1, q2, q3, q4, q5⟩ := sixC hea3
      have zf : ∀ j, w3.frozen? ⟨rb, j, none⟩ = false := fun j => frozen_of_row w3 rb j _ _ hea3
      have hrbl3 := heap_lt hea3
      have HF2 := Lib.hid (below6 (HB2.out.trans (hb3.mono HB2.out.size)) (Nat.le_of_eq HRB.out) (.int .i64 kd) (.int .i64 sq) (.int .i64 tm) (.string s) (.string h) (.string d))
      have HR6 := Lib.hid (set6 (.int .i64 kd) (.int .i64 sq) (.int .i64 tm) (.string s) (.string h) (.string d) hea3)
      clear hb3 hea3 HS
      go_wp2_with fail
      refine bodyPost_ret (v := .tuple #[.agg #[.int .i64 kd, .int .i64 sq, .int .i64 tm, .string s, .string h, .string d], .int .i64 er]) (res_rec2 6 7 Tryd.results20 _ _ rb rfl rfl HR6.out) rfl ?_
      exact ⟨i, HLO.out, HHI.out, by rw [HRR.out]; simp only; rw [← HRV.out], HF2.out⟩

theorem next_any (hA : StoreAt W F D B L last w) (hm : ML W) (f : ByteArray) (hf : f.size ≤ 1048576) (q : Int) (hq : 0 ≤ q ∧ q ≤ 4611686018427387904) :
    Calls Tryd.prog 20 #[.pointer (some ⟨D, 0, none⟩), .string f, .int .i64 q] w fun e w' => ∃ i, (∀ r ∈ L.take i, r.seq < q) ∧ (∀ r ∈ L.drop i, q ≤ r.seq) ∧ e = .returned (.tuple #[recV (seekR (Subj.err true f.data.toList) ((L.drop i).find? (tk f.data.toList))).1, .int .i64 ((seekR (Subj.err true f.data.toList) ((L.drop i).find? (tk f.data.toList))).2 : Nat)]) ∧ Below w.heap.size w w' :=
  next_from hA hm f hf q q (by omega) ⟨hq.1, by omega⟩
end
end Go.Proofs.YtapmhpnkpjgefaaDoor.Sto

namespace Go.Proofs.YtapmhpnkpjgefaaDoor.Sto
open Go.RowKit Heap
open Subj (Tok ML pieces takes)
open Rec (Rc recErr far)
open Idx (Ents ptrV)

/-- The message of a number. -/
def getQ (L : List Rc) (q : Int) : Option Rc := L.find? fun r => r.seq == q

/-- What is told of a number. -/
def GetPost (w : World) (o : Option Rc) (e : Ending) (w' : World) : Prop := e = .returned (.tuple #[recV (seekR 0 o).1, .int .i64 ((seekR 0 o).2 : Nat)]) ∧ Below w.heap.size w w'

theorem getQ_none {L : List Rc} {q : Int} (h : ∀ r ∈ L, r.seq ≠ q) : getQ L q = none := by
  unfold getQ
  rw [List.find?_eq_none]
  intro r hr
  have := h r hr
  simpa using this

theorem getQ_at {L : List Rc} {q : Int} {i : Nat} {p : Rc} (h : ∀ r ∈ L.take i, r.seq ≠ q) (hp : L[i]? = some p) (hq : p.seq = q) : getQ L q = some p := by
  unfold getQ
  exact find_nth (k := i) (fun x hx => by have := h x hx; simpa using this) hp (by simpa using hq)

theorem Found.get {L : List Rc} {i : Nat} {fd : Bool} {q : Int} (h : Found L q i fd) (hr : L.Pairwise fun a b => a.seq < b.seq) (hs : ∀ r ∈ L, 0 ≤ r.seq ∧ r.seq ≤ far) (hq : -9223372036854775808 ≤ q ∧ q ≤ 9223372036854775807) :
    (fd = false → getQ L q = none) ∧ (fd = true → ∃ p, L[i]? = some p ∧ getQ L q = some p) := by
  by_cases hin : 0 ≤ q
  · obtain ⟨h1, h2, h3, h4⟩ := h.in hr hs ⟨by omega, hq.2⟩
    refine ⟨fun hf => getQ_none fun r hm e => ?_, fun hf => ?_⟩
    · rw [hf] at h3
      have : hasSeq L q = true := by unfold hasSeq; rw [List.any_eq_true]; exact ⟨r, hm, by simpa using e⟩
      rw [this] at h3; cases h3
    · obtain ⟨p, hp, hpq⟩ := h4 hf
      exact ⟨p, hp, getQ_at (fun r hr => by have := h1 r hr; omega) hp hpq⟩
  · have hno : ∀ r ∈ L, r.seq ≠ q := fun r hm e => by have := hs r hm; omega
    refine ⟨fun _ => getQ_none hno, fun hf => ?_⟩
    obtain ⟨r, h1, h2⟩ := h.yes hf
    have hm := List.mem_of_getElem? h1
    exact absurd (cmpR_zero (hs r hm) hq h2) (hno r hm)

section
variable {W w : World} {F : Nat → Prop} {D B C : Nat} {L : List Rc} {last : Int} {v : Value} {I : Ents}

set_option maxHeartbeats 4000000 in
set_option maxRecDepth 100000 in
theorem get_any (hA : StoreAt W F D B L last w) (q : Int) (hq : -9223372036854775808 ≤ q ∧ q ≤ 9223372036854775807) :
    Calls Tryd.prog 23 #[.pointer (some ⟨D, 0, none⟩), .int .i64 q] w (GetPost w (getQ L q)) := by
  obtain ⟨w1, hw1⟩ : ∃ w1, w1 = w.alloc (.cells #[.int .i64 0, .int .i64 0, .int .i64 0, .string ⟨#[]⟩, .string ⟨#[]⟩, .string ⟨#[]⟩] 42) := ⟨_, rfl⟩
  have hb1 : Below w.heap.size w w1 := by rw [hw1]; exact (Below.refl _ _).alloc (Nat.le_refl _) _
  have hea : w1.heap[w.heap.size]? = some (.cells #[.int .i64 0, .int .i64 0, .int .i64 0, .string ⟨#[]⟩, .string ⟨#[]⟩, .string ⟨#[]⟩] 42 (0, 0)) := by rw [hw1]; exact heap_alloc_new w _
  obtain ⟨rb, hrb⟩ : ∃ rb, w.heap.size = rb := ⟨_, rfl⟩
  rw [hrb] at hea
  have hA1 := hA.next hb1
  obtain ⟨M, x, N, I, v', hS, hR, _, _⟩ := hA1.ex
  have hpl := place_rec hS (by have := hR.few; omega) q
  obtain ⟨o, ho⟩ : ∃ o, getQ L q = o := ⟨_, rfl⟩
  have HA1 := Lib.hid hA1; have HPL := Lib.hid hpl; have HB1 := Lib.hid hb1; have HEA := Lib.hid hea; have HRB := Lib.hid hrb; have HR := Lib.hid hR; have HO := Lib.hid ho
  rw [ho]
  unfold GetPost
  have hrbl := heap_lt hea
  clear hA hb1 hea hrb hA1 hS hR hpl ho
  go_enter Tryd.func23, Tryd.ntmps23
  go_upto_region 1 with fail
  rw [← hw1, HRB.out]
  clear hw1
  go_wp2_with fail
  refine HPL.out.mono ?_
  rintro e w2 ⟨i, fd, rfl, hfo, hb2⟩
  obtain ⟨hno, hyes⟩ := hfo.get HR.out.rise HR.out.seqs hq
  rw [HO.out] at hno hyes
  have HNO := Lib.hid hno; have HYES := Lib.hid hyes
  have HA2 := Lib.hid (HA1.out.next hb2)
  have hea2 := (hb2.block rb hrbl).trans HEA.out
  have HB2 := Lib.hid (HB1.out.trans (hb2.mono HB1.out.size))
  obtain ⟨q0, q1, q2, q3, q4, q5⟩ := sixC hea2
  have zf : ∀ j, w2.frozen? ⟨rb, j, none⟩ = false := fun j => frozen_of_row w2 rb j _ _ hea2
  have hrbl2 := heap_lt hea2
  have HEA2 := Lib.hid hea2
  clear hb2 hfo hno hyes hea2 HPL hrbl
  cases fd with
  | false =>
    obtain rfl : o = none := HNO.out rfl
    have HF2 := Lib.hid (below6 HB2.out (Nat.le_of_eq HRB.out) (.int .i64 0) (.int .i64 0) (.int .i64 0) (.string ⟨#[]⟩) (.string ⟨#[]⟩) (.string ⟨#[]⟩))
    have HR6 := Lib.hid (set6 (.int .i64 0) (.int .i64 0) (.int .i64 0) (.string ⟨#[]⟩) (.string ⟨#[]⟩) (.string ⟨#[]⟩) HEA2.out)
    go_wp2_with fail
    refine bodyPost_ret (v := .tuple #[.agg #[.int .i64 0, .int .i64 0, .int .i64 0, .string ⟨#[]⟩, .string ⟨#[]⟩, .string ⟨#[]⟩], .int .i64 4]) (res_rec2 4 5 Tryd.results23 _ _ rb rfl rfl HR6.out) rfl ?_
    exact ⟨rfl, HF2.out⟩
  | true =>
    obtain ⟨p, hp, ho⟩ := HYES.out rfl
    subst ho
    obtain ⟨vv, c0, hlt, hrec, hfew, hz, hrow⟩ := HA2.out.list
    obtain ⟨n, hnL⟩ : ∃ n, L.length = n := ⟨_, rfl⟩
    rw [hnL] at hfew hrow
    have hin : i < n := by rw [← hnL]; exact (List.getElem?_eq_some_iff.1 hp).1
    have hiz : (i : Int) < n := by omega
    rcases hrow.2 with ⟨_, h0⟩ | ⟨g, off, cap, cur, rfl, hgg, _⟩
    · omega
    obtain ⟨m0, m1, m2, m3, m4, m5⟩ := cells_rec hrow i p hp hin
    obtain ⟨s, h, d, hpp⟩ := parts p
    rw [hpp.s1] at m3
    rw [hpp.h1] at m4
    rw [hpp.d1] at m5
    have hrv : recV p = .agg #[.int .i64 p.kind, .int .i64 p.seq, .int .i64 p.time, .string s, .string h, .string d] := by unfold recV; rw [hpp.s1, hpp.h1, hpp.d1]
    have HRV := Lib.hid hrv
    have HF2 := Lib.hid (below6 HB2.out (Nat.le_of_eq HRB.out) (.int .i64 p.kind) (.int .i64 p.seq) (.int .i64 p.time) (.string s) (.string h) (.string d))
    have HR6 := Lib.hid (set6 (.int .i64 p.kind) (.int .i64 p.seq) (.int .i64 p.time) (.string s) (.string h) (.string d) HEA2.out)
    clear hp hz hrec hrow hgg hpp hrv hnL HNO HYES
    go_wp2_with fail
    refine bodyPost_ret (v := .tuple #[.agg #[.int .i64 p.kind, .int .i64 p.seq, .int .i64 p.time, .string s, .string h, .string d], .int .i64 0]) (res_rec2 4 5 Tryd.results23 _ _ rb rfl rfl HR6.out) rfl ?_
    exact ⟨by rw [show seekR 0 (some p) = (p, 0) from rfl, HRV.out]; rfl, HF2.out⟩

end
end Go.Proofs.YtapmhpnkpjgefaaDoor.Sto

namespace Go.Proofs.YtapmhpnkpjgefaaDoor.Con
open Subj (Tok pieces takes TakerP errT errT_facts argsOk_facts)
open Sto (Right getQ tk recV)
open Rec (Rc far)

/-- A pending delivery. -/
structure Pd where
  seq : Int
  nth : Int
  due : Int

/-- What a consumer has beside its plan. -/
structure Cn where
  place : Int
  count : Int
  l : List Pd

/-- A delivery. -/
structure Dl where
  seq : Int
  subj : List UInt8
  data : List UInt8
  count : Int
  nth : Int
  left : Int

def Dl.zero : Dl := ⟨0, [], [], 0, 0, 0⟩

def backI (t : TakerP) (nth : Int) : Nat := (min (max nth 1) (t.back.length : Int)).toNat - 1
def waitT (t : TakerP) (nth : Int) : Int := if t.back.length = 0 then t.wait else t.back.getD (backI t nth) 0

/-- One that is still to come. -/
def want (t : TakerP) (place : Int) (r : Rc) : Bool := decide (place ≤ r.seq) && tk t.filt r
def leftC (t : TakerP) (L : List Rc) (place : Int) : Nat := L.countP (want t place)

def againP (t : TakerP) (L : List Rc) (now : Int) : List Pd → List Pd × Option (Pd × Rc)
  | [] => ([], none)
  | p :: r =>
    if now < p.due then (p :: (againP t L now r).1, (againP t L now r).2)
    else match getQ L p.seq with
      | none => againP t L now r
      | some x => if 0 < t.most ∧ t.most ≤ p.nth then againP t L now r
        else (⟨p.seq, p.nth + 1, now + waitT t (p.nth + 1)⟩ :: r, some (⟨p.seq, p.nth + 1, now + waitT t (p.nth + 1)⟩, x))

def tellP (t : TakerP) (L : List Rc) (c : Cn) (x : Rc) (nth : Int) : Cn × Dl :=
  (⟨c.place, c.count + 1, c.l⟩, ⟨x.seq, x.subj, x.data, c.count + 1, nth, leftC t L c.place⟩)

/-- Next, where nothing is delivered again. -/
def freshP (t : TakerP) (L : List Rc) (now : Int) (c : Cn) : Cn × Dl × Nat :=
  if 0 < t.pend ∧ t.pend ≤ c.l.length then (c, Dl.zero, 11)
  else match L.find? (want t c.place) with
    | none => (c, Dl.zero, 4)
    | some x =>
      let y := tellP t L ⟨x.seq + 1, c.count, if t.ack = 0 then c.l else c.l ++ [⟨x.seq, 1, now + waitT t 1⟩]⟩ x 1
      (y.1, y.2, 0)

/-- Next: what is left, what is told, the error. -/
def nextP (t : TakerP) (L : List Rc) (now : Int) (c : Cn) : Cn × Dl × Nat :=
  if now < 0 ∨ far < now then (c, Dl.zero, 1)
  else match againP t L now c.l with
    | (l, some (p, x)) =>
      let y := tellP t L ⟨c.place, c.count, l⟩ x p.nth
      (y.1, y.2, 0)
    | (l, none) => freshP t L now ⟨c.place, c.count, l⟩

def idxP (l : List Pd) (q : Int) : Option Nat := l.findIdx? fun p => p.seq == q

def mostN (sort : Int) : Int := if sort = 2 then 100000 else 0

def answerP (t : TakerP) (now seq sort n : Int) (c : Cn) : Cn × Nat :=
  if now < 0 ∨ far < now ∨ sort < 1 ∨ 4 < sort ∨ n < 0 ∨ mostN sort < n then (c, 1)
  else match idxP c.l seq with
    | none => (c, 4)
    | some i =>
      match c.l[i]? with
      | none => (c, 4)
      | some p =>
        if sort = 2 then (⟨c.place, c.count, c.l.set i ⟨p.seq, p.nth, now + n⟩⟩, 0)
        else if sort = 3 then (⟨c.place, c.count, c.l.set i ⟨p.seq, p.nth, now + waitT t p.nth⟩⟩, 0)
        else if sort = 1 ∧ t.ack = 1 then (⟨c.place, c.count, c.l.drop (i + 1)⟩, 0)
        else (⟨c.place, c.count, c.l.eraseIdx i⟩, 0)

def startP (t : TakerP) (L : List Rc) (last : Int) : Int :=
  if t.src = 1 then match L.reverse.find? (tk t.filt) with
    | none => last + 1
    | some x => x.seq
  else if t.src = 2 then last + 1
  else if t.src = 3 then t.start
  else 1

def newP (t : TakerP) (L : List Rc) (last : Int) : Cn := ⟨startP t L last, 0, []⟩

def floorP (c : Cn) : Int := match c.l with
  | [] => c.place - 1
  | p :: _ => p.seq - 1

/-- What is right of a consumer. -/
structure Ok (k : Nat) (c : Cn) : Prop where
  rise : c.l.Pairwise fun a b => a.seq < b.seq
  in_ : ∀ p ∈ c.l, (1 ≤ p.seq ∧ p.seq < c.place) ∧ (1 ≤ p.nth ∧ p.nth ≤ k) ∧ (0 ≤ p.due ∧ p.due ≤ far + 200000)
  place : 1 ≤ c.place ∧ c.place ≤ far + 1
  count : 0 ≤ c.count ∧ c.count ≤ k
  len : (c.l.length : Int) ≤ c.count

theorem wait_range {t : TakerP} (h : errT t = 0) (n : Int) : 0 ≤ waitT t n ∧ waitT t n ≤ 100000 := by
  obtain ⟨_, _, _, h4⟩ := errT_facts h
  obtain ⟨_, _, _, _, h5, _, _, _, _, h6⟩ := argsOk_facts h4
  unfold waitT
  split
  · exact h5
  · rename_i h0
    have := h6 (backI t n) (by unfold backI; omega)
    omega

theorem find_eq {α : Type} (f : α → Bool) : ∀ {l : List α} {i : Nat}, l.findIdx? f = some i → ∃ p, l[i]? = some p ∧ f p = true ∧ ∀ j q, j < i → l[j]? = some q → f q = false
  | [], i, h => by simp at h
  | a :: l, i, h => by
    rw [List.findIdx?_cons] at h
    split at h
    · rename_i ha
      simp at h; subst h
      exact ⟨a, rfl, ha, fun j q hj => by omega⟩
    · rename_i ha
      cases hf : l.findIdx? f with
      | none => rw [hf] at h; simp at h
      | some k =>
        rw [hf] at h; simp at h; subst h
        obtain ⟨p, h1, h2, h3⟩ := find_eq f hf
        refine ⟨p, by simpa using h1, h2, fun j q hj hq => ?_⟩
        cases j with
        | zero => simp at hq; subst hq; simpa using ha
        | succ j => exact h3 j q (by omega) (by simpa using hq)

theorem find_at {α : Type} (f : α → Bool) {l : List α} {i : Nat} {p : α} (hp : l[i]? = some p) (hf : f p = true) (hb : ∀ x ∈ l.take i, f x = false) : l.findIdx? f = some i := by
  induction l generalizing i with
  | nil => simp at hp
  | cons a l ih =>
    rw [List.findIdx?_cons]
    cases i with
    | zero => simp at hp; subst hp; rw [if_pos hf]
    | succ i =>
      rw [if_neg (by rw [hb a (by simp)]; simp), ih (by simpa using hp) fun x hx => hb x (by simp [hx])]
      rfl

theorem find_no {α : Type} (f : α → Bool) {l : List α} (h : ∀ x ∈ l, f x = false) : l.findIdx? f = none := by
  rw [List.findIdx?_eq_none_iff]; exact h

theorem again_len (t : TakerP) (L : List Rc) (now : Int) : ∀ l : List Pd, (againP t L now l).1.length ≤ l.length
  | [] => Nat.le_refl _
  | p :: r => by
    have ih := again_len t L now r
    unfold againP
    split
    · simp; exact ih
    · split
      · simp; omega
      · split
        · simp; omega
        · simp

/-- What comes of the list: parts of it, and one that is turned. -/
theorem again_mem (t : TakerP) (L : List Rc) (now : Int) : ∀ l : List Pd, ∀ p ∈ (againP t L now l).1, p ∈ l ∨ ∃ q ∈ l, p = ⟨q.seq, q.nth + 1, now + waitT t (q.nth + 1)⟩
  | [], p, h => by simp [againP] at h
  | a :: r, p, h => by
    have ih := again_mem t L now r
    unfold againP at h
    split at h
    · rcases List.mem_cons.1 h with rfl | h
      · exact .inl (by simp)
      · rcases ih p h with h | ⟨q, hq, e⟩
        · exact .inl (by simp [h])
        · exact .inr ⟨q, by simp [hq], e⟩
    · have hrec : p ∈ (againP t L now r).1 → p ∈ a :: r ∨ ∃ q ∈ a :: r, p = ⟨q.seq, q.nth + 1, now + waitT t (q.nth + 1)⟩ := fun h => by
        rcases ih p h with h | ⟨q, hq, e⟩
        · exact .inl (by simp [h])
        · exact .inr ⟨q, by simp [hq], e⟩
      split at h
      · exact hrec h
      · split at h
        · exact hrec h
        · rcases List.mem_cons.1 h with rfl | h
          · exact .inr ⟨a, by simp, rfl⟩
          · exact .inl (by simp [h])

theorem again_seqs (t : TakerP) (L : List Rc) (now : Int) : ∀ l : List Pd, ((againP t L now l).1.map (·.seq)).Sublist (l.map (·.seq))
  | [] => List.Sublist.refl _
  | a :: r => by
    have ih := again_seqs t L now r
    unfold againP
    split
    · simpa using ih.cons_cons a.seq
    · split
      · exact ih.cons a.seq
      · split
        · exact ih.cons a.seq
        · simp

/-- What is told again: it is in the list, turned; the message is there. -/
theorem again_some {t : TakerP} {L : List Rc} {now : Int} : ∀ {l : List Pd} {l2 : List Pd} {p : Pd} {x : Rc}, againP t L now l = (l2, some (p, x)) →
    p ∈ l2 ∧ getQ L p.seq = some x ∧ ∃ q ∈ l, p = ⟨q.seq, q.nth + 1, now + waitT t (q.nth + 1)⟩ ∧ q.due ≤ now ∧ (0 < t.most → q.nth < t.most)
  | [], l2, p, x, h => by simp [againP] at h
  | a :: r, l2, p, x, h => by
    unfold againP at h
    split at h
    · simp only [Prod.mk.injEq] at h
      obtain ⟨h1, h2⟩ := h
      obtain ⟨i1, i2, q, i3, i4⟩ := again_some (l := r) (l2 := (againP t L now r).1) (p := p) (x := x) (Prod.ext rfl h2)
      exact ⟨by rw [← h1]; simp [i1], i2, q, by simp [i3], i4⟩
    · rename_i hd
      have hrec : againP t L now r = (l2, some (p, x)) → p ∈ l2 ∧ getQ L p.seq = some x ∧ ∃ q ∈ a :: r, p = ⟨q.seq, q.nth + 1, now + waitT t (q.nth + 1)⟩ ∧ q.due ≤ now ∧ (0 < t.most → q.nth < t.most) := fun h => by
        obtain ⟨i1, i2, q, i3, i4⟩ := again_some h
        exact ⟨i1, i2, q, by simp [i3], i4⟩
      split at h
      · exact hrec h
      · rename_i y hy
        split at h
        · exact hrec h
        · rename_i hm
          simp only [Prod.mk.injEq, Option.some.injEq] at h
          obtain ⟨rfl, rfl, rfl⟩ := h
          exact ⟨by simp, hy, a, by simp, rfl, by omega, fun h0 => by
            rcases Int.lt_or_le a.nth t.most with h | h
            · exact h
            · exact absurd ⟨h0, h⟩ hm⟩

section
variable {t : TakerP} {L : List Rc} {last now : Int} {c : Cn} {k : Nat} {I : Idx.Ents}

theorem again_ok (ht : errT t = 0) (h : Ok k c) (hn : 0 ≤ now ∧ now ≤ far) : Ok (k + 1) ⟨c.place, c.count, (againP t L now c.l).1⟩ := by
  have hs := again_seqs t L now c.l
  refine ⟨?_, fun p hp => ?_, h.place, ⟨h.count.1, by have := h.count.2; show c.count ≤ _; omega⟩, ?_⟩
  · have h1 : ((c.l.map (·.seq))).Pairwise (· < ·) := List.pairwise_map.2 h.rise
    exact List.pairwise_map.1 (h1.sublist hs)
  · rcases again_mem t L now c.l p hp with h1 | ⟨q, h1, rfl⟩
    · obtain ⟨a, b, d⟩ := h.in_ p h1
      exact ⟨a, ⟨b.1, by omega⟩, d⟩
    · obtain ⟨a, b, d⟩ := h.in_ q h1
      have hw := wait_range ht (q.nth + 1)
      exact ⟨a, ⟨by show 1 ≤ q.nth + 1; omega, by show q.nth + 1 ≤ _; omega⟩, by show 0 ≤ now + waitT t (q.nth + 1); omega, by show now + waitT t (q.nth + 1) ≤ _; omega⟩
  · have h1 := again_len t L now c.l
    have h2 := h.len
    show ((againP t L now c.l).1.length : Int) ≤ c.count
    omega

theorem Ok.mono {m : Nat} (h : Ok k c) (hm : k ≤ m) : Ok m c :=
  ⟨h.rise, fun p hp => by obtain ⟨a, b, d⟩ := h.in_ p hp; exact ⟨a, ⟨b.1, by omega⟩, d⟩, h.place, ⟨h.count.1, by have := h.count.2; omega⟩, h.len⟩

theorem seq_pos (hR : Right L last I) : ∀ r ∈ L, 1 ≤ r.seq ∧ r.seq ≤ far := fun r hr =>
  ⟨(Rec.recErr_sizes (hR.good r hr).1).2.2.1, (Rec.recErr_sizes (hR.good r hr).1).2.2.2.1⟩

theorem fresh_ok (ht : errT t = 0) (hR : Right L last I) (h : Ok k c) (hn : 0 ≤ now ∧ now ≤ far) (hk : c.count < k) : Ok k (freshP t L now c).1 := by
  unfold freshP
  split
  · exact h
  · split
    · exact h
    · rename_i x hx
      have hm := List.mem_of_find?_eq_some hx
      have hw := List.find?_some hx
      unfold want at hw
      rw [Bool.and_eq_true, decide_eq_true_eq] at hw
      have hq := seq_pos hR x hm
      have hwt := wait_range ht 1
      have hpl := h.place
      have h1 : ∀ p ∈ c.l, p.seq < x.seq := fun p hp => by have := (h.in_ p hp).1.2; omega
      show Ok k ⟨x.seq + 1, c.count + 1, if t.ack = 0 then c.l else c.l ++ [⟨x.seq, 1, now + waitT t 1⟩]⟩
      have hcnt := h.count
      have hlen := h.len
      split
      · exact ⟨h.rise, fun p hp => by obtain ⟨a, b, d⟩ := h.in_ p hp; exact ⟨⟨a.1, by have := h1 p hp; show p.seq < x.seq + 1; omega⟩, b, d⟩, ⟨by show 1 ≤ x.seq + 1; omega, by show x.seq + 1 ≤ _; omega⟩, ⟨by show 0 ≤ c.count + 1; omega, by show c.count + 1 ≤ k; omega⟩, by show (c.l.length : Int) ≤ c.count + 1; omega⟩
      · refine ⟨?_, fun p hp => ?_, ⟨by show 1 ≤ x.seq + 1; omega, by show x.seq + 1 ≤ _; omega⟩, ⟨by show 0 ≤ c.count + 1; omega, by show c.count + 1 ≤ k; omega⟩, ?_⟩
        · show (c.l ++ [_]).Pairwise _
          rw [List.pairwise_append]
          refine ⟨h.rise, List.pairwise_singleton _ _, fun p hp y hy => ?_⟩
          simp at hy; subst hy
          exact h1 p hp
        · rcases List.mem_append.1 hp with hp | hp
          · obtain ⟨a, b, d⟩ := h.in_ p hp
            exact ⟨⟨a.1, by have := h1 p hp; show p.seq < x.seq + 1; omega⟩, b, d⟩
          · simp at hp; subst hp
            exact ⟨⟨by show 1 ≤ x.seq; omega, by show x.seq < x.seq + 1; omega⟩, ⟨by show (1 : Int) ≤ 1; omega, by show (1 : Int) ≤ k; omega⟩, by show 0 ≤ now + waitT t 1; omega, by show now + waitT t 1 ≤ _; omega⟩
        · show (((c.l ++ [_]).length : Nat) : Int) ≤ c.count + 1
          rw [List.length_append, List.length_singleton]; omega

theorem next_ok (ht : errT t = 0) (hR : Right L last I) (h : Ok k c) : Ok (k + 1) (nextP t L now c).1 := by
  unfold nextP
  split
  · exact h.mono (by omega)
  · rename_i hn
    have ha := again_ok (L := L) ht h (now := now) (by omega)
    have hc := h.count
    have hl := again_len t L now c.l
    split
    · rename_i l p x he
      rw [he] at ha hl
      exact ⟨ha.rise, ha.in_, ha.place, ⟨by show 0 ≤ c.count + 1; omega, by show c.count + 1 ≤ _; omega⟩, by have := h.len; show ((l.length : Nat) : Int) ≤ c.count + 1; simp only at hl; omega⟩
    · rename_i l he
      rw [he] at ha
      exact fresh_ok ht hR ha (by omega) (by show c.count < _; omega)

theorem idx_some {l : List Pd} {q : Int} {i : Nat} (h : idxP l q = some i) : ∃ p, l[i]? = some p ∧ p.seq = q := by
  obtain ⟨p, h1, h2, _⟩ := find_eq _ h
  exact ⟨p, h1, by simpa using h2⟩

theorem set_ok (h : Ok k c) {i : Nat} {p : Pd} (hp : c.l[i]? = some p) (d : Int) (hd : 0 ≤ d ∧ d ≤ far + 200000) : Ok k ⟨c.place, c.count, c.l.set i ⟨p.seq, p.nth, d⟩⟩ := by
  have hm := List.mem_of_getElem? hp
  refine ⟨?_, fun q hq => ?_, h.place, h.count, by rw [List.length_set]; exact h.len⟩
  · have e : (c.l.set i ⟨p.seq, p.nth, d⟩).map (·.seq) = c.l.map (·.seq) := by
      rw [List.map_set]
      apply List.ext_getElem?
      intro j
      rw [List.getElem?_set]
      split
      · rename_i hj
        subst hj
        obtain ⟨hi, e⟩ := List.getElem?_eq_some_iff.1 hp
        simp [hi, e]
      · rfl
    have h1 : ((c.l.map (·.seq))).Pairwise (· < ·) := List.pairwise_map.2 h.rise
    rw [← e] at h1
    exact List.pairwise_map.1 h1
  · rcases List.mem_or_eq_of_mem_set hq with hq | rfl
    · exact h.in_ q hq
    · obtain ⟨a, b, _⟩ := h.in_ p hm
      exact ⟨a, b, hd⟩

theorem sub_ok (h : Ok k c) {l : List Pd} (hs : l.Sublist c.l) : Ok k ⟨c.place, c.count, l⟩ :=
  ⟨h.rise.sublist hs, fun p hp => h.in_ p (hs.subset hp), h.place, h.count, by have := h.len; have := hs.length_le; show (l.length : Int) ≤ c.count; omega⟩

theorem answer_ok (ht : errT t = 0) (h : Ok k c) (now seq sort n : Int) : Ok k (answerP t now seq sort n c).1 := by
  unfold answerP
  split
  · exact h
  · rename_i hc
    have hmn : mostN sort ≤ 100000 := by unfold mostN; split <;> omega
    split
    · exact h
    · split
      · exact h
      · rename_i i _ p hp
        have hw := wait_range ht p.nth
        split
        · exact set_ok h hp _ (by omega)
        · split
          · exact set_ok h hp _ (by omega)
          · split
            · exact sub_ok h (List.drop_sublist _ _)
            · exact sub_ok h (List.eraseIdx_sublist _ _)

theorem new_ok (ht : errT t = 0) (hR : Right L last I) : Ok 0 (newP t L last) := by
  obtain ⟨_, _, _, h4⟩ := errT_facts ht
  obtain ⟨_, h5, _⟩ := argsOk_facts h4
  have hr := hR.range
  have hf : far = 1099511627776 := rfl
  refine ⟨List.Pairwise.nil, (fun p hp => by cases hp), ?_, ⟨Int.le_refl _, by simp [newP]⟩, by simp [newP]⟩
  show 1 ≤ startP t L last ∧ startP t L last ≤ far + 1
  unfold startP
  split
  · split
    · omega
    · rename_i x hx
      have := seq_pos hR x (List.mem_reverse.1 (List.mem_of_find?_eq_some hx))
      omega
  · split
    · omega
    · split
      · rename_i h3; have := h5 h3; omega
      · omega
end
end Go.Proofs.YtapmhpnkpjgefaaDoor.Con
