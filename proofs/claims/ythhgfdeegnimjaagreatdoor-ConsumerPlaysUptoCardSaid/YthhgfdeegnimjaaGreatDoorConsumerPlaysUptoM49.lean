/- Parts of the proof, joined: The reference's consumer: NewHand, walked.; (*Consumer).Info, walked.; The reference's consumer: Answer, walked.; A consumer at its store and the reference's hand at its chest, side by side in memory.; The reference's consumer: Info, walked.; stream.New, (*Stream).Plan, (*Consumer).Taker, walked: what they hold is a copy.; (*Consumer).Taker, walked: what is told is a copy. gen_owntaker.py wrote this text out of XOwnMake.; A slice of records among the parameters, opened.; Slices of turns among the parameters, opened. -/
import Derived.Test.YthhgfdeegnimjaaGreatDoorConsumerPlaysUptoM19
import Derived.Test.YthhgfdeegnimjaaGreatDoorConsumerPlaysUptoM29
import Derived.Test.YthhgfdeegnimjaaGreatDoorConsumerPlaysUptoM47
import Derived.Test.YthhgfdeegnimjaaGreatDoorConsumerPlaysUptoM48
import Derived.Test.YthhgfdeegnimjaaGreatDoorConsumerPlaysUptoM43
import Derived.Test.YthhgfdeegnimjaaGreatDoorConsumerPlaysUptoM15
import Derived.Test.YthhgfdeegnimjaaGreatDoorConsumerPlaysUptoM21
import Derived.Test.YthhgfdeegnimjaaGreatDoorConsumerPlaysUptoM22
import Derived.Test.YthhgfdeegnimjaaGreatDoorConsumerPlaysUptoM33
import Derived.Test.YthhgfdeegnimjaaGreatDoorConsumerPlaysUptoM40
import Derived.Test.YthhgfdeegnimjaaGreatDoorConsumerPlaysUptoM42
import Derived.Handy
import Derived.ChangeSlices
namespace Go.Proofs.YthhgfdeegnimjaaGreatDoor.Hnd
open Go.RowKit Heap Con
open Subj (Tok TakerP ML errT errT_facts argsOk_facts Ints)
open Sto (ChAt Right seekR tk recV parts sixC Parts set6 getQ get_ch GetPost twoC)
open Rec (Rc far)
open Idx (Ents)

section
variable {W w w1 : World} {C : Nat} {vC : Value} {L : List Rc} {last : Int} {t : TakerP} {vb : Value} {I : Ents}

theorem seekL_h (h : ChAt W C vC L last w) (hR : Right L last I) (ht : errT t = 0) :
    Calls Tryz.prog 64 #[.pointer (some ⟨C, 0, none⟩), .string ⟨t.filt.toArray⟩, .int .i64 0, .bool true] w fun e w' => e = .returned (.tuple #[recV (seekR 0 (L.reverse.find? (tk t.filt))).1, .int .i64 ((seekR 0 (L.reverse.find? (tk t.filt))).2 : Nat)]) ∧ Below w.heap.size w w' := by
  have hf := filt_len ht
  have h1 := Sto.seek_ch h hR ⟨t.filt.toArray⟩ (by show t.filt.toArray.size ≤ _; simp; omega) 0 true
  rw [str_of, (errT_facts ht).2.1] at h1
  have e : (Sto.order true L).find? (Sto.pk t.filt 0) = L.reverse.find? (tk t.filt) := by
    show L.reverse.find? (Sto.pk t.filt 0) = _
    have hq := seq_pos hR
    have : ∀ M : List Rc, (∀ r ∈ M, 1 ≤ r.seq) → M.find? (Sto.pk t.filt 0) = M.find? (tk t.filt) := by
      intro M
      induction M with
      | nil => intro _; rfl
      | cons a l ih =>
        intro hM
        rw [List.find?_cons, List.find?_cons, ih fun r hr => hM r (by simp [hr])]
        have : Sto.pk t.filt 0 a = tk t.filt a := by unfold Sto.pk; rw [decide_eq_true (by have := hM a (by simp); omega), Bool.true_and]
        rw [this]
    exact this _ fun r hr => (hq r (List.mem_reverse.1 hr)).1
  rw [e] at h1
  exact h1

set_option maxHeartbeats 4000000 in
set_option maxRecDepth 100000 in
theorem newHand_any (h : ChAt W C vC L last w) (hR : Right L last I) (ht : errT t = 0) (hB : Ints w vb t.back) (hvb : ∀ k, own vb k → k < w.heap.size) :
    Calls Tryz.prog 13 #[takerV t vb, .pointer (some ⟨C, 0, none⟩)] w fun e w' => ∃ K, e = .returned (.pointer (some ⟨K, 0, none⟩)) ∧ CAt th tq W K t vb (.slice none 0 0) (newP t L last) w' ∧ w.heap.size ≤ K ∧ Below w.heap.size w w' := by
  have hfar : far = 1099511627776 := rfl
  have hlr := hR.range
  obtain ⟨nm, hnme⟩ : ∃ nm : ByteArray, (⟨t.name.toArray⟩ : ByteArray) = nm := ⟨_, rfl⟩
  obtain ⟨fl, hfle⟩ : ∃ fl : ByteArray, (⟨t.filt.toArray⟩ : ByteArray) = fl := ⟨_, rfl⟩
  unfold takerV
  rw [hnme, hfle]
  obtain ⟨w1, hw1⟩ : ∃ w1, w1 = w.alloc (.cells #[.string nm, .string fl, .int .i64 t.src, .int .i64 t.start, .int .i64 t.ack, .int .i64 t.wait, vb, .int .i64 t.most, .int .i64 t.pend, .bool t.push] 24) := ⟨_, rfl⟩
  have hb1 : Below w.heap.size w w1 := by rw [hw1]; exact (Below.refl _ _).alloc (Nat.le_refl _) _
  have he1 : w1.heap[w.heap.size]? = some (.cells #[.string nm, .string fl, .int .i64 t.src, .int .i64 t.start, .int .i64 t.ack, .int .i64 t.wait, vb, .int .i64 t.most, .int .i64 t.pend, .bool t.push] 24 (0, 0)) := by rw [hw1]; exact heap_alloc_new w _
  obtain ⟨bx, hbx⟩ : ∃ bx, w.heap.size = bx := ⟨_, rfl⟩
  rw [hbx] at he1
  obtain ⟨w5, hw5⟩ : ∃ w5, w5 = w1.alloc (.cells #[.string nm, .string fl, .int .i64 t.src, .int .i64 t.start, .int .i64 t.ack, .int .i64 t.wait, vb, .int .i64 t.most, .int .i64 t.pend, .bool t.push, .int .i64 1, .int .i64 0, .slice none 0 0] 144) := ⟨_, rfl⟩
  have hb5 : Below w1.heap.size w1 w5 := by rw [hw5]; exact (Below.refl _ _).alloc (Nat.le_refl _) _
  have hk5 : w5.heap[w1.heap.size]? = some (.cells #[.string nm, .string fl, .int .i64 t.src, .int .i64 t.start, .int .i64 t.ack, .int .i64 t.wait, vb, .int .i64 t.most, .int .i64 t.pend, .bool t.push, .int .i64 1, .int .i64 0, .slice none 0 0] 144 (0, 0)) := by rw [hw5]; exact heap_alloc_new w1 _
  obtain ⟨K, hKe⟩ : ∃ K, w1.heap.size = K := ⟨_, rfl⟩
  rw [hKe] at hk5
  have hbw5 := hb1.trans (hb5.mono hb1.size)
  have hKb : bx < K := by have := heap_lt he1; omega
  have hc5 : CAt th tq W K t vb (.slice none 0 0) ⟨1, 0, []⟩ w5 := by
    refine ⟨?_, Row.nil _ _ _, hB.below hbw5, ?_, fun k hk => by simp [own, Value.ownBlock] at hk, fun k hk => ⟨?_, ?_, by simp [own, Value.ownBlock]⟩, h.below.trans (hbw5.mono h.below.size)⟩
    · unfold conC; rw [hnme, hfle]; exact hk5
    · have := h.below.size; omega
    · have := hvb k hk; have := hbw5.size; omega
    · have := hvb k hk; omega
  have hh5 := h.next hbw5
  have he5 := (hb5.block bx (heap_lt he1)).trans he1
  have hC5 := heap_lt h.cell
  have HKW := Lib.hid (show w.heap.size ≤ K ∧ bx < K ∧ C ≠ K from ⟨by omega, hKb, by omega⟩)
  have hsk := seekL_h (h.next hbw5) hR ht
  rw [hfle] at hsk
  have HSK := Lib.hid (fun w' (hb : Below w5.heap.size w5 w') => by have := seekL_h (hh5.next hb) hR ht; rw [hfle] at this; exact this)
  have HC5 := Lib.hid hc5; have HB5 := Lib.hid hbw5; have HE5 := Lib.hid he5; have HE1 := Lib.hid he1; have HH5 := Lib.hid hh5; have HNM := Lib.hid hnme; have HFL := Lib.hid hfle; have HBX := Lib.hid hbx; have HKE := Lib.hid hKe
  have hsr := (argsOk_facts (errT_facts ht).2.2.2).1
  have HSR3 := Lib.hid ht; have HRT := Lib.hid hR
  have HNK := Lib.hid (show ¬ own vC K from fun e => by have := h.row.lt K e; omega)
  clear h hR ht hB hvb hb1 hb5 hk5 hbw5 hc5 hh5 he5 hsk hnme hfle hbx hKe hKb hC5
  obtain ⟨q0, q1, q2, q3, q4, q5, q6, q7, q8, q9, qf⟩ := tenC he1
  have hbl := heap_lt he1
  clear he1
  go_enter Tryz.func13, Tryz.ntmps13
  go_upto_region 1 with fail
  rw [← hw1, HBX.out]
  clear hw1
  go_upto_region 2 with fail
  rw [← hw5, HKE.out]
  clear hw5 q0 q1 q2 q3 q4 q5 q6 q7 q8 q9 qf hbl
  obtain ⟨q0, q1, q2, q3, q4, q5, q6, q7, q8, q9, qf⟩ := tenC HE5.out
  have hbl := heap_lt HE5.out
  rcases (show t.src = 3 ∨ t.src = 2 ∨ t.src = 1 ∨ t.src = 0 from by omega) with hs | hs | hs | hs
  · rw [hs] at q2
    have h7 := setPlace_h HC5.out t.start
    obtain ⟨_, _, _, _, _, _, _, _, _, _, c10, _, _, cf⟩ := HC5.out.cells
    have hlt5 := heap_lt HC5.out.cell
    have HFI := Lib.hid (show CAt th tq W K t vb (.slice none 0 0) (newP t L last) (w5.setCell ⟨K, 10, none⟩ (.int .i64 t.start)) ∧ Below w.heap.size w (w5.setCell ⟨K, 10, none⟩ (.int .i64 t.start)) from by
      have e : newP t L last = ⟨t.start, 0, []⟩ := by unfold newP startP; rw [if_neg (by omega), if_neg (by omega), if_pos hs]
      rw [e]
      exact ⟨h7.1, HB5.out.setCell (p := ⟨K, 10, none⟩) HKW.out.1 _⟩)
    clear h7 hs
    go_wp2_with fail
    go_ret
    exact ⟨K, rfl, HFI.out.1, HKW.out.1, HFI.out.2⟩
  · rw [hs] at q2
    have h7 := setPlace_h HC5.out (last + 1)
    obtain ⟨_, _, _, _, _, _, _, _, _, _, c10, _, _, cf⟩ := HC5.out.cells
    have hlt5 := heap_lt HC5.out.cell
    have hwl : IntKind.i64.wrap (last + 1) = last + 1 := IntWalk.i64_in _ (by omega)
    obtain ⟨_, s1, _⟩ := twoC HH5.out.cell
    have hcl := heap_lt HH5.out.cell
    have HFI := Lib.hid (show CAt th tq W K t vb (.slice none 0 0) (newP t L last) (w5.setCell ⟨K, 10, none⟩ (.int .i64 (last + 1))) ∧ Below w.heap.size w (w5.setCell ⟨K, 10, none⟩ (.int .i64 (last + 1))) from by
      have e : newP t L last = ⟨last + 1, 0, []⟩ := by unfold newP startP; rw [if_neg (by omega), if_pos hs]
      rw [e]
      exact ⟨h7.1, HB5.out.setCell (p := ⟨K, 10, none⟩) HKW.out.1 _⟩)
    clear h7 hs
    go_wp2_with fail
    go_ret
    exact ⟨K, rfl, HFI.out.1, HKW.out.1, HFI.out.2⟩
  · rw [hs] at q2
    have HSRC := Lib.hid hs
    have h7 := setPlace_h HC5.out (last + 1)
    obtain ⟨_, _, _, _, _, _, _, _, _, _, c10, _, _, cf⟩ := HC5.out.cells
    have hlt5 := heap_lt HC5.out.cell
    have hwl : IntKind.i64.wrap (last + 1) = last + 1 := IntWalk.i64_in _ (by omega)
    obtain ⟨_, s1, _⟩ := twoC HH5.out.cell
    have hcl := heap_lt HH5.out.cell
    obtain ⟨w7, hw7⟩ : ∃ w7, w7 = w5.setCell ⟨K, 10, none⟩ (.int .i64 (last + 1)) := ⟨_, rfl⟩
    rw [← hw7] at h7
    have HB7 := Lib.hid (show Below w.heap.size w w7 from by rw [hw7]; exact HB5.out.setCell (p := ⟨K, 10, none⟩) HKW.out.1 _)
    have he7 := (h7.2.block bx (heap_lt HE5.out) (fun e => by
      rcases e with e | e
      · have := HKW.out.2.1; omega
      · simp [own, Value.ownBlock] at e)).trans HE5.out
    have hC7 : ChAt W C vC L last w7 := ⟨(h7.2.block C (heap_lt HH5.out.cell) (fun e => by
      rcases e with e | e
      · exact HKW.out.2.2 e
      · simp [own, Value.ownBlock] at e)).trans HH5.out.cell, HH5.out.row.kept fun k hk hlt => h7.2.block k hlt fun e => by
        rcases e with rfl | e
        · exact HNK.out hk
        · simp [own, Value.ownBlock] at e, HH5.out.old, HH5.out.mine, h7.1.below⟩
    have hla := seekL_h hC7 HRT.out HSR3.out
    rw [HFL.out] at hla
    obtain ⟨lo, hlo⟩ : ∃ lo, L.reverse.find? (tk t.filt) = lo := ⟨_, rfl⟩
    rw [hlo] at hla
    obtain ⟨sr, hsr2⟩ : ∃ sr, seekR 0 lo = sr := ⟨_, rfl⟩
    rw [hsr2] at hla
    obtain ⟨s, hd, d, hpp⟩ := parts sr.1
    unfold Sto.recV at hla
    rw [hpp.s1, hpp.h1, hpp.d1] at hla
    obtain ⟨rx, ee⟩ := sr
    simp only at hla hpp
    have HLA := Lib.hid hla; have HLO := Lib.hid hlo; have HSR := Lib.hid hsr2; have HC7 := Lib.hid h7.1; have HE7 := Lib.hid he7
    clear hC7 h7 he7 hla hlo hsr2 hpp hs
    go_upto_region 9 with fail
    rw [← hw7]
    clear hw7 c10 cf hlt5 q0 q1 q2 q3 q4 q5 q6 q7 q8 q9 qf s1 hcl hbl
    obtain ⟨q0, q1, q2, q3, q4, q5, q6, q7, q8, q9, qf⟩ := tenC HE7.out
    have hbl := heap_lt HE7.out
    go_wp2_with fail
    refine HLA.out.mono ?_
    rintro e w8 ⟨rfl, hb8⟩
    obtain ⟨w9, hw9⟩ : ∃ w9, w9 = w8.alloc (.cells #[.int .i64 rx.kind, .int .i64 rx.seq, .int .i64 rx.time, .string s, .string hd, .string d] 33) := ⟨_, rfl⟩
    have hb9 : Below w8.heap.size w8 w9 := by rw [hw9]; exact (Below.refl _ _).alloc (Nat.le_refl _) _
    have he9 : w9.heap[w8.heap.size]? = some (.cells #[.int .i64 rx.kind, .int .i64 rx.seq, .int .i64 rx.time, .string s, .string hd, .string d] 33 (0, 0)) := by rw [hw9]; exact heap_alloc_new w8 _
    obtain ⟨br, hbr⟩ : ∃ br, w8.heap.size = br := ⟨_, rfl⟩
    rw [hbr] at he9
    have hbb := hb8.trans (hb9.mono hb8.size)
    have h9 := HC7.out.next hbb
    have HB9 := Lib.hid (HB7.out.trans (hbb.mono HB7.out.size))
    have HBR := Lib.hid hbr; have HC9 := Lib.hid h9
    obtain ⟨r0, r1, r2, r3, r4, r5⟩ := sixC he9
    have hbrl := heap_lt he9
    clear hb8 hb9 he9 hbr hbb h9 HLA q0 q1 q2 q3 q4 q5 q6 q7 q8 q9 qf hbl
    obtain ⟨_, _, _, _, _, _, _, _, _, _, c10, _, _, cf⟩ := HC9.out.cells
    have hlt9 := heap_lt HC9.out.cell
    go_upto_region 10 with fail
    rw [← hw9, HBR.out]
    clear hw9
    by_cases hee : ee = 0
    · subst hee
      have hlo2 : lo = some rx := by
        cases hl : lo with
        | none => have h := HSR.out; rw [hl, show seekR 0 (none : Option Rc) = (Rc.zero, 4) from rfl] at h; simp only [Prod.mk.injEq] at h; omega
        | some x => have h := HSR.out; rw [hl, show seekR 0 (some x) = (x, 0) from rfl] at h; simp only [Prod.mk.injEq] at h; rw [h.1]
      have HL2 := Lib.hid (HLO.out.trans hlo2)
      clear hlo2
      have h10 := setPlace_h HC9.out rx.seq
      have HFI := Lib.hid (show CAt th tq W K t vb (.slice none 0 0) (newP t L last) (w9.setCell ⟨K, 10, none⟩ (.int .i64 rx.seq)) ∧ Below w.heap.size w (w9.setCell ⟨K, 10, none⟩ (.int .i64 rx.seq)) from by
        have e : newP t L last = ⟨rx.seq, 0, []⟩ := by unfold newP startP; rw [if_pos HSRC.out, HL2.out]
        rw [e]
        exact ⟨h10.1, HB9.out.setCell (p := ⟨K, 10, none⟩) HKW.out.1 _⟩)
      clear h10
      go_wp2_with fail
      go_ret
      exact ⟨K, rfl, HFI.out.1, HKW.out.1, HFI.out.2⟩
    · have hee1 : ((ee : Int) == 0) = false := by simpa using hee
      have hlo2 : lo = none := by
        cases hl : lo with
        | none => rfl
        | some x => have h := HSR.out; rw [hl, show seekR 0 (some x) = (x, 0) from rfl] at h; simp only [Prod.mk.injEq] at h; exact absurd h.2.symm hee
      have HL2 := Lib.hid (HLO.out.trans hlo2)
      clear hlo2 hee
      have HFI := Lib.hid (show CAt th tq W K t vb (.slice none 0 0) (newP t L last) w9 from by
        have h := HC9.out
        have e : newP t L last = ⟨last + 1, 0, []⟩ := by unfold newP startP; rw [if_pos HSRC.out, HL2.out]
        rw [e]; exact h)
      go_wp2_with fail
      go_ret
      exact ⟨K, rfl, HFI.out, HKW.out.1, HB9.out⟩
  · rw [hs] at q2
    have HFI := Lib.hid (show CAt th tq W K t vb (.slice none 0 0) (newP t L last) w5 from by
      have e : newP t L last = ⟨1, 0, []⟩ := by unfold newP startP; rw [if_neg (by omega), if_neg (by omega), if_neg (by omega)]
      rw [e]; exact HC5.out)
    clear hs
    go_wp2_with fail
    go_ret
    exact ⟨K, rfl, HFI.out, HKW.out.1, HB5.out⟩
end
end Go.Proofs.YthhgfdeegnimjaaGreatDoor.Hnd

namespace Go.Proofs.YthhgfdeegnimjaaGreatDoor.Con
open Go.RowKit Heap
open Subj (Tok TakerP ML errT errT_facts)
open Sto (fourS set4)
open Rec (Rc far)

def infoV (c : Cn) : Value := .agg #[.int .i64 (floorP c), .int .i64 (c.place - 1), .int .i64 c.count, .int .i64 (c.l.length : Nat)]

theorem res_info {fn : Func} (hf : fn.results = #[.cell 2 55]) (tmps : Array Value) (w : World) (R : Nat) {a0 a1 a2 a3 : Value}
    (h2 : tmps.getD 2 undef = .pointer (some ⟨R, 0, none⟩)) (hR : w.heap[R]? = some (.cells #[a0, a1, a2, a3] 55 (0, 0))) :
    (results fn tmps).run Tryz.prog w = .ok (.agg #[a0, a1, a2, a3]) w := by
  obtain ⟨z0, z1, z2, z3, zf⟩ := fourS hR
  simp only [Array.getD_eq_getD_getElem?] at h2
  simp [results, hf, go_sem, h2, z0, z1, z2, z3]

section
variable {W w : World} {K k : Nat} {t : TakerP} {vb v : Value} {c : Cn}

set_option maxHeartbeats 2000000 in
set_option maxRecDepth 100000 in
theorem info_c (h : CAt tc tp W K t vb v c w) (hk : Ok k c) (_hkb : k ≤ 1000000) : Calls Tryz.prog 22 #[.pointer (some ⟨K, 0, none⟩)] w fun e w' => e = .returned (infoV c) ∧ Below w.heap.size w w' := by
  have hpl := hk.place
  have hcn := hk.count
  have hln := hk.len
  have hfar : far = 1099511627776 := rfl
  unfold infoV
  obtain ⟨fz, hfz⟩ : ∃ fz, floorP c = fz := ⟨_, rfl⟩
  obtain ⟨n, hn⟩ : ∃ n, c.l.length = n := ⟨_, rfl⟩
  rw [hfz, hn]
  rw [hn] at hln
  have HFZ := Lib.hid hfz
  have hrow := h.row
  rw [hn] at hrow
  obtain ⟨va, vc, rfl⟩ := hrow.slice
  obtain ⟨w0, hw0⟩ : ∃ w0, w0 = w.alloc (.cells #[.int .i64 0, .int .i64 0, .int .i64 0, .int .i64 0] 55) := ⟨_, rfl⟩
  have hb0 : Below w.heap.size w w0 := by rw [hw0]; exact (Below.refl _ _).alloc (Nat.le_refl _) _
  have hrs : w0.heap[w.heap.size]? = some (.cells #[.int .i64 0, .int .i64 0, .int .i64 0, .int .i64 0] 55 (0, 0)) := by rw [hw0]; exact heap_alloc_new w _
  obtain ⟨rb, hrb⟩ : ∃ rb, w.heap.size = rb := ⟨_, rfl⟩
  rw [hrb] at hrs
  have h0 := h.next hb0
  obtain ⟨_, _, _, _, _, _, _, _, _, _, d10, d11, d12, df⟩ := h0.cells
  have hlt0 := heap_lt h0.cell
  have hKw := heap_lt h.cell
  have HH := Lib.hid h0; have HB0 := Lib.hid hb0; have HRS := Lib.hid hrs; have HRB := Lib.hid hrb; have HN := Lib.hid hn; have HK := Lib.hid hk
  have hn1 : w0.heap.size ≠ K := by omega
  have hw1 : IntKind.i64.wrap (c.place - 1) = c.place - 1 := IntWalk.i64_in _ (by omega)
  clear h hk hrow h0 hb0 hrs hrb hfz hn
  go_enter Tryz.func22, Tryz.ntmps22
  go_upto_region 1 with fail
  rw [← hw0, HRB.out]
  clear hw0
  go_region_held3 (fun w' => w'.cell? ⟨K, 10, none⟩ = some (.int .i64 c.place) ∧ w'.cell? ⟨K, 11, none⟩ = some (.int .i64 c.count) ∧ w'.cell? ⟨K, 12, none⟩ = some (.slice va n vc)) (first | (with_reducible exact ⟨d10, d11, d12⟩) | go_keep) (fail)
  rename_i hheld
  clear hheld
  obtain ⟨w3, hw3⟩ : ∃ w3, w3 = (w0.alloc (.cells #[.int .i64 (c.place - 1), .int .i64 (c.place - 1), .int .i64 c.count, .int .i64 (n : Nat)] 55)).drew := ⟨_, rfl⟩
  have hb3 : Below w0.heap.size w0 w3 := by rw [hw3]; exact ((Below.refl _ _).alloc (Nat.le_refl _) _).drew
  have hs3 : w3.heap[w0.heap.size]? = some (.cells #[.int .i64 (c.place - 1), .int .i64 (c.place - 1), .int .i64 c.count, .int .i64 (n : Nat)] 55 (0, 0)) := by rw [hw3]; exact heap_alloc_new w0 _
  rw [← hw3]
  have h3 := HH.out.next hb3
  have hrs3 := (hb3.block rb (heap_lt HRS.out)).trans HRS.out
  have hrbl : rb < w0.heap.size := heap_lt HRS.out
  obtain ⟨sb, hsb⟩ : ∃ sb, w0.heap.size = sb := ⟨_, rfl⟩
  have hrow3 := h3.row
  rw [HN.out] at hrow3
  obtain ⟨_, _, _, _, _, _, _, _, _, _, c10, c11, c12, cf⟩ := h3.cells
  have hlt := heap_lt h3.cell
  have hwb := Lib.hid (HB0.out.trans (hb3.mono HB0.out.size))
  rw [hsb] at hs3 hrbl ⊢
  have hsw : w.heap.size ≤ sb := by have := HRB.out; omega
  obtain ⟨x0, x1, x2, x3, xf⟩ := fourS hs3
  obtain ⟨y0, y1, y2, y3, yf⟩ := fourS hrs3
  have hsl := heap_lt hs3
  have hrl := heap_lt hrs3
  have HS3 := Lib.hid hs3; have HR3 := Lib.hid hrs3
  clear hw3 hb3 hs3 h3 hrs3 hsb d10 d11 d12 df hlt0 hn1
  by_cases hn0 : n = 0
  · subst hn0
    have hL : c.l = [] := List.eq_nil_of_length_eq_zero HN.out
    obtain rfl : fz = c.place - 1 := by rw [← HFZ.out]; unfold floorP; rw [hL]
    clear hrow3 hL
    have HF := Lib.hid (show Below w.heap.size w ((((w3.setCell ⟨rb, 0, none⟩ (.int .i64 (c.place - 1))).setCell ⟨rb, 1, none⟩ (.int .i64 (c.place - 1))).setCell ⟨rb, 2, none⟩ (.int .i64 c.count)).setCell ⟨rb, 3, none⟩ (.int .i64 0)) from
      ((((hwb.out.setCell (by have := HRB.out; simp only; omega) _).setCell (by have := HRB.out; simp only; omega) _).setCell (by have := HRB.out; simp only; omega) _).setCell (by have := HRB.out; simp only; omega) _))
    have HR4 := Lib.hid (set4 (.int .i64 (c.place - 1)) (.int .i64 (c.place - 1)) (.int .i64 c.count) (.int .i64 0) HR3.out)
    go_wp2_with fail
    refine bodyPost_ret (v := .agg #[.int .i64 (c.place - 1), .int .i64 (c.place - 1), .int .i64 c.count, .int .i64 0]) (res_info Tryz.results22 _ _ rb rfl HR4.out) rfl ?_
    exact ⟨rfl, HF.out⟩
  · obtain ⟨p, hp⟩ : ∃ p, c.l[0]? = some p := ⟨_, List.getElem?_eq_getElem (by rw [HN.out]; omega)⟩
    have hz : fz = p.seq - 1 := by
      rw [← HFZ.out]
      unfold floorP
      cases hcl : c.l with
      | nil => rw [hcl] at hp; simp at hp
      | cons a r => rw [hcl] at hp; simp at hp; subst hp; rfl
    have hps := (HK.out.in_ p (List.mem_of_getElem? hp)).1
    rcases hrow3.2 with ⟨_, h0⟩ | ⟨g, off, cap, cur, ev, _⟩
    · omega
    simp only [Value.slice.injEq, true_and] at ev
    obtain ⟨rfl, rfl⟩ := ev
    obtain ⟨m0, _, _, _, _⟩ := cells_pd hrow3 0 p hp (by omega)
    simp only [Nat.zero_mul, Nat.add_zero] at m0
    have hw2 : IntKind.i64.wrap (p.seq - 1) = p.seq - 1 := IntWalk.i64_in _ (by omega)
    have hnz : (0 : Int) < n := by omega
    have hn0' : 0 < n := by omega
    have hsr : rb ≠ sb := by omega
    have HZ := Lib.hid hz
    have h5 := Lib.hid (heap_setCell_same w3 sb 0 _ _ (.int .i64 (p.seq - 1)) HS3.out)
    have h6 := (heap_setCell_other w3 ⟨sb, 0, none⟩ rb (.int .i64 (p.seq - 1)) hsr).trans HR3.out
    have HR4 := Lib.hid (set4 (.int .i64 (p.seq - 1)) (.int .i64 (c.place - 1)) (.int .i64 c.count) (.int .i64 (n : Nat)) h6)
    have HF := Lib.hid (show Below w.heap.size w (((((w3.setCell ⟨sb, 0, none⟩ (.int .i64 (p.seq - 1))).setCell ⟨rb, 0, none⟩ (.int .i64 (p.seq - 1))).setCell ⟨rb, 1, none⟩ (.int .i64 (c.place - 1))).setCell ⟨rb, 2, none⟩ (.int .i64 c.count)).setCell ⟨rb, 3, none⟩ (.int .i64 (n : Nat))) from
      (((((hwb.out.setCell (by simp only; omega) _).setCell (by have := HRB.out; simp only; omega) _).setCell (by have := HRB.out; simp only; omega) _).setCell (by have := HRB.out; simp only; omega) _).setCell (by have := HRB.out; simp only; omega) _))
    clear hrow3 hp hz h6
    go_wp2_with fail
    refine bodyPost_ret (v := .agg #[.int .i64 (p.seq - 1), .int .i64 (c.place - 1), .int .i64 c.count, .int .i64 (n : Nat)]) (res_info Tryz.results22 _ _ rb rfl HR4.out) rfl ?_
    exact ⟨by rw [HZ.out], HF.out⟩
end
end Go.Proofs.YthhgfdeegnimjaaGreatDoor.Con

namespace Go.Proofs.YthhgfdeegnimjaaGreatDoor.Hnd
open Go.RowKit Heap Con
open Subj (Tok TakerP ML errT errT_facts)
open Rec (Rc far)

section
variable {W w w1 : World} {K k : Nat} {t : TakerP} {vb v v1 : Value} {c c1 c2 : Cn}

theorem next_trans (_h1 : CAt th tq W K t vb v1 c1 w1) (t1 : Heap.Touch (fun k => k = K ∨ own v k) w w1) (o1 : ∀ k, own v1 k → own v k ∨ w.heap.size ≤ k) {w2 : World} (h : NextC th tq W K t vb v1 w1 c2 w2) : NextC th tq W K t vb v w c2 w2 := by
  obtain ⟨v2, h2, t2, o2⟩ := h
  refine ⟨v2, h2, t1.trans t2 (fun k hk e => ?_), fun k hk => ?_⟩
  · rcases e with e | e
    · exact .inl e
    · rcases o1 k e with e | e
      · exact .inr e
      · omega
  · rcases o2 k hk with e | e
    · exact o1 k e
    · right; have := t1.size; omega

/-- What is left behind j of them goes on rising. -/
theorem out_drop {l : List Pd} {j : Nat} {a : Pd} (h : l.Pairwise fun a b => a.seq < b.seq) (ha : l[j]? = some a) : outL (l.drop j) a.seq = l.drop (j + 1) := by
  obtain ⟨hj, e⟩ := List.getElem?_eq_some_iff.1 ha
  rw [List.drop_eq_getElem_cons hj, e]
  have h2 : (l.drop j).Pairwise fun a b => a.seq < b.seq := h.sublist (List.drop_sublist _ _)
  rw [List.drop_eq_getElem_cons hj, e] at h2
  exact outL_head h2

def AnswerPostH (W : World) (K : Nat) (t : TakerP) (vb v : Value) (w : World) (o : Cn × Nat) (e : Ending) (w' : World) : Prop :=
  e = .returned (.int .i64 (o.2 : Nat)) ∧ NextC th tq W K t vb v w o.1 w'

set_option maxHeartbeats 8000000 in
set_option maxRecDepth 100000 in
theorem answer_h (h : CAt th tq W K t vb v c w) (hk : Ok k c) (_hkb : k ≤ 90000) (hfew : c.l.length ≤ 900) (ht : errT t = 0) (now seq sort n : Int) :
    Calls Tryz.prog 17 #[.pointer (some ⟨K, 0, none⟩), .int .i64 now, .int .i64 seq, .agg #[.int .i64 sort, .int .i64 n]] w (AnswerPostH W K t vb v w (answerP t now seq sort n c)) := by
  have hcnt := hk.count
  have hlen := hk.len
  have hfar : far = 1099511627776 := rfl
  obtain ⟨O, hO⟩ : ∃ O, answerP t now seq sort n c = O := ⟨_, rfl⟩
  rw [hO]
  unfold answerP at hO
  obtain ⟨w1, hw1⟩ : ∃ w1, w1 = w.alloc (.cells #[.int .i64 sort, .int .i64 n] 43) := ⟨_, rfl⟩
  have hb1 : Below w.heap.size w w1 := by rw [hw1]; exact (Below.refl _ _).alloc (Nat.le_refl _) _
  have he1 : w1.heap[w.heap.size]? = some (.cells #[.int .i64 sort, .int .i64 n] 43 (0, 0)) := by rw [hw1]; exact heap_alloc_new w _
  obtain ⟨bx, hbx⟩ : ∃ bx, w.heap.size = bx := ⟨_, rfl⟩
  rw [hbx] at he1
  obtain ⟨q0, q1⟩ := twoA he1
  obtain ⟨mo, hmo⟩ : ∃ mo, mostN sort = mo := ⟨_, rfl⟩
  have hmb : 0 ≤ mo ∧ mo ≤ 100000 := by rw [← hmo]; unfold mostN; split <;> omega
  rw [hmo] at hO
  have hal : c.l.length ≤ 900 := hfew
  have HH := Lib.hid (h.next hb1); have HB1 := Lib.hid hb1; have HE1 := Lib.hid he1; have HBX := Lib.hid hbx; have HK := Lib.hid hk; have HT := Lib.hid ht; have HMO := Lib.hid hmo
  have HFD := Lib.hid (waits_h (h.next hb1) (by omega) seq)
  clear h hk hb1 he1 hbx ht hmo
  go_enter Tryz.func17, Tryz.ntmps17
  go_upto_region 1 with fail
  rw [← hw1, HBX.out]
  clear hw1
  go_upto_if 13 with fail
  go_cut [9] from 9 to 9 (fun s9 wx => s9 = .int .i64 mo ∧ w1 = wx)
  case first =>
    have hmo := HMO.out
    unfold mostN at hmo
    by_cases h2 : sort = 2
    · rw [if_pos h2] at hmo
      have h3 : (sort == 2) = true := by simpa using h2
      subst hmo
      clear h2
      go_wp2_with fail
      go_meet
      exact ⟨rfl, rfl⟩
    · rw [if_neg h2] at hmo
      have h3 : (sort == 2) = false := by simpa using h2
      subst hmo
      clear h2
      go_wp2_with fail
      go_meet
      exact ⟨rfl, rfl⟩
  case rest =>
  obtain ⟨rfl, rfl⟩ := hcut
  obtain ⟨Bd, hBd⟩ : ∃ Bd, decide (now < 0 ∨ far < now ∨ sort < 1 ∨ 4 < sort ∨ n < 0 ∨ mo < n) = Bd := ⟨_, rfl⟩
  have HBd := Lib.hid hBd
  clear hBd
  go_upto_region 4 with fail
  go_cut [29] from 14 to 29 (fun s29 wx => s29 = .bool Bd ∧ w1 = wx)
  case first =>
    have hBd := HBd.out
    by_cases h1 : 0 ≤ now ∧ now ≤ 1099511627776
    · have HI1 := Lib.hid (Drw.in_yes now 0 1099511627776 w1 h1)
      by_cases h2 : 1 ≤ sort ∧ sort ≤ 4
      · have HI2 := Lib.hid (Drw.in_yes sort 1 4 w1 h2)
        by_cases h3 : 0 ≤ n ∧ n ≤ mo
        · have HI3 := Lib.hid (Drw.in_yes n 0 mo w1 h3)
          obtain rfl : Bd = false := by rw [← hBd]; exact decide_eq_false (by omega)
          clear hBd h1 h2 h3
          go_wp2_with fail
          refine HI1.out.mono ?_
          rintro e wx ⟨rfl, rfl⟩
          go_wp2_with fail
          refine HI2.out.mono ?_
          rintro e wx ⟨rfl, rfl⟩
          go_wp2_with fail
          refine HI3.out.mono ?_
          rintro e wx ⟨rfl, rfl⟩
          go_wp2_with fail
          go_meet
          exact ⟨by simp, rfl⟩
        · have HI3 := Lib.hid (Drw.in_no n 0 mo w1 h3)
          obtain rfl : Bd = true := by rw [← hBd]; exact decide_eq_true (by omega)
          clear hBd h1 h2 h3
          go_wp2_with fail
          refine HI1.out.mono ?_
          rintro e wx ⟨rfl, rfl⟩
          go_wp2_with fail
          refine HI2.out.mono ?_
          rintro e wx ⟨rfl, rfl⟩
          go_wp2_with fail
          refine HI3.out.mono ?_
          rintro e wx ⟨rfl, rfl⟩
          go_wp2_with fail
          go_meet
          exact ⟨by simp, rfl⟩
      · have HI2 := Lib.hid (Drw.in_no sort 1 4 w1 h2)
        obtain rfl : Bd = true := by rw [← hBd]; exact decide_eq_true (by omega)
        clear hBd h1 h2
        go_wp2_with fail
        refine HI1.out.mono ?_
        rintro e wx ⟨rfl, rfl⟩
        go_wp2_with fail
        refine HI2.out.mono ?_
        rintro e wx ⟨rfl, rfl⟩
        go_wp2_with fail
        go_meet
        exact ⟨by simp, rfl⟩
    · have HI1 := Lib.hid (Drw.in_no now 0 1099511627776 w1 h1)
      obtain rfl : Bd = true := by rw [← hBd]; exact decide_eq_true (by omega)
      clear hBd h1
      go_wp2_with fail
      refine HI1.out.mono ?_
      rintro e wx ⟨rfl, rfl⟩
      go_wp2_with fail
      go_meet
      exact ⟨by simp, rfl⟩
  case rest =>
  obtain ⟨rfl, rfl⟩ := hcut
  have hBd := HBd.out
  cases Bd with
  | true =>
    rw [if_pos (of_decide_eq_true hBd)] at hO
    subst hO
    have HFI := Lib.hid (show NextC th tq W K t vb v w c w1 from ⟨v, HH.out, Heap.Touch.ofBelow HB1.out, fun k hk => .inl hk⟩)
    clear hBd
    go_wp2_with fail
    go_ret
    exact ⟨rfl, HFI.out⟩
  | false =>
    have hok := of_decide_eq_false hBd
    rw [if_neg hok] at hO
    have hok2 : 0 ≤ now ∧ now ≤ 1099511627776 ∧ 1 ≤ sort ∧ sort ≤ 4 ∧ 0 ≤ n ∧ n ≤ mo := by omega
    clear hBd hok HBd
    unfold idxI at HFD
    cases hix : idxP c.l seq with
    | none =>
      rw [hix] at hO HFD
      simp only at hO HFD
      subst hO
      clear hix
      go_wp2_with fail
      refine HFD.out.mono ?_
      rintro e w2 ⟨rfl, hb2⟩
      have HFI := Lib.hid (show NextC th tq W K t vb v w c w2 from ⟨v, HH.out.next hb2, Heap.Touch.ofBelow (HB1.out.trans (hb2.mono HB1.out.size)), fun k hk => .inl hk⟩)
      clear hb2 HFD
      go_wp2_with fail
      go_ret
      exact ⟨rfl, HFI.out⟩
    | some i =>
      obtain ⟨p, hp, hpq⟩ := idx_some hix
      rw [hix] at hO HFD
      simp only at hO HFD
      rw [hp] at hO
      simp only at hO
      have hil := (List.getElem?_eq_some_iff.1 hp).1
      have hpi := HK.out.in_ p (List.mem_of_getElem? hp)
      have HP := Lib.hid hp; have HO := Lib.hid hO; have HPQ := Lib.hid hpq
      clear hix hp hO hpq
      go_wp2_with fail
      refine HFD.out.mono ?_
      rintro e w2 ⟨rfl, hb2⟩
      have h2 := HH.out.next hb2
      have hbw := HB1.out.trans (hb2.mono HB1.out.size)
      have he2 := (hb2.block bx (heap_lt HE1.out)).trans HE1.out
      obtain ⟨m, hm⟩ : ∃ m, c.l.length = m := ⟨_, rfl⟩
      have HM := Lib.hid hm
      have hrow := h2.row
      rw [hm] at hrow hil hal
      rcases hrow.2 with ⟨_, h0⟩ | ⟨g, off, cap, cur, rfl, _⟩
      · omega
      obtain ⟨q0, q1⟩ := twoA he2
      have hgl := hrow.lt g (by simp [own, Value.ownBlock])
      have hiz : (i : Int) < m := by omega
      have hbl2 := heap_lt he2
      have H2 := Lib.hid h2; have HBW := Lib.hid hbw; have HRW := Lib.hid hrow; have HE2 := Lib.hid he2
      clear hb2 h2 hbw he2 hm hrow HFD
      rcases (show sort = 2 ∨ sort = 3 ∨ sort = 4 ∨ sort = 1 from by omega) with rfl | rfl | rfl | rfl
      · have hO := HO.out
        rw [if_pos rfl] at hO
        have HO2 := Lib.hid hO.symm
        have hmo2 : mo = 100000 := HMO.out.symm.trans (by decide)
        have hwd : IntKind.i64.wrap (now + n) = now + n := IntWalk.i64_in _ (by omega)
        obtain ⟨x2, hx2⟩ : ∃ x2, x2 = w2.drew := ⟨_, rfl⟩
        have hbx2 : Below w2.heap.size w2 x2 := by rw [hx2]; exact (Below.refl _ _).drew
        have hn2 := H2.out.next hbx2
        have h3 := setDue_h hn2 HM.out.symm HP.out (now + n)
        have HFI := Lib.hid (show NextC th tq W K t vb (.slice (some ⟨g, off, none⟩) m cap) w ⟨c.place, c.count, c.l.set i ⟨p.seq, p.nth, now + n⟩⟩ (x2.setCell ⟨g, off + i * 3 + 2, none⟩ (.int .i64 (now + n))) from ⟨_, h3.1, ((Heap.Touch.ofBelow HBW.out).after (Heap.Touch.ofBelow hbx2)).after (h3.2.mono fun _ _ e => .inr e), fun k hk => .inl hk⟩)
        obtain ⟨_, _, m2, _, f2⟩ := cells_pd (HRW.out.kept (w' := x2) fun k _ hk => hbx2.block k hk) i p HP.out hil
        have c12 := H2.out.cells.2.2.2.2.2.2.2.2.2.2.2.2.1
        have hlt2 := heap_lt H2.out.cell
        have hgx : g < x2.heap.size := Nat.lt_of_lt_of_le hgl hbx2.size
        clear hO h3 hmo2 hn2 hbx2
        go_upto_region 11 with fail
        go_wp2_with fail
        go_still_tail 11, (by kernel_rfl)
        change wpList _ _ _ _ _ w2.drew
        rw [← hx2]
        clear hx2 c12 hlt2 q0 q1
        go_wp2_with fail
        go_ret
        rw [HO2.out]
        exact ⟨rfl, HFI.out⟩
      · have hO := HO.out
        rw [if_neg (by decide), if_pos rfl] at hO
        have HO2 := Lib.hid hO.symm
        obtain ⟨m0, m1, m2, f1, f2⟩ := cells_pd HRW.out i p HP.out hil
        obtain ⟨c0, c1, c2, c3, c4, c5, c6, c7, c8, c9, _, _, c12, cf⟩ := H2.out.cells
        have hlt2 := heap_lt H2.out.cell
        obtain ⟨wt, hwt⟩ : ∃ wt, waitT t p.nth = wt := ⟨_, rfl⟩
        have hwr := wait_range HT.out p.nth
        have hbk : t.back.length ≤ 1048576 := by have := (errT_facts HT.out).2.2.1; omega
        have hwc := fun w' (hb : Below w2.heap.size w2 w') => wait_r (H2.out.next hb).back hbk p.nth
        rw [hwt] at hwc hwr
        unfold takerV at hwc
        have hwd : IntKind.i64.wrap (now + wt) = now + wt := IntWalk.i64_in _ (by omega)
        have HWC := Lib.hid hwc; have HWT := Lib.hid hwt
        clear hO hwc hwt hbk
        go_wp2_with fail
        go_region_held3 (fun w' => w'.cell? ⟨K, 0, none⟩ = some (.string ⟨t.name.toArray⟩) ∧ w'.cell? ⟨K, 1, none⟩ = some (.string ⟨t.filt.toArray⟩) ∧ w'.cell? ⟨K, 2, none⟩ = some (.int .i64 t.src) ∧ w'.cell? ⟨K, 3, none⟩ = some (.int .i64 t.start) ∧ w'.cell? ⟨K, 4, none⟩ = some (.int .i64 t.ack) ∧ w'.cell? ⟨K, 5, none⟩ = some (.int .i64 t.wait) ∧ w'.cell? ⟨K, 6, none⟩ = some vb ∧ w'.cell? ⟨K, 7, none⟩ = some (.int .i64 t.most) ∧ w'.cell? ⟨K, 8, none⟩ = some (.int .i64 t.pend) ∧ w'.cell? ⟨K, 9, none⟩ = some (.bool t.push) ∧ w'.cell? ⟨K, 12, none⟩ = some (.slice (some ⟨g, off, none⟩) m cap) ∧ w'.cell? ⟨g, off + i * 3 + 1, none⟩ = some (.int .i64 p.nth))
          (first | (with_reducible exact ⟨c0, c1, c2, c3, c4, c5, c6, c7, c8, c9, c12, m1⟩) | (with_reducible exact ⟨z0, z1, z2, z3, z4, z5, z6, z7, z8, z9, z12, y1⟩) | (with_reducible assumption) | go_keep)
          ((go_at_call 70; ((refine (HWC.out _ (Below.refl _ _).drew).mono ?_); rintro e w6 ⟨rfl, h6⟩; have hb6 : Below w2.heap.size w2 w6 := (Below.refl _ _).drew.trans h6; have hp6 := H2.out.next hb6; obtain ⟨c0, c1, c2, c3, c4, c5, c6, c7, c8, c9, _, _, c12, _⟩ := hp6.cells; have hrw6 : Row w6 tq 3 (.slice (some ⟨g, off, none⟩) m cap) m (pdsV c.l) := HRW.out.kept (fun k _ hk => hb6.block k hk); obtain ⟨_, m1, m2, _, f2⟩ := cells_pd hrw6 i p HP.out hil; have h7 := setDue_h hp6 HM.out.symm HP.out (now + wt); obtain ⟨z0, z1, z2, z3, z4, z5, z6, z7, z8, z9, _, _, z12, _⟩ := h7.1.cells; have hset : (c.l.set i ⟨p.seq, p.nth, now + wt⟩)[i]? = some ⟨p.seq, p.nth, now + wt⟩ := (by rw [List.getElem?_set_self (by rw [HM.out]; exact hil)]); have hrw7 : Row (w6.setCell ⟨g, off + i * 3 + 2, none⟩ (.int .i64 (now + wt))) tq 3 (.slice (some ⟨g, off, none⟩) m cap) m (pdsV (c.l.set i ⟨p.seq, p.nth, now + wt⟩)) := (by have := h7.1.row; simp only [List.length_set, HM.out] at this; exact this); obtain ⟨_, y1, _, _, _⟩ := cells_pd hrw7 i _ hset hil; have hgl6 : g < w6.heap.size := Nat.lt_of_lt_of_le hgl hb6.size; have HFI := Lib.hid (show NextC th tq W K t vb (.slice (some ⟨g, off, none⟩) m cap) w ⟨c.place, c.count, c.l.set i ⟨p.seq, p.nth, now + wt⟩⟩ (w6.setCell ⟨g, off + i * 3 + 2, none⟩ (.int .i64 (now + wt))) from ⟨_, h7.1, ((Heap.Touch.ofBelow HBW.out).after (Heap.Touch.ofBelow hb6)).after (h7.2.mono fun _ _ e => .inr e), fun k hk => .inl hk⟩); clear hp6 h7 hb6 hrw6 hrw7 hset h6)))
        go_wp2_with fail
        go_ret
        rw [HO2.out, HWT.out]
        exact ⟨rfl, HFI.out⟩
      · have hO := HO.out
        rw [if_neg (by decide), if_neg (by decide), if_neg (by omega)] at hO
        have HO2 := Lib.hid hO.symm
        have hout := out_h H2.out (by rw [HM.out]; omega) seq
        have hpq := HPQ.out
        have hol : outL c.l seq = c.l.eraseIdx i := by rw [← hpq]; exact outL_at HK.out.rise HP.out
        rw [hol] at hout
        have HOUT := Lib.hid hout
        clear hO hout hol hpq
        go_wp2_with fail
        refine HOUT.out.mono ?_
        rintro e w5 ⟨rfl, h5⟩
        have HFI := Lib.hid (next_trans H2.out (Heap.Touch.ofBelow HBW.out) (fun k hk => .inl hk) h5)
        clear h5 HOUT
        go_wp2_with fail
        go_ret
        rw [HO2.out]
        exact ⟨rfl, HFI.out⟩
      · have hO := HO.out
        rw [if_neg (by decide), if_neg (by decide)] at hO
        have HO2 := Lib.hid hO.symm
        clear hO q0 q1
        have HL0 := Lib.hid (show ∃ v', CAt th tq W K t vb v' ⟨c.place, c.count, c.l.drop 0⟩ w2 ∧ Heap.Touch (fun k => k = K ∨ own (.slice (some ⟨g, off, none⟩) m cap) k) w w2 ∧ ∀ k, own v' k → own (.slice (some ⟨g, off, none⟩) m cap) k ∨ w.heap.size ≤ k from ⟨_, H2.out, Heap.Touch.ofBelow HBW.out, fun k hk => .inl hk⟩)
        obtain ⟨q0, q1⟩ := twoA HE2.out
        go_wp2_with fail
        go_loopw [] (fun wr => ∃ j : Nat, j ≤ i ∧ Hid (j = 0 ∨ t.ack = 1) ∧ Hid (∃ v', CAt th tq W K t vb v' ⟨c.place, c.count, c.l.drop j⟩ wr ∧ Heap.Touch (fun k => k = K ∨ own (.slice (some ⟨g, off, none⟩) m cap) k) w wr ∧ ∀ k, own v' k → own (.slice (some ⟨g, off, none⟩) m cap) k ∨ w.heap.size ≤ k)) (fun wr => lenC K wr)
        case atStart => exact ⟨0, Nat.zero_le _, Lib.hid (.inl rfl), HL0⟩
        case round =>
          obtain ⟨j, hji, HJ, HC⟩ := hrel
          clear q0 q1 hbl2 hgl HL0
          obtain ⟨v2, hc2, ht2, ho2⟩ := HC.out
          have hlr := lenH hc2
          simp only [List.length_drop, HM.out] at hlr
          have HLR := Lib.hid hlr
          have hrow2 := hc2.row
          simp only [List.length_drop, HM.out] at hrow2
          obtain ⟨a, ha⟩ : ∃ a, c.l[j]? = some a := ⟨_, List.getElem?_eq_getElem (by rw [HM.out]; omega)⟩
          have ha0 : (c.l.drop j)[0]? = some a := by rw [List.getElem?_drop, Nat.add_zero]; exact ha
          obtain ⟨d, hd⟩ : ∃ d, m - j = d + 1 := ⟨m - j - 1, by omega⟩
          rw [hd] at hrow2
          rcases hrow2.2 with ⟨_, h0⟩ | ⟨g2, off2, cap2, cur2, rfl, _⟩
          · omega
          obtain ⟨m0, _, _, _, _⟩ := cells_pd hrow2 0 a ha0 (by omega)
          rw [Nat.zero_mul, Nat.add_zero] at m0
          have c4 := hc2.cells.2.2.2.2.1
          have c12 := hc2.cells.2.2.2.2.2.2.2.2.2.2.2.2.1
          have hlt2 := heap_lt hc2.cell
          have hdz : (0 : Int) < (d + 1 : Nat) := by omega
          have hout := fun q => out_h hc2 (by show (c.l.drop j).length ≤ 1000; rw [List.length_drop, HM.out]; omega) q
          have HOUT := Lib.hid hout; have HA := Lib.hid ha; have HC2 := Lib.hid hc2; have HT2 := Lib.hid ht2; have HO3 := Lib.hid ho2
          clear hlr hrow2 ha ha0 hc2 ht2 ho2 hout HC hd
          by_cases hak : t.ack = 1
          · have hak1 : (t.ack == 1) = true := by simpa using hak
            by_cases hjl : j < i
            · have hne : a.seq ≠ seq := by
                have h1 := List.pairwise_iff_getElem.1 HK.out.rise j i (by rw [HM.out]; omega) (by rw [HM.out]; omega) hjl
                obtain ⟨_, e1⟩ := List.getElem?_eq_some_iff.1 HA.out
                obtain ⟨_, e2⟩ := List.getElem?_eq_some_iff.1 HP.out
                rw [e1, e2] at h1
                have := HPQ.out
                omega
              have hne1 : (a.seq != seq) = true := by simpa using hne
              have ho := HOUT.out a.seq
              simp only [out_drop HK.out.rise HA.out] at ho
              have HO5 := Lib.hid ho
              have HAK := Lib.hid (show j + 1 = 0 ∨ t.ack = 1 from .inr hak)
              clear ho hne hak HOUT
              go_wp2_with fail
              refine HO5.out.mono ?_
              rintro e w5 ⟨rfl, h5⟩
              have h6 := next_trans HC2.out HT2.out HO3.out h5
              have hl6 : lenC K w5 = m - (j + 1) := by
                obtain ⟨v7, h7, _⟩ := h6
                rw [lenH h7]; show (c.l.drop (j + 1)).length = _; rw [List.length_drop, HM.out]
              have HL6 := Lib.hid hl6; have H6 := Lib.hid h6
              clear h5 h6 hl6 HO5
              go_wp2_with fail
              exact ⟨⟨j + 1, by omega, HAK, H6⟩, by rw [HL6.out, HLR.out]; omega⟩
            · obtain rfl : j = i := by omega
              obtain rfl : a = p := by have := HA.out.symm.trans HP.out; simpa using this
              have hne1 : (a.seq != seq) = false := by have := HPQ.out; simp [this]
              have ho := HOUT.out seq
              have hpq := HPQ.out
              rw [← hpq] at ho
              simp only [out_drop HK.out.rise HA.out] at ho
              rw [hpq] at ho
              have HO5 := Lib.hid ho
              have hO := HO2.out
              rw [if_pos (by first | exact ⟨rfl, hak⟩ | exact ⟨trivial, hak⟩)] at hO
              have HO6 := Lib.hid hO
              clear ho hpq hO hak HOUT
              go_wp2_with fail
              refine HO5.out.mono ?_
              rintro e w5 ⟨rfl, h5⟩
              have HFI := Lib.hid (next_trans HC2.out HT2.out HO3.out h5)
              clear h5 HO5
              go_wp2_with fail
              go_ret
              rw [HO6.out]
              exact ⟨rfl, HFI.out⟩
          · have hak1 : (t.ack == 1) = false := by simpa using hak
            obtain rfl : j = 0 := by rcases HJ.out with h | h; exact h; exact absurd h hak
            have ho := HOUT.out seq
            have hpq := HPQ.out
            have hol : outL c.l seq = c.l.eraseIdx i := by rw [← hpq]; exact outL_at HK.out.rise HP.out
            simp only [List.drop_zero, hol] at ho
            have HO5 := Lib.hid ho
            have hO := HO2.out
            rw [if_neg (by rintro ⟨_, h⟩; exact hak h)] at hO
            have HO6 := Lib.hid hO
            clear ho hpq hO hak HOUT hol
            go_wp2_with fail
            refine HO5.out.mono ?_
            rintro e w5 ⟨rfl, h5⟩
            have HFI := Lib.hid (next_trans HC2.out HT2.out HO3.out h5)
            clear h5 HO5
            go_wp2_with fail
            go_ret
            rw [HO6.out]
            exact ⟨rfl, HFI.out⟩
end
end Go.Proofs.YthhgfdeegnimjaaGreatDoor.Hnd

namespace Go.Proofs.YthhgfdeegnimjaaGreatDoor.Hnd
open Go.RowKit Heap Con
open Subj (Tok TakerP ML errT)
open Sto (StoreAt ChAt NextSt NextCh)
open Rec (Rc far)

section
variable {W w w1 : World} {F G : Nat → Prop} {D B B' C K KH : Nat} {vC vb vb2 v vh : Value} {L L2 L' : List Rc} {last last2 last' : Int} {t : TakerP} {c c2 c' : Cn}

theorem pair_touch (h : PairAt W F D B L last K t vb v c w) (ht : Heap.Touch G w w1) (hG : ∀ k, G k → W.heap.size ≤ k) (hn : ∀ k, (F k ∨ k = K ∨ own v k ∨ own vb k) → ¬ G k) : PairAt W F D B L last K t vb v c w1 :=
  ⟨h.st.kept (h.below.trans (ht.below h.below.size hG)) ht.size fun k hk hlt => ht.block k hlt (hn k (.inl hk)), h.con.touch ht hG (hn K (.inr (.inl rfl))) (fun k hk => hn k (.inr (.inr (.inl hk)))) (fun k hk => hn k (.inr (.inr (.inr hk)))), h.fK, h.fv, h.fb⟩

theorem HPair.touch (h : HPair W C vC L last K t vb v c w) (ht : Heap.Touch G w w1) (hG : ∀ k, G k → W.heap.size ≤ k) (hn : ∀ k, (k = C ∨ own vC k ∨ k = K ∨ own v k ∨ own vb k) → ¬ G k) : HPair W C vC L last K t vb v c w1 :=
  ⟨h.ch.touch ht hG (hn C (.inl rfl)) (fun k hk => hn k (.inr (.inl hk))), h.hd.touch ht hG (hn K (.inr (.inr (.inl rfl)))) (fun k hk => hn k (.inr (.inr (.inr (.inl hk))))) (fun k hk => hn k (.inr (.inr (.inr (.inr hk))))), h.nK, h.nv⟩

theorem HPair.chest (h : HPair W C vC L last K t vb v c w) (hb : ∀ k, own vb k → k ≠ C ∧ ¬ own vC k) (hn : NextCh W C vC w L' last' w1) : ∃ vC', HPair W C vC' L' last' K t vb v c w1 ∧ ∀ k, own vC' k → own vC k ∨ w.heap.size ≤ k := by
  obtain ⟨vC', h1, ht, ho⟩ := hn
  have hno : ∀ k, k < w.heap.size → ¬ own vC k → ¬ own vC' k := fun k hlt hk e => by
    rcases ho k e with e | e
    · exact hk e
    · omega
  refine ⟨vC', ⟨h1, h.hd.touch ht (fun k hk => ?_) (fun e => ?_) (fun k hk e => ?_) (fun k hk e => ?_), ⟨h.nK.1, hno K (heap_lt h.hd.cell) h.nK.2⟩, fun k hk => ⟨(h.nv k hk).1, hno k (h.hd.row.lt k hk) (h.nv k hk).2⟩⟩, ho⟩
  · rcases hk with rfl | hk
    · exact h.ch.old
    · exact (h.ch.mine k hk).1
  · rcases e with e | e
    · exact h.nK.1 e
    · exact h.nK.2 e
  · rcases e with e | e
    · exact (h.nv k hk).1 e
    · exact (h.nv k hk).2 e
  · rcases e with e | e
    · exact (hb k hk).1 e
    · exact (hb k hk).2 e

/-- All four. -/
structure PlayAt (W : World) (F : Nat → Prop) (D B C : Nat) (vC : Value) (K KH : Nat) (t : TakerP) (vb vb2 v vh : Value) (L : List Rc) (last : Int) (c : Cn) (L2 : List Rc) (last2 : Int) (c2 : Cn) (w : World) : Prop where
  p : PairAt W F D B L last K t vb v c w
  r : HPair W C vC L2 last2 KH t vb2 vh c2 w
  s : ∀ k, (F k ∨ k = K ∨ own v k) → ¬ (k = C ∨ own vC k ∨ k = KH ∨ own vh k)
  b1 : ∀ k, own vb k → ¬ (k = C ∨ own vC k ∨ k = KH ∨ own vh k)
  b2 : ∀ k, own vb2 k → ¬ (F k ∨ k = K ∨ own v k)
  b3 : ∀ k, own vb2 k → k ≠ C ∧ ¬ own vC k

theorem PlayAt.next (h : PlayAt W F D B C vC K KH t vb vb2 v vh L last c L2 last2 c2 w) (hb : Below w.heap.size w w1) : PlayAt W F D B C vC K KH t vb vb2 v vh L last c L2 last2 c2 w1 :=
  ⟨h.p.next hb, h.r.next hb, h.s, h.b1, h.b2, h.b3⟩

theorem PlayAt.rlt (h : PlayAt W F D B C vC K KH t vb vb2 v vh L last c L2 last2 c2 w) : ∀ k, (k = C ∨ own vC k ∨ k = KH ∨ own vh k) → k < w.heap.size := fun k hk => by
  rcases hk with rfl | hk | rfl | hk
  · exact heap_lt h.r.ch.cell
  · exact h.r.ch.row.lt k hk
  · exact heap_lt h.r.hd.cell
  · exact h.r.hd.row.lt k hk
theorem PlayAt.plt (h : PlayAt W F D B C vC K KH t vb vb2 v vh L last c L2 last2 c2 w) : ∀ k, (F k ∨ k = K ∨ own v k) → k < w.heap.size := fun k hk => by
  rcases hk with hk | rfl | hk
  · exact h.p.st.bF k hk
  · exact heap_lt h.p.con.cell
  · exact h.p.con.row.lt k hk
theorem PlayAt.rold (h : PlayAt W F D B C vC K KH t vb vb2 v vh L last c L2 last2 c2 w) : ∀ k, (k = C ∨ own vC k ∨ k = KH ∨ own vh k) → W.heap.size ≤ k := fun k hk => by
  rcases hk with rfl | hk | rfl | hk
  · exact h.r.ch.old
  · exact (h.r.ch.mine k hk).1
  · exact h.r.hd.old
  · exact (h.r.hd.mine k hk).1
theorem PlayAt.pold (h : PlayAt W F D B C vC K KH t vb vb2 v vh L last c L2 last2 c2 w) : ∀ k, (F k ∨ k = K ∨ own v k) → W.heap.size ≤ k := fun k hk => by
  rcases hk with hk | rfl | hk
  · exact h.p.st.newF k hk
  · exact h.p.con.old
  · exact (h.p.con.mine k hk).1

/-- The hand and its chest stay where the program's side is turned. -/
theorem PlayAt.rstay (h : PlayAt W F D B C vC K KH t vb vb2 v vh L last c L2 last2 c2 w) (ht : Heap.Touch G w w1) (hG : ∀ k, G k → F k ∨ k = K ∨ own v k) : HPair W C vC L2 last2 KH t vb2 vh c2 w1 :=
  h.r.touch ht (fun k hk => h.pold k (hG k hk)) fun k hk hg => by
    have hp := hG k hg
    rcases hk with hk | hk | hk | hk | hk
    · exact h.s k hp (.inl hk)
    · exact h.s k hp (.inr (.inl hk))
    · exact h.s k hp (.inr (.inr (.inl hk)))
    · exact h.s k hp (.inr (.inr (.inr hk)))
    · exact h.b2 k hk hp
theorem PlayAt.pstay (h : PlayAt W F D B C vC K KH t vb vb2 v vh L last c L2 last2 c2 w) (ht : Heap.Touch G w w1) (hG : ∀ k, G k → k = C ∨ own vC k ∨ k = KH ∨ own vh k) : PairAt W F D B L last K t vb v c w1 :=
  pair_touch h.p ht (fun k hk => h.rold k (hG k hk)) fun k hk hg => by
    have hr := hG k hg
    rcases hk with hk | hk | hk | hk
    · exact h.s k (.inl hk) hr
    · exact h.s k (.inr (.inl hk)) hr
    · exact h.s k (.inr (.inr hk)) hr
    · exact h.b1 k hk hr

theorem PlayAt.con (h : PlayAt W F D B C vC K KH t vb vb2 v vh L last c L2 last2 c2 w) (hn : NextC tc tp W K t vb v w c' w1) : ∃ v', PlayAt W F D B C vC K KH t vb vb2 v' vh L last c' L2 last2 c2 w1 := by
  have hr := h.rstay hn.choose_spec.2.1 (fun k hk => .inr hk)
  obtain ⟨v', h1, ho⟩ := h.p.turn hn
  have hsub : ∀ k, (F k ∨ k = K ∨ own v' k) → (F k ∨ k = K ∨ own v k) ∨ w.heap.size ≤ k := fun k hk => by
    rcases hk with hk | hk | hk
    · exact .inl (.inl hk)
    · exact .inl (.inr (.inl hk))
    · exact (ho k hk).imp (fun e => .inr (.inr e)) id
  refine ⟨v', h1, hr, fun k hk e => ?_, h.b1, fun k hk e => ?_, h.b3⟩
  · rcases hsub k hk with e2 | e2
    · exact h.s k e2 e
    · have := h.rlt k e; omega
  · rcases hsub k e with e2 | e2
    · exact h.b2 k hk e2
    · have := (h.r.hd.fb k hk).1; omega

theorem PlayAt.hand (h : PlayAt W F D B C vC K KH t vb vb2 v vh L last c L2 last2 c2 w) (hn : NextC th tq W KH t vb2 vh w c' w1) : ∃ vh', PlayAt W F D B C vC K KH t vb vb2 v vh' L last c L2 last2 c' w1 := by
  have hp := h.pstay hn.choose_spec.2.1 (fun k hk => .inr (.inr hk))
  obtain ⟨vh', h1, ho⟩ := h.r.turn hn
  have hsub : ∀ k, (k = C ∨ own vC k ∨ k = KH ∨ own vh' k) → (k = C ∨ own vC k ∨ k = KH ∨ own vh k) ∨ w.heap.size ≤ k := fun k hk => by
    rcases hk with hk | hk | hk | hk
    · exact .inl (.inl hk)
    · exact .inl (.inr (.inl hk))
    · exact .inl (.inr (.inr (.inl hk)))
    · exact (ho k hk).imp (fun e => .inr (.inr (.inr e))) id
  refine ⟨vh', hp, h1, fun k hk e => ?_, fun k hk e => ?_, h.b2, h.b3⟩
  · rcases hsub k e with e2 | e2
    · exact h.s k hk e2
    · have := h.plt k hk; omega
  · rcases hsub k e with e2 | e2
    · exact h.b1 k hk e2
    · have := (h.p.con.fb k hk).1; omega

theorem PlayAt.store (h : PlayAt W F D B C vC K KH t vb vb2 v vh L last c L2 last2 c2 w) (hn : NextSt W F D B' w L' last' w1) : ∃ F', PlayAt W F' D B' C vC K KH t vb vb2 v vh L' last' c L2 last2 c2 w1 := by
  have hr := h.rstay hn.2 (fun k hk => .inl hk)
  obtain ⟨F', h1, ho⟩ := h.p.store hn
  have hsub : ∀ k, (F' k ∨ k = K ∨ own v k) → (F k ∨ k = K ∨ own v k) ∨ w.heap.size ≤ k := fun k hk => by
    rcases hk with hk | hk
    · exact (ho k hk).imp (fun e => .inl e) id
    · exact .inl (.inr hk)
  refine ⟨F', h1, hr, fun k hk e => ?_, h.b1, fun k hk e => ?_, h.b3⟩
  · rcases hsub k hk with e2 | e2
    · exact h.s k e2 e
    · have := h.rlt k e; omega
  · rcases hsub k e with e2 | e2
    · exact h.b2 k hk e2
    · have := (h.r.hd.fb k hk).1; omega

theorem PlayAt.chest (h : PlayAt W F D B C vC K KH t vb vb2 v vh L last c L2 last2 c2 w) (hn : NextCh W C vC w L' last' w1) : ∃ vC', PlayAt W F D B C vC' K KH t vb vb2 v vh L last c L' last' c2 w1 := by
  have hp := h.pstay hn.choose_spec.2.1 (fun k hk => by rcases hk with e | e; exact .inl e; exact .inr (.inl e))
  obtain ⟨vC', h1, ho⟩ := h.r.chest h.b3 hn
  have hsub : ∀ k, (k = C ∨ own vC' k ∨ k = KH ∨ own vh k) → (k = C ∨ own vC k ∨ k = KH ∨ own vh k) ∨ w.heap.size ≤ k := fun k hk => by
    rcases hk with hk | hk | hk
    · exact .inl (.inl hk)
    · exact (ho k hk).imp (fun e => .inr (.inl e)) id
    · exact .inl (.inr (.inr hk))
  refine ⟨vC', hp, h1, fun k hk e => ?_, fun k hk e => ?_, h.b2, fun k hk => ⟨(h.b3 k hk).1, fun e => ?_⟩⟩
  · rcases hsub k e with e2 | e2
    · exact h.s k hk e2
    · have := h.plt k hk; omega
  · rcases hsub k e with e2 | e2
    · exact h.b1 k hk e2
    · have := (h.p.con.fb k hk).1; omega
  · rcases ho k e with e2 | e2
    · exact (h.b3 k hk).2 e2
    · have := (h.r.hd.fb k hk).1; omega
end
end Go.Proofs.YthhgfdeegnimjaaGreatDoor.Hnd

namespace Go.Proofs.YthhgfdeegnimjaaGreatDoor.Hnd
open Go.RowKit Heap Con
open Subj (Tok TakerP ML)
open Sto (fourS set4)
open Rec (Rc far)

def floorL (o : Int) (l : List Pd) : Int := l.foldl (fun o p => min o (p.seq - 1)) o

theorem floorL_take {o : Int} {l : List Pd} {k : Nat} {p : Pd} (h : l[k]? = some p) : floorL o (l.take (k + 1)) = min (floorL o (l.take k)) (p.seq - 1) := by
  obtain ⟨hk, e⟩ := List.getElem?_eq_some_iff.1 h
  unfold floorL
  rw [List.take_succ_eq_append_getElem hk, e, List.foldl_append]
  rfl

theorem floorL_keep {o : Int} : ∀ (l : List Pd), (∀ p ∈ l, o ≤ p.seq - 1) → floorL o l = o
  | [], _ => rfl
  | p :: l, h => by
    unfold floorL
    rw [List.foldl_cons, show min o (p.seq - 1) = o by have := h p (by simp); omega]
    exact floorL_keep l fun q hq => h q (by simp [hq])

theorem floorL_eq {k : Nat} {c : Cn} (h : Ok k c) : floorL (c.place - 1) c.l = floorP c := by
  unfold floorP
  have h1 := h.rise
  have h2 := h.in_
  revert h1 h2
  cases c.l with
  | nil => intro _ _; rfl
  | cons p l =>
    intro h1 h2
    unfold floorL
    rw [List.foldl_cons, show min (c.place - 1) (p.seq - 1) = p.seq - 1 by have := (h2 p (by simp)).1; omega]
    refine floorL_keep l fun q hq => ?_
    have := (List.pairwise_cons.1 h1).1 q hq
    omega

section
variable {W w : World} {K k : Nat} {t : TakerP} {vb v : Value} {c : Cn}

set_option maxHeartbeats 4000000 in
set_option maxRecDepth 100000 in
theorem info_h (h : CAt 144 154 W K t vb v c w) (hk : Ok k c) (hkb : k ≤ 1000000) : Calls Tryz.prog 23 #[.pointer (some ⟨K, 0, none⟩)] w fun e w' => e = .returned (infoV c) ∧ Below w.heap.size w w' := by
  have hpl := hk.place
  have hcn := hk.count
  have hln := hk.len
  have hfar : far = 1099511627776 := rfl
  unfold infoV
  obtain ⟨fz, hfz⟩ : ∃ fz, floorP c = fz := ⟨_, rfl⟩
  obtain ⟨n, hn⟩ : ∃ n, c.l.length = n := ⟨_, rfl⟩
  rw [hfz, hn]
  rw [hn] at hln
  have hnz : (n : Int) ≤ 1000000000000 := by omega
  have HFZ := Lib.hid hfz
  have hrow := h.row
  rw [hn] at hrow
  obtain ⟨va, vc, rfl⟩ := hrow.slice
  obtain ⟨w0, hw0⟩ : ∃ w0, w0 = w.alloc (.cells #[.int .i64 0, .int .i64 0, .int .i64 0, .int .i64 0] 55) := ⟨_, rfl⟩
  have hb0 : Below w.heap.size w w0 := by rw [hw0]; exact (Below.refl _ _).alloc (Nat.le_refl _) _
  have hrs : w0.heap[w.heap.size]? = some (.cells #[.int .i64 0, .int .i64 0, .int .i64 0, .int .i64 0] 55 (0, 0)) := by rw [hw0]; exact heap_alloc_new w _
  obtain ⟨rb, hrb⟩ : ∃ rb, w.heap.size = rb := ⟨_, rfl⟩
  rw [hrb] at hrs
  have h0 := h.next hb0
  obtain ⟨_, _, _, _, _, _, _, _, _, _, d10, d11, d12, df⟩ := h0.cells
  have hlt0 := heap_lt h0.cell
  have hKw := heap_lt h.cell
  have HH := Lib.hid h0; have HB0 := Lib.hid hb0; have HRS := Lib.hid hrs; have HRB := Lib.hid hrb; have HN := Lib.hid hn; have HK := Lib.hid hk
  have hn1 : w0.heap.size ≠ K := by omega
  have hw1 : IntKind.i64.wrap (c.place - 1) = c.place - 1 := IntWalk.i64_in _ (by omega)
  clear h hk hrow h0 hb0 hrs hrb hfz hn
  go_enter Tryz.func23, Tryz.ntmps23
  go_upto_region 1 with fail
  rw [← hw0, HRB.out]
  clear hw0
  go_region_held3 (fun w' => w'.cell? ⟨K, 10, none⟩ = some (.int .i64 c.place) ∧ w'.cell? ⟨K, 11, none⟩ = some (.int .i64 c.count) ∧ w'.cell? ⟨K, 12, none⟩ = some (.slice va n vc)) (first | (with_reducible exact ⟨d10, d11, d12⟩) | go_keep) (fail)
  rename_i hheld
  clear hheld
  obtain ⟨w3, hw3⟩ : ∃ w3, w3 = (w0.alloc (.cells #[.int .i64 (c.place - 1), .int .i64 (c.place - 1), .int .i64 c.count, .int .i64 (n : Nat)] 55)).drew := ⟨_, rfl⟩
  have hb3 : Below w0.heap.size w0 w3 := by rw [hw3]; exact ((Below.refl _ _).alloc (Nat.le_refl _) _).drew
  have hs3 : w3.heap[w0.heap.size]? = some (.cells #[.int .i64 (c.place - 1), .int .i64 (c.place - 1), .int .i64 c.count, .int .i64 (n : Nat)] 55 (0, 0)) := by rw [hw3]; exact heap_alloc_new w0 _
  rw [← hw3]
  have h3 := HH.out.next hb3
  have hrs3 := (hb3.block rb (heap_lt HRS.out)).trans HRS.out
  have hrbl : rb < w0.heap.size := heap_lt HRS.out
  obtain ⟨sb, hsb⟩ : ∃ sb, w0.heap.size = sb := ⟨_, rfl⟩
  have hrow3 := h3.row
  rw [HN.out] at hrow3
  obtain ⟨_, _, _, _, _, _, _, _, _, _, c10, c11, c12, cf⟩ := h3.cells
  have hlt := heap_lt h3.cell
  have hwb := Lib.hid (HB0.out.trans (hb3.mono HB0.out.size))
  rw [hsb] at hs3 hrbl ⊢
  have hsw : w.heap.size ≤ sb := by have := HRB.out; omega
  obtain ⟨x0, x1, x2, x3, xf⟩ := fourS hs3
  obtain ⟨y0, y1, y2, y3, yf⟩ := fourS hrs3
  have hsl := heap_lt hs3
  have hrl := heap_lt hrs3
  have HS3 := Lib.hid hs3; have HR3 := Lib.hid hrs3
  clear hw3 hb3 hs3 h3 hrs3 d10 d11 d12 df hlt0 hn1
  have HRW := Lib.hid hrow3
  have HSB := Lib.hid hsb
  clear hsb
  have HKC := Lib.hid (show w3.heap[K]? = w3.heap[K]? from rfl)
  have hKs : K ≠ sb := by have := hKw; omega
  have hgs : ∀ g, own (.slice va n vc) g → g ≠ sb := fun g hg e => by
    have h1 := HH.out.row.lt g hg
    have h2 := HSB.out
    omega
  have HGS := Lib.hid hgs; have HPL := Lib.hid hpl
  have hcz : ∀ (wr : World), Heap.Touch (fun k => k = sb) w3 wr → wr.cell? ⟨K, 12, none⟩ = some (.slice va n vc) ∧ K < wr.heap.size := fun wr ht => ⟨(ht.cell hlt hKs).trans c12, Nat.lt_of_lt_of_le hlt ht.size⟩
  have HCZ := Lib.hid hcz
  clear hrow3 HKC hgs hcz
  have HPLC := Lib.hid (show (∀ (wr : World), Heap.Touch (fun k => k = sb) w3 wr → Row wr 154 3 (.slice va n vc) n (pdsV c.l)) from fun wr ht => HRW.out.kept fun k hk hk2 => ht.block k hk2 (HGS.out k hk))
  have HRBS := Lib.hid (show ∀ (wr : World), Heap.Touch (fun k => k = sb) w3 wr → wr.heap[rb]? = some (.cells #[.int .i64 0, .int .i64 0, .int .i64 0, .int .i64 0] 55 (0, 0)) from fun wr ht => (ht.block rb hrl (by show ¬ rb = sb; omega)).trans HR3.out)
  clear x0 x1 x2 x3 xf y0 y1 y2 y3 yf c10 c11 cf hrl hsl hlt
  go_wp2_with fail
  go_loopw [4] (fun i wr => ∃ j : Nat, j ≤ n ∧ i = .int .i64 j ∧ Hid (Heap.Touch (fun k => k = sb) w3 wr) ∧ Hid (wr.heap[sb]? = some (.cells #[.int .i64 (floorL (c.place - 1) (c.l.take j)), .int .i64 (c.place - 1), .int .i64 c.count, .int .i64 (n : Nat)] 55 (0, 0)))) (fun i _ => n - (intOf i).toNat)
  case atStart => exact ⟨0, Nat.zero_le _, rfl, Lib.hid (Heap.Touch.refl _ _), HS3⟩
  case round =>
    obtain ⟨j, hj, rfl, HT, HE⟩ := hrel
    obtain ⟨e12, hlt⟩ := HCZ.out _ HT.out
    obtain ⟨x0, x1, x2, x3, xf⟩ := fourS HE.out
    have hsl := heap_lt HE.out
    by_cases hlt2 : j < n
    · have hltz : (j : Int) < n := by omega
      obtain ⟨p, hp⟩ : ∃ p, c.l[j]? = some p := ⟨c.l[j]'(by rw [HN.out]; exact hlt2), by simp⟩
      have hrow := HPLC.out _ HT.out
      rcases hrow.2 with ⟨e, _⟩ | ⟨g, off, cap, cur, e, _⟩
      · simp at e; omega
      · obtain ⟨rfl, rfl⟩ : va = some ⟨g, off, none⟩ ∧ vc = cap := by simp at e; exact e
        clear e
        obtain ⟨d0, d1, d2, _, _⟩ := cells_pd hrow j p hp hlt2
        have HD := Lib.hid (floorL_take (o := c.place - 1) hp)
        have hps := (HK.out.in_ p (List.mem_of_getElem? hp)).1
        have hcap := hrow.cap_le.1
        obtain ⟨fl, hfl⟩ : ∃ fl, floorL (c.place - 1) (c.l.take j) = fl := ⟨_, rfl⟩
        rw [hfl] at HD x0 HE
        have hw2 : IntKind.i64.wrap (p.seq - 1) = p.seq - 1 := IntWalk.i64_in _ (by have := HPL.out; omega)
        clear hrow hp hfl d1 d2
        go_wp2_with fail
        have HN1 := Lib.hid (show Heap.Touch (fun k => k = sb) w3 ((wr.setCell ⟨sb, 0, none⟩ (.int .i64 (min fl (p.seq - 1)))).drew) ∧ ((wr.setCell ⟨sb, 0, none⟩ (.int .i64 (min fl (p.seq - 1)))).drew).heap[sb]? = some (.cells #[.int .i64 (floorL (c.place - 1) (c.l.take (j + 1))), .int .i64 (c.place - 1), .int .i64 c.count, .int .i64 (n : Nat)] 55 (0, 0)) from by
          refine ⟨(HT.out.setCell (.inl rfl) _).drew, ?_⟩
          rw [HD.out]
          exact heap_setCell_same _ _ _ _ _ _ HE.out)
        go_region
        go_wp2_with fail
        exact ⟨⟨j + 1, by omega, by go_num, Lib.hid HN1.out.1, Lib.hid HN1.out.2⟩, by simp [intOf]; omega⟩
    · have hltz : ¬ (j : Int) < n := by omega
      obtain rfl : j = n := by omega
      have e : c.l.take j = c.l := List.take_of_length_le (by rw [HN.out]; exact Nat.le_refl _)
      have hfe := floorL_eq HK.out
      rw [e, hfe, HFZ.out] at x0 HE
      have hr := HRBS.out _ HT.out
      obtain ⟨y0, y1, y2, y3, yf⟩ := fourS hr
      have hrl := heap_lt hr
      have HR4 := Lib.hid (set4 (.int .i64 fz) (.int .i64 (c.place - 1)) (.int .i64 c.count) (.int .i64 (j : Nat)) hr)
      have hbr : Below w.heap.size w wr := hwb.out.trans (HT.out.below hwb.out.size fun k hk => by omega)
      have HF := Lib.hid (show Below w.heap.size w ((((wr.setCell ⟨rb, 0, none⟩ (.int .i64 fz)).setCell ⟨rb, 1, none⟩ (.int .i64 (c.place - 1))).setCell ⟨rb, 2, none⟩ (.int .i64 c.count)).setCell ⟨rb, 3, none⟩ (.int .i64 (j : Nat))) from
        ((((hbr.setCell (by have := HRB.out; simp only; omega) _).setCell (by have := HRB.out; simp only; omega) _).setCell (by have := HRB.out; simp only; omega) _).setCell (by have := HRB.out; simp only; omega) _))
      clear e hfe hr hbr
      go_wp2_with fail
      refine bodyPost_ret (v := .agg #[.int .i64 fz, .int .i64 (c.place - 1), .int .i64 c.count, .int .i64 (j : Nat)]) (res_info Tryz.results23 _ _ rb rfl HR4.out) rfl ?_
      exact ⟨rfl, HF.out⟩
end
end Go.Proofs.YthhgfdeegnimjaaGreatDoor.Hnd

namespace Go.Proofs.YthhgfdeegnimjaaGreatDoor.Own
open Go.RowKit Heap
open Subj (Tok ML Strs StrsAt strAt strsV strsV_len strsV_get Ints IntsAt planErr planCells Small IntRet IsRet Inv check_any ten TakerP)


section
variable {w : World}

theorem set10 {w : World} {bx : Nat} {t : TypeId} {b0 b1 b2 b3 b4 b5 b6 b7 b8 b9 a0 a1 a2 a3 a4 a5 a6 a7 a8 a9 : Value} (h : w.heap[bx]? = some (.cells #[b0, b1, b2, b3, b4, b5, b6, b7, b8, b9] t (0, 0))) :
    ((((((((((w.setCell ⟨bx, 0, none⟩ a0).setCell ⟨bx, 1, none⟩ a1).setCell ⟨bx, 2, none⟩ a2).setCell ⟨bx, 3, none⟩ a3).setCell ⟨bx, 4, none⟩ a4).setCell ⟨bx, 5, none⟩ a5).setCell ⟨bx, 6, none⟩ a6).setCell ⟨bx, 7, none⟩ a7).setCell ⟨bx, 8, none⟩ a8).setCell ⟨bx, 9, none⟩ a9).heap[bx]? = some (.cells #[a0, a1, a2, a3, a4, a5, a6, a7, a8, a9] t (0, 0)) := by
  have h1 : (w.setCell ⟨bx, 0, none⟩ a0).heap[bx]? = some (.cells #[a0, b1, b2, b3, b4, b5, b6, b7, b8, b9] t (0, 0)) := heap_setCell_same _ _ _ _ _ _ h
  generalize w.setCell ⟨bx, 0, none⟩ a0 = w1 at h1 ⊢
  have h2 : (w1.setCell ⟨bx, 1, none⟩ a1).heap[bx]? = some (.cells #[a0, a1, b2, b3, b4, b5, b6, b7, b8, b9] t (0, 0)) := heap_setCell_same _ _ _ _ _ _ h1
  generalize w1.setCell ⟨bx, 1, none⟩ a1 = w2 at h2 ⊢
  have h3 : (w2.setCell ⟨bx, 2, none⟩ a2).heap[bx]? = some (.cells #[a0, a1, a2, b3, b4, b5, b6, b7, b8, b9] t (0, 0)) := heap_setCell_same _ _ _ _ _ _ h2
  generalize w2.setCell ⟨bx, 2, none⟩ a2 = w3 at h3 ⊢
  have h4 : (w3.setCell ⟨bx, 3, none⟩ a3).heap[bx]? = some (.cells #[a0, a1, a2, a3, b4, b5, b6, b7, b8, b9] t (0, 0)) := heap_setCell_same _ _ _ _ _ _ h3
  generalize w3.setCell ⟨bx, 3, none⟩ a3 = w4 at h4 ⊢
  have h5 : (w4.setCell ⟨bx, 4, none⟩ a4).heap[bx]? = some (.cells #[a0, a1, a2, a3, a4, b5, b6, b7, b8, b9] t (0, 0)) := heap_setCell_same _ _ _ _ _ _ h4
  generalize w4.setCell ⟨bx, 4, none⟩ a4 = w5 at h5 ⊢
  have h6 : (w5.setCell ⟨bx, 5, none⟩ a5).heap[bx]? = some (.cells #[a0, a1, a2, a3, a4, a5, b6, b7, b8, b9] t (0, 0)) := heap_setCell_same _ _ _ _ _ _ h5
  generalize w5.setCell ⟨bx, 5, none⟩ a5 = w6 at h6 ⊢
  have h7 : (w6.setCell ⟨bx, 6, none⟩ a6).heap[bx]? = some (.cells #[a0, a1, a2, a3, a4, a5, a6, b7, b8, b9] t (0, 0)) := heap_setCell_same _ _ _ _ _ _ h6
  generalize w6.setCell ⟨bx, 6, none⟩ a6 = w7 at h7 ⊢
  have h8 : (w7.setCell ⟨bx, 7, none⟩ a7).heap[bx]? = some (.cells #[a0, a1, a2, a3, a4, a5, a6, a7, b8, b9] t (0, 0)) := heap_setCell_same _ _ _ _ _ _ h7
  generalize w7.setCell ⟨bx, 7, none⟩ a7 = w8 at h8 ⊢
  have h9 : (w8.setCell ⟨bx, 8, none⟩ a8).heap[bx]? = some (.cells #[a0, a1, a2, a3, a4, a5, a6, a7, a8, b9] t (0, 0)) := heap_setCell_same _ _ _ _ _ _ h8
  generalize w8.setCell ⟨bx, 8, none⟩ a8 = w9 at h9 ⊢
  have h10 : (w9.setCell ⟨bx, 9, none⟩ a9).heap[bx]? = some (.cells #[a0, a1, a2, a3, a4, a5, a6, a7, a8, a9] t (0, 0)) := heap_setCell_same _ _ _ _ _ _ h9
  exact h10

theorem Row.toInts {w : World} {e : TypeId} {v : Value} {l : List Int} (h : Row w e 1 v l.length (l.map (Value.int .i64))) : Ints w v l := by
  rcases h.2 with ⟨rfl, h0⟩ | ⟨g, off, cap, cur, rfl, _⟩
  · exact ⟨none, 0, by rw [h0], by omega, fun hne => absurd (List.eq_nil_of_length_eq_zero h0) hne⟩
  · exact Row.ints (ys := []) rfl (Nat.le_refl _) (by rw [List.append_nil]; exact h)

end
end Go.Proofs.YthhgfdeegnimjaaGreatDoor.Own

namespace Go.Proofs.YthhgfdeegnimjaaGreatDoor.Own
open Go.RowKit Heap
open Subj (Tok ML Strs Ints ten TakerP)

/-- slices.Clone of numbers: a row of one's own. -/
theorem clone_intsR {w : World} {v : Value} {l : List Int} (h : Ints w v l) (hl : l.length ≤ 1048576) :
    Calls Tryz.prog 59 #[v] w fun e w' => ∃ v', e = .returned v' ∧ Row w' 3 1 v' l.length (l.map (Value.int .i64)) ∧ (∀ k, own v' k → w.heap.size ≤ k ∧ k < w'.heap.size) ∧ Below w.heap.size w w' := by
  obtain ⟨ao, cap, rfl, hc, hat⟩ := h
  have fin : ∀ (v' : Value) (w' : World), w'.ownsRow w.heap.size 3 1 v' l.length (l.map (Value.int .i64)) → Row w' 3 1 v' l.length (l.map (Value.int .i64)) ∧ (∀ k, own v' k → w.heap.size ≤ k ∧ k < w'.heap.size) := fun v' w' ho => by
    refine ⟨Row.of_own ho, fun k hk => ?_⟩
    rcases ho.2 with ⟨rfl, _⟩ | ⟨g, cp, cur, rfl, hg, hh, _⟩
    · simp [own, Value.ownBlock] at hk
    · simp [own, Value.ownBlock] at hk
      subst hk
      exact ⟨hg, heap_lt hh⟩
  cases ao with
  | none =>
    refine (Tryz.slices_Clone_int_nil l.length cap w).mono ?_
    rintro e w' ⟨rfl, rfl⟩
    by_cases hz : l = []
    · subst hz
      exact ⟨_, rfl, Row.nil _ _ _, fun k hk => by simp [own, Value.ownBlock] at hk, Below.refl _ _⟩
    · obtain ⟨g, off, h1, _⟩ := hat hz
      cases h1
  | some a =>
    by_cases hz : l = []
    · subst hz
      refine (Tryz.slices_Clone_int_zero a cap w).mono ?_
      rintro e w' ⟨v', rfl, h1, _, h3⟩
      obtain ⟨h5, h6⟩ := fin v' w' h1
      exact ⟨v', rfl, h5, h6, h3⟩
    · obtain ⟨g, off, h1, h2⟩ := hat hz
      simp only [Option.some.injEq] at h1
      subst h1
      refine (Tryz.slices_Clone_int g off l.length cap l w (Nat.le_refl _) (by omega) h2).mono ?_
      rintro e w' ⟨v', rfl, h1, _, h3⟩
      rw [List.take_of_length_le (Nat.le_refl _)] at h1
      obtain ⟨h5, h6⟩ := fin v' w' h1
      exact ⟨v', rfl, h5, h6, h3⟩

/-- A taker that nothing else holds. -/
def TakerPost (w : World) (t : TakerP) (e : Ending) (w' : World) : Prop :=
  ∃ v', e = .returned (Con.takerV t v') ∧ Row w' 3 1 v' t.back.length (t.back.map (Value.int .i64)) ∧ (∀ k, own v' k → w.heap.size ≤ k) ∧ Below w.heap.size w w'

section
variable {w : World}

set_option maxHeartbeats 4000000 in
set_option maxRecDepth 100000 in
theorem taker_of {W : World} {K : Nat} {t : TakerP} {vb v : Value} {c : Con.Cn} (hl : t.back.length ≤ 1048576) (h : Con.CAt Con.tc Con.tp W K t vb v c w) :
    Calls Tryz.prog 25 #[.pointer (some ⟨K, 0, none⟩)] w (TakerPost w t) := by
  obtain ⟨nm, hnme⟩ : ∃ nm : ByteArray, (⟨t.name.toArray⟩ : ByteArray) = nm := ⟨_, rfl⟩
  obtain ⟨fl, hfle⟩ : ∃ fl : ByteArray, (⟨t.filt.toArray⟩ : ByteArray) = fl := ⟨_, rfl⟩
  have hk := h.cell
  have hr := h.back
  obtain ⟨a0, n0, rfl, hc0, hat0⟩ := id hr
  unfold Con.conC at hk
  rw [hnme, hfle] at hk
  have HNM := Lib.hid hnme; have HFL := Lib.hid hfle
  clear hnme hfle h hc0 hat0
  obtain ⟨w1, hw1⟩ : ∃ w1, w1 = w.alloc (.cells #[.string ⟨#[]⟩, .string ⟨#[]⟩, .int .i64 0, .int .i64 0, .int .i64 0, .int .i64 0, .slice none 0 0, .int .i64 0, .int .i64 0, .bool false] 24) := ⟨_, rfl⟩
  have hb1 : Below w.heap.size w w1 := by rw [hw1]; exact (Below.refl _ _).alloc (Nat.le_refl _) _
  have hs1 : w1.heap.size = w.heap.size + 1 := by rw [hw1]; simp
  have he1 : w1.heap[w.heap.size]? = some (.cells #[.string ⟨#[]⟩, .string ⟨#[]⟩, .int .i64 0, .int .i64 0, .int .i64 0, .int .i64 0, .slice none 0 0, .int .i64 0, .int .i64 0, .bool false] 24 (0, 0)) := by rw [hw1]; exact heap_alloc_new w _
  obtain ⟨bx, hbx⟩ : ∃ bx, w.heap.size = bx := ⟨_, rfl⟩
  rw [hbx] at he1
  have hk1 := (hb1.block K (heap_lt hk)).trans hk
  obtain ⟨w2, hw2⟩ : ∃ w2, w2 = w1.alloc (.cells #[.string nm, .string fl, .int .i64 t.src, .int .i64 t.start, .int .i64 t.ack, .int .i64 t.wait, .slice a0 t.back.length n0, .int .i64 t.most, .int .i64 t.pend, .bool t.push] 24) := ⟨_, rfl⟩
  have hb2 : Below w1.heap.size w1 w2 := by rw [hw2]; exact (Below.refl _ _).alloc (Nat.le_refl _) _
  have he2 : w2.heap[w1.heap.size]? = some (.cells #[.string nm, .string fl, .int .i64 t.src, .int .i64 t.start, .int .i64 t.ack, .int .i64 t.wait, .slice a0 t.back.length n0, .int .i64 t.most, .int .i64 t.pend, .bool t.push] 24 (0, 0)) := by rw [hw2]; exact heap_alloc_new w1 _
  obtain ⟨by_, hby⟩ : ∃ by_, w1.heap.size = by_ := ⟨_, rfl⟩
  rw [hby] at he2
  have hbw2 := hb1.trans (hb2.mono hb1.size)
  have hz2 := heap_lt he2
  have HR := Lib.hid (show Ints w2 (.slice a0 t.back.length n0) t.back from hr.below hbw2)
  have HCL := Lib.hid (clone_intsR HR.out hl)
  have HE1 := Lib.hid ((hb2.block bx (heap_lt he1)).trans he1)
  have HE2 := Lib.hid he2; have HB2 := Lib.hid hbw2; have HBX := Lib.hid hbx; have HBY := Lib.hid hby
  have HXY := Lib.hid (show bx + 1 = by_ ∧ w.heap.size = bx ∧ by_ < w2.heap.size from ⟨by omega, hbx, hz2⟩)
  obtain ⟨q0, q1, q2, q3, q4, q5, q6, q7, q8, q9, qf⟩ : w1.cell? ⟨K, 0, none⟩ = some (.string nm) ∧ w1.cell? ⟨K, 1, none⟩ = some (.string fl) ∧ w1.cell? ⟨K, 2, none⟩ = some (.int .i64 t.src) ∧ w1.cell? ⟨K, 3, none⟩ = some (.int .i64 t.start) ∧ w1.cell? ⟨K, 4, none⟩ = some (.int .i64 t.ack) ∧ w1.cell? ⟨K, 5, none⟩ = some (.int .i64 t.wait) ∧ w1.cell? ⟨K, 6, none⟩ = some (.slice a0 t.back.length n0) ∧ w1.cell? ⟨K, 7, none⟩ = some (.int .i64 t.most) ∧ w1.cell? ⟨K, 8, none⟩ = some (.int .i64 t.pend) ∧ w1.cell? ⟨K, 9, none⟩ = some (.bool t.push) ∧ ∀ j, w1.frozen? ⟨K, j, none⟩ = false := by
    refine ⟨?_, ?_, ?_, ?_, ?_, ?_, ?_, ?_, ?_, ?_, fun j => frozen_of_row w1 K j _ _ hk1⟩ <;> (rw [cell_of_row w1 K _ _ _ _ hk1]; rfl)
  have hbl := heap_lt hk1
  clear hk hr hb1 hs1 he1 hk1 hb2 he2 hbw2 hbx hby hz2 HR
  go_enter Tryz.func25, Tryz.ntmps25
  go_upto_region 1 with fail
  rw [← hw1, HBX.out]
  clear hw1
  go_upto_region 2 with fail
  rw [← hw2, HBY.out]
  clear hw2 q0 q1 q2 q3 q4 q5 q6 q7 q8 q9 qf hbl
  obtain ⟨q0, q1, q2, q3, q4, q5, q6, q7, q8, q9, qf⟩ := ten HE2.out
  have hbl := heap_lt HE2.out
  go_wp2_with fail
  refine HCL.out.mono ?_
  rintro e w3 ⟨v3, rfl, hr3, ho3, hb3⟩
  obtain ⟨a3, c3, rfl⟩ := hr3.slice
  have he3 := (hb3.block by_ hbl).trans HE2.out
  have hd3 := (hb3.block bx (heap_lt HE1.out)).trans HE1.out
  obtain ⟨w4, hw4⟩ : ∃ w4, w4 = w3.setCell ⟨by_, 6, none⟩ (.slice a3 t.back.length c3) := ⟨_, rfl⟩
  have he4 : w4.heap[by_]? = some (.cells #[.string nm, .string fl, .int .i64 t.src, .int .i64 t.start, .int .i64 t.ack, .int .i64 t.wait, (.slice a3 t.back.length c3), .int .i64 t.most, .int .i64 t.pend, .bool t.push] 24 (0, 0)) := by rw [hw4]; exact heap_setCell_same _ _ _ _ _ _ he3
  have hd4 : w4.heap[bx]? = some (.cells #[.string ⟨#[]⟩, .string ⟨#[]⟩, .int .i64 0, .int .i64 0, .int .i64 0, .int .i64 0, .slice none 0 0, .int .i64 0, .int .i64 0, .bool false] 24 (0, 0)) := by rw [hw4]; exact (heap_setCell_other _ _ _ _ (by have := HXY.out.1; show bx ≠ by_; omega)).trans hd3
  have hz := HXY.out
  have hb4 : Below w.heap.size w w4 := by rw [hw4]; exact (HB2.out.trans (hb3.mono HB2.out.size)).setCell (by show w.heap.size ≤ by_; omega) _
  have hr4 : Row w4 3 1 (.slice a3 t.back.length c3) t.back.length (t.back.map (Value.int .i64)) := hr3.kept fun k hk _ => by rw [hw4]; exact heap_setCell_other _ _ _ _ (by have := (ho3 k hk).1; show k ≠ by_; omega)
  have HF := Lib.hid (show ∀ w5 : World, Heap.Touch (fun k => k = bx) w4 w5 → TakerPost w t (.returned (Con.takerV t (.slice a3 t.back.length c3))) w5 from fun w5 ht => by
    refine ⟨_, rfl, hr4.kept fun k hk hk2 => ht.block k hk2 (fun e => ?_), fun k hk => ?_, hb4.trans (ht.below hb4.size fun k hk => by omega)⟩
    · have := (ho3 k hk).1; omega
    · have := (ho3 k hk).1; have := HB2.out.size; omega)
  unfold Con.takerV at HF
  rw [HNM.out, HFL.out] at HF
  have HE4 := Lib.hid he4; have HD4 := Lib.hid hd4
  obtain ⟨p0, p1, p2, p3, p4, p5, p6, p7, p8, p9, pf⟩ := ten he3
  have hbl3 := heap_lt he3
  clear hr3 ho3 hb3 he3 hd3 he4 hd4 hz hb4 hr4 q0 q1 q2 q3 q4 q5 q6 q7 q8 q9 qf hbl HCL HE1 HE2
  go_upto_region 3 with fail
  rw [← hw4]
  clear hw4 p0 p1 p2 p3 p4 p5 p6 p7 p8 p9 pf hbl3
  obtain ⟨q0, q1, q2, q3, q4, q5, q6, q7, q8, q9, qf⟩ := ten HE4.out
  obtain ⟨y0, y1, y2, y3, y4, y5, y6, y7, y8, y9, yf⟩ := ten HD4.out
  have hbl := heap_lt HE4.out
  have hbl2 := heap_lt HD4.out
  obtain ⟨w5, hw5⟩ : ∃ w5, w5 = ((((((((((w4.setCell ⟨bx, 0, none⟩ (.string nm)).setCell ⟨bx, 1, none⟩ (.string fl)).setCell ⟨bx, 2, none⟩ (.int .i64 t.src)).setCell ⟨bx, 3, none⟩ (.int .i64 t.start)).setCell ⟨bx, 4, none⟩ (.int .i64 t.ack)).setCell ⟨bx, 5, none⟩ (.int .i64 t.wait)).setCell ⟨bx, 6, none⟩ (.slice a3 t.back.length c3)).setCell ⟨bx, 7, none⟩ (.int .i64 t.most)).setCell ⟨bx, 8, none⟩ (.int .i64 t.pend)).setCell ⟨bx, 9, none⟩ (.bool t.push)) := ⟨_, rfl⟩
  have ht5 : Heap.Touch (fun k => k = bx) w4 w5 := by rw [hw5]; exact ((((((((((Heap.Touch.refl (fun k => k = bx) w4).setCell (.inl rfl) _).setCell (.inl rfl) _).setCell (.inl rfl) _).setCell (.inl rfl) _).setCell (.inl rfl) _).setCell (.inl rfl) _).setCell (.inl rfl) _).setCell (.inl rfl) _).setCell (.inl rfl) _).setCell (.inl rfl) _
  have he5 : w5.heap[bx]? = some (.cells #[.string nm, .string fl, .int .i64 t.src, .int .i64 t.start, .int .i64 t.ack, .int .i64 t.wait, (.slice a3 t.back.length c3), .int .i64 t.most, .int .i64 t.pend, .bool t.push] 24 (0, 0)) := by
    rw [hw5]; exact set10 HD4.out
  have HF5 := Lib.hid (HF.out w5 ht5)
  obtain ⟨p0, p1, p2, p3, p4, p5, p6, p7, p8, p9, pf⟩ := ten he5
  have hbl5 := heap_lt he5
  clear ht5 he5 HF
  go_wp2_with fail
  rw [← hw5]
  clear hw5 q0 q1 q2 q3 q4 q5 q6 q7 q8 q9 qf y0 y1 y2 y3 y4 y5 y6 y7 y8 y9 yf
  refine bodyPost_ret (v := .agg #[.string nm, .string fl, .int .i64 t.src, .int .i64 t.start, .int .i64 t.ack, .int .i64 t.wait, (.slice a3 t.back.length c3), .int .i64 t.most, .int .i64 t.pend, .bool t.push]) (by simp [results, Tryz.results25, go_sem, p0, p1, p2, p3, p4, p5, p6, p7, p8, p9]; try rfl) rfl ?_
  exact HF5.out
end
end Go.Proofs.YthhgfdeegnimjaaGreatDoor.Own

namespace Go.Proofs.YthhgfdeegnimjaaGreatDoor.Sto
open Go.RowKit
open Rec (Rc)

theorem cells_recO : Tryz.prog.cellsOf 33 = 6 := by kernel_rfl
theorem cells_intO : Tryz.prog.cellsOf 3 = 1 := by kernel_rfl
theorem cells_strO : Tryz.prog.cellsOf 9 = 1 := by kernel_rfl

theorem addr_flatO {w : World} {a : Addr} {v : Value} (h : w.cell? a = some v) : a = ⟨a.block, a.off, none⟩ := by
  cases a with
  | mk b o s =>
    cases s with
    | none => rfl
    | some s =>
      unfold World.cell? at h
      simp only at h
      split at h <;> simp at h

/-- Cells side by side, one by one. -/
theorem cells_atO {w : World} {base : Nat} {a : Addr} {n : Nat} {cs : List Value} (h : w.cells? base a n = some cs) : cs.length = n ∧ ∀ i, i < n → w.cell? (a.add i) = cs[i]? := by
  unfold World.cells? at h
  split at h
  · obtain ⟨h1, h2⟩ := mapM_get h
    refine ⟨by simpa using h1, fun i hi => ?_⟩
    obtain ⟨y, h3, h4⟩ := h2 i i (by simp [hi])
    rw [h3]
    exact h4
  · cases h

theorem bulk_textO {H : Type} (s : ByteArray) : Rows.uptoBulk (DataW.lit (H := H) (.string s.data.toList)) = s.size + 1 := by
  simp only [Rows.uptoBulk, Array.length_toList]; rfl

theorem list6O {α : Type} {l : List α} (h : l.length = 6) : ∃ a b c d e f, l = [a, b, c, d, e, f] := by
  match l, h with
  | [a, b, c, d, e, f], _ => exact ⟨a, b, c, d, e, f, rfl⟩

theorem str_back (s : ByteArray) : (⟨s.data.toList.toArray⟩ : ByteArray) = s := by cases s; simp

set_option maxRecDepth 100000 in
open Go.WideShapes Go.ChangeShapes in
/-- One record among what was read. -/
theorem open_rec {H : Type} {enc : TypeId × Value → H} {W : World} {base fuel : Nat} {held : Bool} {cs : List Value} {y : DataW H × List MemPlace}
    (h : DataW.trod enc Tryz.prog W base (fun _ => true) held fuel 33 cs = some y) (hk : Rows.uptoBulk y.1 ≤ 1048576) :
    ∃ p : Rc, cs = recC p ∧ Fits p := by
  obtain ⟨n, hlen, xs, hd, hm⟩ := rd_struct Tryz.underlying33 h
  obtain ⟨hl, hg⟩ := mapM_get hm
  rw [cells_recO] at hlen
  obtain ⟨c0, c1, c2, c3, c4, c5, rfl⟩ := list6O hlen
  obtain ⟨z0, w0, q0⟩ := hg 0 _ rfl
  obtain ⟨z1, w1, q1⟩ := hg 1 _ rfl
  obtain ⟨z2, w2, q2⟩ := hg 2 _ rfl
  obtain ⟨z3, w3, q3⟩ := hg 3 _ rfl
  obtain ⟨z4, w4, q4⟩ := hg 4 _ rfl
  obtain ⟨z5, w5, q5⟩ := hg 5 _ rfl
  clear hg hm
  simp only [cells_intO, cells_strO] at q0 q1 q2 q3 q4 q5
  obtain ⟨a0, e0, _⟩ := rd_int Tryz.underlying3 q0
  obtain ⟨a1, e1, _⟩ := rd_int Tryz.underlying3 q1
  obtain ⟨a2, e2, _⟩ := rd_int Tryz.underlying3 q2
  obtain ⟨a3, e3, _, f3⟩ := rd_string Tryz.underlying9 q3
  obtain ⟨a4, e4, _, f4⟩ := rd_string Tryz.underlying9 q4
  obtain ⟨a5, e5, _, f5⟩ := rd_string Tryz.underlying9 q5
  simp at e0 e1 e2 e3 e4 e5
  subst e0 e1 e2 e3 e4 e5
  rw [hd] at hk
  simp only [Rows.uptoBulk] at hk
  have hb : ∀ z ∈ xs, Rows.uptoBulk z.1 ≤ 1048576 := fun z hz => by
    have := bulk_part (d := z.1) (l := xs.map (·.1)) (List.mem_map.2 ⟨z, hz, rfl⟩)
    omega
  have b3 := hb _ (List.mem_of_getElem? w3)
  have b4 := hb _ (List.mem_of_getElem? w4)
  have b5 := hb _ (List.mem_of_getElem? w5)
  rw [f3, bulk_textO] at b3
  rw [f4, bulk_textO] at b4
  rw [f5, bulk_textO] at b5
  refine ⟨⟨a0, a1, a2, a3.data.toList, a4.data.toList, a5.data.toList⟩, by simp only [recC, str_back], ?_, ?_, ?_⟩
  · show a3.data.toList.length ≤ _
    rw [show a3.data.toList.length = a3.size by simp]; omega
  · show a4.data.toList.length ≤ _
    rw [show a4.data.toList.length = a4.size by simp]; omega
  · show a5.data.toList.length ≤ _
    rw [show a5.data.toList.length = a5.size by simp]; omega

set_option maxRecDepth 100000 in
open Go.WideShapes Go.ChangeShapes in
theorem open_recs {H : Type} {enc : TypeId × Value → H} {W : World} {fuel : Nat} {held : Bool} {cs : List Value} {y : DataW H × List MemPlace}
    (h : DataW.trod enc Tryz.prog W 0 (fun _ => true) held fuel 25 cs = some y) (hk : Rows.uptoBulk y.1 ≤ 1048576) :
    ∃ ao n cap l, cs = [.slice ao n cap] ∧ RecsAt W (.slice ao n cap) l ∧ ∀ r ∈ l, Fits r := by
  rcases rd_slice Tryz.underlying25 h with ⟨e0, ey⟩ | ⟨a, n, cap, m, e0, hlc, hcm, elems, rest, ey, hel, _, he, _⟩
  · exact ⟨none, 0, 0, [], e0, ⟨none, 0, rfl, fun h => absurd rfl h⟩, (fun _ h => by cases h)⟩
  · rw [cells_recO] at he
    have hall : ∀ d ∈ elems.map (·.1), Rows.uptoBulk d ≤ 1048576 := by
      intro d hd
      rw [ey] at hk
      have := bulk_part hd
      simp only [Rows.uptoBulk] at hk; omega
    have hcell : ∀ i, i < n → ∃ p : Rc, (∀ j, j < 6 → W.cell? ((a.add (i * 6)).add j) = (recC p)[j]?) ∧ Fits p := by
      intro i hi
      obtain ⟨z, hz, h2⟩ := he i hi
      rw [Option.bind_eq_some_iff] at h2
      obtain ⟨cs, h3, h4⟩ := h2
      obtain ⟨_, h6⟩ := cells_atO h3
      obtain ⟨p, rfl, r1⟩ := open_rec h4 (hall _ (List.mem_map.2 ⟨z, List.mem_of_getElem? hz, rfl⟩))
      exact ⟨p, h6, r1⟩
    refine ⟨some a, n, cap, (List.range n).map (fun i => if h : i < n then (hcell i h).choose else ⟨0, 0, 0, [], [], []⟩), e0, ⟨some a, cap, by simp, fun hne => ?_⟩, fun r hr => ?_⟩
    · have hnp : 0 < n := by
        rcases Nat.eq_zero_or_pos n with e | e
        · exact absurd (by simp [e]) hne
        · exact e
      have ha : a = ⟨a.block, a.off, none⟩ := by
        obtain ⟨p, hs, _⟩ := hcell 0 hnp
        have h0 := hs 0 (by omega)
        have h1 : (a.add (0 * 6)).add 0 = a := by rw [Nat.zero_mul]; rfl
        rw [h1] at h0
        exact addr_flatO h0
      refine ⟨a.block, a.off, by rw [← ha], fun i p hp => ?_⟩
      have hi : i < n := by
        have := (List.getElem?_eq_some_iff.1 hp).1
        simpa using this
      have hpp : (hcell i hi).choose = p := by
        simp [hi] at hp
        exact hp
      have h1 := (hcell i hi).choose_spec.1
      rw [hpp] at h1
      have h2 : ∀ j, j < 6 → W.cell? ⟨a.block, a.off + i * 6 + j, none⟩ = (recC p)[j]? := fun j hj => by
        have := h1 j hj
        rw [ha] at this
        simpa only [Addr.add_lit] using this
      exact ⟨h2 0 (by omega), h2 1 (by omega), h2 2 (by omega), h2 3 (by omega), h2 4 (by omega), h2 5 (by omega)⟩
    · obtain ⟨i, hi, rfl⟩ := List.mem_map.1 hr
      have hi' : i < n := by simpa using hi
      rw [dif_pos hi']
      exact (hcell i hi').choose_spec.2
end Go.Proofs.YthhgfdeegnimjaaGreatDoor.Sto

namespace Go.Proofs.YthhgfdeegnimjaaGreatDoor.Con
open Go.RowKit
open Sto (addr_flatO cells_atO open_rec Fits recC cells_recO cells_intO)
open Rec (Rc far)

theorem wf_intC {n : Int} (h : (Lit.int .i64 n).wf = true) : -9223372036854775808 ≤ n ∧ n ≤ 9223372036854775807 := by
  simp [Lit.wf] at h
  exact h

theorem cells_turnC : Tryz.prog.cellsOf 45 = 11 := by kernel_rfl
theorem cells_ansC : Tryz.prog.cellsOf 43 = 2 := by kernel_rfl

theorem list11 {α : Type} {l : List α} (h : l.length = 11) : ∃ a b c d e f g i j k m, l = [a, b, c, d, e, f, g, i, j, k, m] := by
  match l, h with
  | [a, b, c, d, e, f, g, i, j, k, m], _ => exact ⟨a, b, c, d, e, f, g, i, j, k, m, rfl⟩

set_option maxRecDepth 100000 in
open Go.WideShapes Go.ChangeShapes in
/-- An answer among what was read. -/
theorem open_ans {H : Type} {enc : TypeId × Value → H} {W : World} {base fuel : Nat} {held : Bool} {cs : List Value} {y : DataW H × List MemPlace}
    (h : DataW.trod enc Tryz.prog W base (fun _ => true) held fuel 43 cs = some y) : ∃ a b : Int, cs = [.int .i64 a, .int .i64 b] := by
  obtain ⟨n, hlen, xs, hd, hm⟩ := rd_struct Tryz.underlying43 h
  obtain ⟨hl, hg⟩ := mapM_get hm
  rw [cells_ansC] at hlen
  obtain ⟨c0, c1, rfl⟩ : ∃ a b, cs = [a, b] := by
    match cs, hlen with
    | [a, b], _ => exact ⟨a, b, rfl⟩
  obtain ⟨z0, w0, q0⟩ := hg 0 _ rfl
  obtain ⟨z1, w1, q1⟩ := hg 1 _ rfl
  clear hg hm
  simp only [cells_intO] at q0 q1
  obtain ⟨a0, e0, _⟩ := rd_int Tryz.underlying3 q0
  obtain ⟨a1, e1, _⟩ := rd_int Tryz.underlying3 q1
  simp at e0 e1
  subst e0 e1
  exact ⟨a0, a1, rfl⟩

set_option maxRecDepth 100000 in
open Go.WideShapes Go.ChangeShapes in
/-- One turn among what was read. -/
theorem open_turn {H : Type} {enc : TypeId × Value → H} {W : World} {base fuel : Nat} {held : Bool} {cs : List Value} {y : DataW H × List MemPlace}
    (h : DataW.trod enc Tryz.prog W base (fun _ => true) held fuel 45 cs = some y) (hk : Rows.uptoBulk y.1 ≤ 1048576) :
    ∃ t : Tn, cs = (tnC t).toList ∧ FitsT t := by
  obtain ⟨n, hlen, xs, hd, hm⟩ := rd_struct Tryz.underlying45 h
  obtain ⟨hl, hg⟩ := mapM_get hm
  rw [cells_turnC] at hlen
  obtain ⟨c0, c1, c2, c3, c4, c5, c6, c7, c8, c9, c10, rfl⟩ := list11 hlen
  obtain ⟨z0, w0, q0⟩ := hg 0 _ rfl
  obtain ⟨z1, w1, q1⟩ := hg 1 _ rfl
  obtain ⟨z2, w2, q2⟩ := hg 2 _ rfl
  obtain ⟨z3, w3, q3⟩ := hg 3 _ rfl
  obtain ⟨z4, w4, q4⟩ := hg 4 _ rfl
  clear hg hm
  simp only [cells_intO, cells_ansC, cells_recO] at q0 q1 q2 q3 q4
  rw [hd] at hk
  simp only [Rows.uptoBulk] at hk
  have hb : ∀ z ∈ xs, Rows.uptoBulk z.1 ≤ 1048576 := fun z hz => by
    have := bulk_part (d := z.1) (l := xs.map (·.1)) (List.mem_map.2 ⟨z, hz, rfl⟩)
    omega
  have b4 := hb _ (List.mem_of_getElem? w4)
  obtain ⟨a0, e0, _⟩ := rd_int Tryz.underlying3 q0
  obtain ⟨a1, e1, _⟩ := rd_int Tryz.underlying3 q1
  obtain ⟨a2, e2, g2⟩ := rd_int Tryz.underlying3 q2
  obtain ⟨a3, a4, e3⟩ := open_ans q3
  obtain ⟨x, e4, hx⟩ := open_rec q4 b4
  simp [recC] at e0 e1 e2 e3 e4
  obtain ⟨rfl, rfl⟩ := e3
  obtain ⟨rfl, rfl, rfl, rfl, rfl, rfl⟩ := e4
  subst e0 e1 e2
  exact ⟨⟨a0, a1, a2, a3, a4, x⟩, by simp [tnC], hx, wf_intC g2⟩

def tnZ : Tn := ⟨0, 0, 0, 0, 0, ⟨0, 0, 0, [], [], []⟩⟩

set_option maxRecDepth 100000 in
open Go.WideShapes Go.ChangeShapes in
theorem open_turns {H : Type} {enc : TypeId × Value → H} {W : World} {fuel : Nat} {held : Bool} {cs : List Value} {y : DataW H × List MemPlace}
    (h : DataW.trod enc Tryz.prog W 0 (fun _ => true) held fuel 26 cs = some y) (hk : Rows.uptoBulk y.1 ≤ 1048576) :
    ∃ ao n cap l, cs = [.slice ao n cap] ∧ TurnsAt W (.slice ao n cap) l ∧ ∀ t ∈ l, FitsT t := by
  rcases rd_slice Tryz.underlying26 h with ⟨e0, ey⟩ | ⟨a, n, cap, m, e0, hlc, hcm, elems, rest, ey, hel, _, he, _⟩
  · exact ⟨none, 0, 0, [], e0, ⟨none, 0, rfl, fun h => absurd rfl h⟩, (fun _ h => by cases h)⟩
  · rw [cells_turnC] at he
    have hall : ∀ d ∈ elems.map (·.1), Rows.uptoBulk d ≤ 1048576 := by
      intro d hd
      rw [ey] at hk
      have := bulk_part hd
      simp only [Rows.uptoBulk] at hk; omega
    have hcell : ∀ i, i < n → ∃ t : Tn, (∀ j, j < 11 → W.cell? ((a.add (i * 11)).add j) = (tnC t).toList[j]?) ∧ FitsT t := by
      intro i hi
      obtain ⟨z, hz, h2⟩ := he i hi
      rw [Option.bind_eq_some_iff] at h2
      obtain ⟨cs, h3, h4⟩ := h2
      obtain ⟨_, h6⟩ := cells_atO h3
      obtain ⟨p, rfl, r1⟩ := open_turn h4 (hall _ (List.mem_map.2 ⟨z, List.mem_of_getElem? hz, rfl⟩))
      exact ⟨p, h6, r1⟩
    refine ⟨some a, n, cap, (List.range n).map (fun i => if h : i < n then (hcell i h).choose else tnZ), e0, ⟨some a, cap, by simp, fun hne => ?_⟩, fun r hr => ?_⟩
    · have hnp : 0 < n := by
        rcases Nat.eq_zero_or_pos n with e | e
        · exact absurd (by simp [e]) hne
        · exact e
      have ha : a = ⟨a.block, a.off, none⟩ := by
        obtain ⟨p, hs, _⟩ := hcell 0 hnp
        have h0 := hs 0 (by omega)
        have h1 : (a.add (0 * 11)).add 0 = a := by rw [Nat.zero_mul]; rfl
        rw [h1] at h0
        exact addr_flatO h0
      refine ⟨a.block, a.off, by rw [← ha], fun i p hp j hj => ?_⟩
      have hi : i < n := by
        have := (List.getElem?_eq_some_iff.1 hp).1
        simpa using this
      have hpp : (hcell i hi).choose = p := by
        rw [List.getElem?_map, List.getElem?_range hi] at hp
        simp only [Option.map_some, Option.some.injEq] at hp
        rw [dif_pos hi] at hp
        exact hp
      have h1 := (hcell i hi).choose_spec.1
      rw [hpp] at h1
      have := h1 j hj
      rw [ha] at this
      simpa only [Addr.add_lit, Array.getElem?_toList] using this
    · obtain ⟨i, hi, rfl⟩ := List.mem_map.1 hr
      have hi' : i < n := by simpa using hi
      rw [dif_pos hi']
      exact (hcell i hi').choose_spec.2

end Go.Proofs.YthhgfdeegnimjaaGreatDoor.Con
