/- Parts of the proof, joined: (*Store).Next, Last, walked.; Get, of the store and of the reference's chest, walked. -/
import Derived.Test.YtidacfhdhdnidaaGreatDoorVaultPlaysUptoM32
namespace Go.Proofs.YtidacfhdhdnidaaGreatDoor.Sto
open Go.RowKit Heap
open Subj (Tok ML pieces takes StrsAt)
open Rec (Rc recErr far)
open Idx (Ents ptrV)

theorem RecsAt.tail {w : World} {g off n cap : Nat} {l : List Rc} (h : RecsAt w (.slice (some ⟨g, off, none⟩) n cap) l) (i : Nat) (hi : i ≤ n) (ao : Option Addr) (c : Nat) (ha : i < n → ao = some ⟨g, off + i * 6, none⟩) : RecsAt w (.slice ao (n - i) c) (l.drop i) := by
  obtain ⟨a', c', hv, hc⟩ := h
  simp only [Value.slice.injEq] at hv
  obtain ⟨rfl, rfl, rfl⟩ := hv
  refine ⟨ao, c, by rw [List.length_drop], fun hne => ?_⟩
  have hil : i < l.length := by
    rcases Nat.lt_or_ge i l.length with h | h
    · exact h
    · exact absurd (List.drop_of_length_le h) hne
  have hne2 : l ≠ [] := fun e => by rw [e] at hil; simp at hil
  obtain ⟨g', off', hgo, hcs⟩ := hc hne2
  simp only [Option.some.injEq, Addr.mk.injEq] at hgo
  obtain ⟨rfl, rfl, _⟩ := hgo
  refine ⟨g, off + i * 6, ha hil, fun j p hp => ?_⟩
  rw [List.getElem?_drop] at hp
  have h1 := hcs (i + j) p hp
  rw [show off + i * 6 + j * 6 = off + (i + j) * 6 by omega]
  exact h1

section
variable {W w : World} {F : Nat → Prop} {D B : Nat} {L : List Rc} {last : Int}

theorem StoreAt.list (hA : StoreAt W F D B L last w) : ∃ v, w.cell? ⟨D, 0, none⟩ = some v ∧ D < w.heap.size ∧ RecsAt w v L ∧ L.length ≤ 200 ∧ (∀ r ∈ L, r.subj.length ≤ 1048576) ∧ Row w 33 6 v L.length (recsV L) := by
  obtain ⟨M, x, N, I, v, h, hR, _, _⟩ := hA.ex
  refine ⟨v, (fourS h.cell).1, h.lt, row_recs h.row, hR.few, fun r hr => ?_, h.row⟩
  have := (good_parts (hR.good r hr).1 (hR.good r hr).2).2.1
  omega

set_option maxHeartbeats 4000000 in
set_option maxRecDepth 100000 in
theorem last_any (hA : StoreAt W F D B L last w) (hm : ML W) (f : ByteArray) (hf : f.size ≤ 1048576) :
    Calls Tryz.prog 81 #[.pointer (some ⟨D, 0, none⟩), .string f] w fun e w' => e = .returned (.tuple #[recV (seekR (Subj.err true f.data.toList) (L.reverse.find? (tk f.data.toList))).1, .int .i64 ((seekR (Subj.err true f.data.toList) (L.reverse.find? (tk f.data.toList))).2 : Nat)]) ∧ Below w.heap.size w w' := by
  obtain ⟨w1, hw1⟩ : ∃ w1, w1 = w.alloc (.cells #[.int .i64 0, .int .i64 0, .int .i64 0, .string ⟨#[]⟩, .string ⟨#[]⟩, .string ⟨#[]⟩] 33) := ⟨_, rfl⟩
  have hb1 : Below w.heap.size w w1 := by rw [hw1]; exact (Below.refl _ _).alloc (Nat.le_refl _) _
  have hea : w1.heap[w.heap.size]? = some (.cells #[.int .i64 0, .int .i64 0, .int .i64 0, .string ⟨#[]⟩, .string ⟨#[]⟩, .string ⟨#[]⟩] 33 (0, 0)) := by rw [hw1]; exact heap_alloc_new w _
  obtain ⟨rb, hrb⟩ : ∃ rb, w.heap.size = rb := ⟨_, rfl⟩
  rw [hrb] at hea
  obtain ⟨v, c0, hlt, hrec, hfew, hz, _⟩ := (hA.next hb1).list
  have hsk := seek_any (W := W) (hA.next hb1).below hm f hf hrec (by omega) hz true
  rw [show order true L = L.reverse from rfl] at hsk
  generalize seekR (Subj.err true f.data.toList) (L.reverse.find? (tk f.data.toList)) = R at *
  obtain ⟨r, er⟩ := R
  obtain ⟨s, h, d, hpp⟩ := parts r
  have hrv : recV r = .agg #[.int .i64 r.kind, .int .i64 r.seq, .int .i64 r.time, .string s, .string h, .string d] := by unfold recV; rw [hpp.s1, hpp.h1, hpp.d1]
  simp only [hrv] at hsk ⊢
  have HSK := Lib.hid hsk; have HB1 := Lib.hid hb1; have HEA := Lib.hid hea; have HRB := Lib.hid hrb
  have hrbl := heap_lt hea
  generalize r.kind = kd at *
  generalize r.seq = sq at *
  generalize r.time = tm at *
  clear hA hb1 hea hrb hrec hz hsk hrv hpp hm hf
  go_enter Tryz.func81, Tryz.ntmps81
  go_upto_region 1 with fail
  rw [← hw1, HRB.out]
  clear hw1
  go_wp2_with fail
  refine HSK.out.mono ?_
  rintro e w2 ⟨rfl, hb2⟩
  have hea2 := (hb2.block rb hrbl).trans HEA.out
  obtain ⟨q0, q1, q2, q3, q4, q5⟩ := sixC hea2
  have zf : ∀ j, w2.frozen? ⟨rb, j, none⟩ = false := fun j => frozen_of_row w2 rb j _ _ hea2
  have hrbl2 := heap_lt hea2
  have HF2 := Lib.hid (below6 (HB1.out.trans (hb2.mono HB1.out.size)) (Nat.le_of_eq HRB.out) (.int .i64 kd) (.int .i64 sq) (.int .i64 tm) (.string s) (.string h) (.string d))
  have HR6 := Lib.hid (set6 (.int .i64 kd) (.int .i64 sq) (.int .i64 tm) (.string s) (.string h) (.string d) hea2)
  clear hb2 hea2 HSK HEA hrbl
  go_wp2_with fail
  refine bodyPost_ret (v := .tuple #[.agg #[.int .i64 kd, .int .i64 sq, .int .i64 tm, .string s, .string h, .string d], .int .i64 er]) (res_rec2 4 5 Tryz.results81 _ _ rb rfl rfl HR6.out) rfl ?_
  exact ⟨rfl, HF2.out⟩

set_option maxHeartbeats 4000000 in
set_option maxRecDepth 100000 in
theorem next_from (hA : StoreAt W F D B L last w) (hm : ML W) (f : ByteArray) (hf : f.size ≤ 1048576) (q0 q : Int) (hmx : max q0 0 = q) (hq : 0 ≤ q ∧ q ≤ 9223372036854775807) :
    Calls Tryz.prog 86 #[.pointer (some ⟨D, 0, none⟩), .string f, .int .i64 q0] w fun e w' => ∃ i, (∀ r ∈ L.take i, r.seq < q) ∧ (∀ r ∈ L.drop i, q ≤ r.seq) ∧ e = .returned (.tuple #[recV (seekR (Subj.err true f.data.toList) ((L.drop i).find? (tk f.data.toList))).1, .int .i64 ((seekR (Subj.err true f.data.toList) ((L.drop i).find? (tk f.data.toList))).2 : Nat)]) ∧ Below w.heap.size w w' := by
  obtain ⟨w1, hw1⟩ : ∃ w1, w1 = w.alloc (.cells #[.int .i64 0, .int .i64 0, .int .i64 0, .string ⟨#[]⟩, .string ⟨#[]⟩, .string ⟨#[]⟩] 33) := ⟨_, rfl⟩
  have hb1 : Below w.heap.size w w1 := by rw [hw1]; exact (Below.refl _ _).alloc (Nat.le_refl _) _
  have hea : w1.heap[w.heap.size]? = some (.cells #[.int .i64 0, .int .i64 0, .int .i64 0, .string ⟨#[]⟩, .string ⟨#[]⟩, .string ⟨#[]⟩] 33 (0, 0)) := by rw [hw1]; exact heap_alloc_new w _
  obtain ⟨rb, hrb⟩ : ∃ rb, w.heap.size = rb := ⟨_, rfl⟩
  rw [hrb] at hea
  have hA1 := hA.next hb1
  obtain ⟨M, x, N, I, v', hS, hR, _, _⟩ := hA1.ex
  have hpl := place_rec hS (by have := hR.few; omega) q
  have HA1 := Lib.hid hA1; have HPL := Lib.hid hpl; have HB1 := Lib.hid hb1; have HEA := Lib.hid hea; have HRB := Lib.hid hrb; have HR := Lib.hid hR; have HML := Lib.hid hm
  have hrbl := heap_lt hea
  clear hA hb1 hea hrb hA1 hS hR hpl hm
  go_enter Tryz.func86, Tryz.ntmps86
  go_upto_region 1 with fail
  rw [← hw1, HRB.out]
  clear hw1
  go_wp2_with fail
  refine HPL.out.mono ?_
  rintro e w2 ⟨i, fd, rfl, hfo, hb2⟩
  obtain ⟨hlo, hhi, _, _⟩ := hfo.in HR.out.rise HR.out.seqs (by omega)
  have hile := hfo.le
  have HLO := Lib.hid hlo; have HHI := Lib.hid hhi
  have HA2 := Lib.hid (HA1.out.next hb2)
  have hea2 := (hb2.block rb hrbl).trans HEA.out
  have HEA2 := Lib.hid hea2
  have HB2 := Lib.hid (HB1.out.trans (hb2.mono HB1.out.size))
  obtain ⟨v, c0, hlt, hrec, hfew, hz, hrow⟩ := HA2.out.list
  obtain ⟨n, hnL⟩ : ∃ n, L.length = n := ⟨_, rfl⟩
  rw [hnL] at hfew hile hrow
  have HZ := Lib.hid hz; have HREC := Lib.hid hrec; have HNL := Lib.hid hnL
  have hrbl2 := heap_lt hea2
  clear hb2 hfo hlo hhi hea2 HPL hz hrec hnL hrbl
  -- what is behind the place
  have key : ∀ ao c, RecsAt w2 (.slice ao (n - i) c) (L.drop i) → Calls Tryz.prog 140 #[.string f, .slice ao (n - i) c, .bool false] w2 fun e w' => e = .returned (.tuple #[recV (seekR (Subj.err true f.data.toList) ((L.drop i).find? (tk f.data.toList))).1, .int .i64 ((seekR (Subj.err true f.data.toList) ((L.drop i).find? (tk f.data.toList))).2 : Nat)]) ∧ Below w2.heap.size w2 w' := fun ao c hr =>
    seek_any (W := W) HA2.out.below HML.out f hf hr (by rw [List.length_drop, HNL.out]; omega) (fun r hr => HZ.out r (List.mem_of_mem_drop hr)) false
  obtain ⟨R, hRR⟩ : ∃ R, seekR (Subj.err true f.data.toList) ((L.drop i).find? (tk f.data.toList)) = R := ⟨_, rfl⟩
  rw [hRR] at key
  obtain ⟨r, er⟩ := R
  obtain ⟨s, h, d, hpp⟩ := parts r
  have hrv : recV r = .agg #[.int .i64 r.kind, .int .i64 r.seq, .int .i64 r.time, .string s, .string h, .string d] := by unfold recV; rw [hpp.s1, hpp.h1, hpp.d1]
  simp only [hrv] at key
  have HRV := Lib.hid hrv; have HRR := Lib.hid hRR
  obtain ⟨kd, hkd⟩ : ∃ kd, r.kind = kd := ⟨_, rfl⟩
  obtain ⟨sq, hsq⟩ : ∃ sq, r.seq = sq := ⟨_, rfl⟩
  obtain ⟨tm, htm⟩ : ∃ tm, r.time = tm := ⟨_, rfl⟩
  rw [hkd, hsq, htm] at key HRV
  have HKEY := Lib.hid key
  have hiz : (i : Int) ≤ n := by omega
  clear key hrv hRR hpp hkd hsq htm
  have HEND := Lib.hid (show ∀ w3, Below w2.heap.size w2 w3 → w3.heap[rb]? = some (.cells #[.int .i64 0, .int .i64 0, .int .i64 0, .string ⟨#[]⟩, .string ⟨#[]⟩, .string ⟨#[]⟩] 33 (0, 0)) from fun w3 hb3 => (hb3.block rb hrbl2).trans HEA2.out)
  rcases hrow.2 with ⟨rfl, h0⟩ | ⟨g, off, cap, cur, rfl, hgg, hle, hcapm, _⟩
  · obtain rfl : i = 0 := by omega
    subst h0
    have HS := Lib.hid (HKEY.out none 0 (by
      have hL : L = [] := List.eq_nil_of_length_eq_zero HNL.out
      rw [hL]; exact ⟨none, 0, rfl, fun h => absurd rfl h⟩))
    clear hrow HKEY
    go_wp2_with fail
    refine HS.out.mono ?_
    rintro e w3 ⟨rfl, hb3⟩
    have hea3 := HEND.out w3 hb3
    obtain ⟨q0, q1, q2, q3, q4, q5⟩ := sixC hea3
    have zf : ∀ j, w3.frozen? ⟨rb, j, none⟩ = false := fun j => frozen_of_row w3 rb j _ _ hea3
    have hrbl3 := heap_lt hea3
    have HF2 := Lib.hid (below6 (HB2.out.trans (hb3.mono HB2.out.size)) (Nat.le_of_eq HRB.out) (.int .i64 kd) (.int .i64 sq) (.int .i64 tm) (.string s) (.string h) (.string d))
    have HR6 := Lib.hid (set6 (.int .i64 kd) (.int .i64 sq) (.int .i64 tm) (.string s) (.string h) (.string d) hea3)
    clear hb3 hea3 HS
    go_wp2_with fail
    refine bodyPost_ret (v := .tuple #[.agg #[.int .i64 kd, .int .i64 sq, .int .i64 tm, .string s, .string h, .string d], .int .i64 er]) (res_rec2 6 7 Tryz.results86 _ _ rb rfl rfl HR6.out) rfl ?_
    exact ⟨0, HLO.out, HHI.out, by rw [HRR.out]; simp only; rw [← HRV.out], HF2.out⟩
  · by_cases hci : cap = i
    · subst hci
      have hni : n = cap := by omega
      subst hni
      have HS := Lib.hid (HKEY.out (some ⟨g, off, none⟩) 0 (HREC.out.tail n (Nat.le_refl _) _ _ (fun h => absurd h (Nat.lt_irrefl _))))
      rw [Nat.sub_self] at HS
      clear hrow HKEY hgg
      go_wp2_with fail
      refine HS.out.mono ?_
      rintro e w3 ⟨rfl, hb3⟩
      have hea3 := HEND.out w3 hb3
      obtain ⟨q0, q1, q2, q3, q4, q5⟩ := sixC hea3
      have zf : ∀ j, w3.frozen? ⟨rb, j, none⟩ = false := fun j => frozen_of_row w3 rb j _ _ hea3
      have hrbl3 := heap_lt hea3
      have HF2 := Lib.hid (below6 (HB2.out.trans (hb3.mono HB2.out.size)) (Nat.le_of_eq HRB.out) (.int .i64 kd) (.int .i64 sq) (.int .i64 tm) (.string s) (.string h) (.string d))
      have HR6 := Lib.hid (set6 (.int .i64 kd) (.int .i64 sq) (.int .i64 tm) (.string s) (.string h) (.string d) hea3)
      clear hb3 hea3 HS
      go_wp2_with fail
      refine bodyPost_ret (v := .tuple #[.agg #[.int .i64 kd, .int .i64 sq, .int .i64 tm, .string s, .string h, .string d], .int .i64 er]) (res_rec2 6 7 Tryz.results86 _ _ rb rfl rfl HR6.out) rfl ?_
      exact ⟨n, HLO.out, HHI.out, by rw [HRR.out]; simp only; rw [← HRV.out], HF2.out⟩
    · have HS := Lib.hid (HKEY.out (some ⟨g, off + i * 6, none⟩) (cap - i) (HREC.out.tail i hile _ _ (fun _ => rfl)))
      have hci2 : (i : Int) ≤ cap := by omega
      clear hrow HKEY hgg
      go_wp2_with fail
      refine HS.out.mono ?_
      rintro e w3 ⟨rfl, hb3⟩
      have hea3 := HEND.out w3 hb3
      obtain ⟨q0, q1, q2, q3, q4, q5⟩ := sixC hea3
      have zf : ∀ j, w3.frozen? ⟨rb, j, none⟩ = false := fun j => frozen_of_row w3 rb j _ _ hea3
      have hrbl3 := heap_lt hea3
      have HF2 := Lib.hid (below6 (HB2.out.trans (hb3.mono HB2.out.size)) (Nat.le_of_eq HRB.out) (.int .i64 kd) (.int .i64 sq) (.int .i64 tm) (.string s) (.string h) (.string d))
      have HR6 := Lib.hid (set6 (.int .i64 kd) (.int .i64 sq) (.int .i64 tm) (.string s) (.string h) (.string d) hea3)
      clear hb3 hea3 HS
      go_wp2_with fail
      refine bodyPost_ret (v := .tuple #[.agg #[.int .i64 kd, .int .i64 sq, .int .i64 tm, .string s, .string h, .string d], .int .i64 er]) (res_rec2 6 7 Tryz.results86 _ _ rb rfl rfl HR6.out) rfl ?_
      exact ⟨i, HLO.out, HHI.out, by rw [HRR.out]; simp only; rw [← HRV.out], HF2.out⟩

end
end Go.Proofs.YtidacfhdhdnidaaGreatDoor.Sto

namespace Go.Proofs.YtidacfhdhdnidaaGreatDoor.Sto
open Go.RowKit Heap
open Subj (Tok ML pieces takes)
open Rec (Rc recErr far)
open Idx (Ents ptrV)

/-- The message of a number. -/
def getQ (L : List Rc) (q : Int) : Option Rc := L.find? fun r => r.seq == q

/-- What is told of a number. -/
def GetPost (w : World) (o : Option Rc) (e : Ending) (w' : World) : Prop := e = .returned (.tuple #[recV (seekR 0 o).1, .int .i64 ((seekR 0 o).2 : Nat)]) ∧ Below w.heap.size w w'

theorem getQ_none {L : List Rc} {q : Int} (h : ∀ r ∈ L, r.seq ≠ q) : getQ L q = none := by
  unfold getQ
  rw [List.find?_eq_none]
  intro r hr
  have := h r hr
  simpa using this

theorem getQ_at {L : List Rc} {q : Int} {i : Nat} {p : Rc} (h : ∀ r ∈ L.take i, r.seq ≠ q) (hp : L[i]? = some p) (hq : p.seq = q) : getQ L q = some p := by
  unfold getQ
  exact find_nth (k := i) (fun x hx => by have := h x hx; simpa using this) hp (by simpa using hq)

theorem Found.get {L : List Rc} {i : Nat} {fd : Bool} {q : Int} (h : Found L q i fd) (hr : L.Pairwise fun a b => a.seq < b.seq) (hs : ∀ r ∈ L, 0 ≤ r.seq ∧ r.seq ≤ far) (hq : -9223372036854775808 ≤ q ∧ q ≤ 9223372036854775807) :
    (fd = false → getQ L q = none) ∧ (fd = true → ∃ p, L[i]? = some p ∧ getQ L q = some p) := by
  by_cases hin : 0 ≤ q
  · obtain ⟨h1, h2, h3, h4⟩ := h.in hr hs ⟨by omega, hq.2⟩
    refine ⟨fun hf => getQ_none fun r hm e => ?_, fun hf => ?_⟩
    · rw [hf] at h3
      have : hasSeq L q = true := by unfold hasSeq; rw [List.any_eq_true]; exact ⟨r, hm, by simpa using e⟩
      rw [this] at h3; cases h3
    · obtain ⟨p, hp, hpq⟩ := h4 hf
      exact ⟨p, hp, getQ_at (fun r hr => by have := h1 r hr; omega) hp hpq⟩
  · have hno : ∀ r ∈ L, r.seq ≠ q := fun r hm e => by have := hs r hm; omega
    refine ⟨fun _ => getQ_none hno, fun hf => ?_⟩
    obtain ⟨r, h1, h2⟩ := h.yes hf
    have hm := List.mem_of_getElem? h1
    exact absurd (cmpR_zero (hs r hm) hq h2) (hno r hm)

section
variable {W w : World} {F : Nat → Prop} {D B C : Nat} {L : List Rc} {last : Int} {v : Value} {I : Ents}

set_option maxHeartbeats 4000000 in
set_option maxRecDepth 100000 in
theorem get_any (hA : StoreAt W F D B L last w) (q : Int) (hq : -9223372036854775808 ≤ q ∧ q ≤ 9223372036854775807) :
    Calls Tryz.prog 120 #[.pointer (some ⟨D, 0, none⟩), .int .i64 q] w (GetPost w (getQ L q)) := by
  obtain ⟨w1, hw1⟩ : ∃ w1, w1 = w.alloc (.cells #[.int .i64 0, .int .i64 0, .int .i64 0, .string ⟨#[]⟩, .string ⟨#[]⟩, .string ⟨#[]⟩] 33) := ⟨_, rfl⟩
  have hb1 : Below w.heap.size w w1 := by rw [hw1]; exact (Below.refl _ _).alloc (Nat.le_refl _) _
  have hea : w1.heap[w.heap.size]? = some (.cells #[.int .i64 0, .int .i64 0, .int .i64 0, .string ⟨#[]⟩, .string ⟨#[]⟩, .string ⟨#[]⟩] 33 (0, 0)) := by rw [hw1]; exact heap_alloc_new w _
  obtain ⟨rb, hrb⟩ : ∃ rb, w.heap.size = rb := ⟨_, rfl⟩
  rw [hrb] at hea
  have hA1 := hA.next hb1
  obtain ⟨M, x, N, I, v', hS, hR, _, _⟩ := hA1.ex
  have hpl := place_rec hS (by have := hR.few; omega) q
  obtain ⟨o, ho⟩ : ∃ o, getQ L q = o := ⟨_, rfl⟩
  have HA1 := Lib.hid hA1; have HPL := Lib.hid hpl; have HB1 := Lib.hid hb1; have HEA := Lib.hid hea; have HRB := Lib.hid hrb; have HR := Lib.hid hR; have HO := Lib.hid ho
  rw [ho]
  unfold GetPost
  have hrbl := heap_lt hea
  clear hA hb1 hea hrb hA1 hS hR hpl ho
  go_enter Tryz.func120, Tryz.ntmps120
  go_upto_region 1 with fail
  rw [← hw1, HRB.out]
  clear hw1
  go_wp2_with fail
  refine HPL.out.mono ?_
  rintro e w2 ⟨i, fd, rfl, hfo, hb2⟩
  obtain ⟨hno, hyes⟩ := hfo.get HR.out.rise HR.out.seqs hq
  rw [HO.out] at hno hyes
  have HNO := Lib.hid hno; have HYES := Lib.hid hyes
  have HA2 := Lib.hid (HA1.out.next hb2)
  have hea2 := (hb2.block rb hrbl).trans HEA.out
  have HB2 := Lib.hid (HB1.out.trans (hb2.mono HB1.out.size))
  obtain ⟨q0, q1, q2, q3, q4, q5⟩ := sixC hea2
  have zf : ∀ j, w2.frozen? ⟨rb, j, none⟩ = false := fun j => frozen_of_row w2 rb j _ _ hea2
  have hrbl2 := heap_lt hea2
  have HEA2 := Lib.hid hea2
  clear hb2 hfo hno hyes hea2 HPL hrbl
  cases fd with
  | false =>
    obtain rfl : o = none := HNO.out rfl
    have HF2 := Lib.hid (below6 HB2.out (Nat.le_of_eq HRB.out) (.int .i64 0) (.int .i64 0) (.int .i64 0) (.string ⟨#[]⟩) (.string ⟨#[]⟩) (.string ⟨#[]⟩))
    have HR6 := Lib.hid (set6 (.int .i64 0) (.int .i64 0) (.int .i64 0) (.string ⟨#[]⟩) (.string ⟨#[]⟩) (.string ⟨#[]⟩) HEA2.out)
    go_wp2_with fail
    refine bodyPost_ret (v := .tuple #[.agg #[.int .i64 0, .int .i64 0, .int .i64 0, .string ⟨#[]⟩, .string ⟨#[]⟩, .string ⟨#[]⟩], .int .i64 4]) (res_rec2 4 5 Tryz.results120 _ _ rb rfl rfl HR6.out) rfl ?_
    exact ⟨rfl, HF2.out⟩
  | true =>
    obtain ⟨p, hp, ho⟩ := HYES.out rfl
    subst ho
    obtain ⟨vv, c0, hlt, hrec, hfew, hz, hrow⟩ := HA2.out.list
    obtain ⟨n, hnL⟩ : ∃ n, L.length = n := ⟨_, rfl⟩
    rw [hnL] at hfew hrow
    have hin : i < n := by rw [← hnL]; exact (List.getElem?_eq_some_iff.1 hp).1
    have hiz : (i : Int) < n := by omega
    rcases hrow.2 with ⟨_, h0⟩ | ⟨g, off, cap, cur, rfl, hgg, _⟩
    · omega
    obtain ⟨m0, m1, m2, m3, m4, m5⟩ := cells_rec hrow i p hp hin
    obtain ⟨s, h, d, hpp⟩ := parts p
    rw [hpp.s1] at m3
    rw [hpp.h1] at m4
    rw [hpp.d1] at m5
    have hrv : recV p = .agg #[.int .i64 p.kind, .int .i64 p.seq, .int .i64 p.time, .string s, .string h, .string d] := by unfold recV; rw [hpp.s1, hpp.h1, hpp.d1]
    have HRV := Lib.hid hrv
    have HF2 := Lib.hid (below6 HB2.out (Nat.le_of_eq HRB.out) (.int .i64 p.kind) (.int .i64 p.seq) (.int .i64 p.time) (.string s) (.string h) (.string d))
    have HR6 := Lib.hid (set6 (.int .i64 p.kind) (.int .i64 p.seq) (.int .i64 p.time) (.string s) (.string h) (.string d) HEA2.out)
    clear hp hz hrec hrow hgg hpp hrv hnL HNO HYES
    go_wp2_with fail
    refine bodyPost_ret (v := .tuple #[.agg #[.int .i64 p.kind, .int .i64 p.seq, .int .i64 p.time, .string s, .string h, .string d], .int .i64 0]) (res_rec2 4 5 Tryz.results120 _ _ rb rfl rfl HR6.out) rfl ?_
    exact ⟨by rw [show seekR 0 (some p) = (p, 0) from rfl, HRV.out]; rfl, HF2.out⟩

set_option maxHeartbeats 4000000 in
set_option maxRecDepth 100000 in
theorem get_ch (h : ChAt W C v L last w) (hR : Right L last I) (q : Int) :
    Calls Tryz.prog 89 #[.pointer (some ⟨C, 0, none⟩), .int .i64 q] w (GetPost w (getQ L q)) := by
  obtain ⟨n, hn⟩ : ∃ n, L.length = n := ⟨_, rfl⟩
  have hn200 : n ≤ 200 := by rw [← hn]; exact hR.few
  obtain ⟨va, vc, hv⟩ := h.row.slice
  rw [hn] at hv
  subst hv
  obtain ⟨w1, hw1⟩ : ∃ w1, w1 = w.alloc (.cells #[.int .i64 0, .int .i64 0, .int .i64 0, .string ⟨#[]⟩, .string ⟨#[]⟩, .string ⟨#[]⟩] 33) := ⟨_, rfl⟩
  have hb1 : Below w.heap.size w w1 := by rw [hw1]; exact (Below.refl _ _).alloc (Nat.le_refl _) _
  have hea : w1.heap[w.heap.size]? = some (.cells #[.int .i64 0, .int .i64 0, .int .i64 0, .string ⟨#[]⟩, .string ⟨#[]⟩, .string ⟨#[]⟩] 33 (0, 0)) := by rw [hw1]; exact heap_alloc_new w _
  obtain ⟨rb, hrb⟩ : ∃ rb, w.heap.size = rb := ⟨_, rfl⟩
  rw [hrb] at hea
  have h1 := h.next hb1
  obtain ⟨c0, c1, cf⟩ := twoC h1.cell
  have hlt := heap_lt h1.cell
  obtain ⟨q0, q1, q2, q3, q4, q5⟩ := sixC hea
  have zf : ∀ j, w1.frozen? ⟨rb, j, none⟩ = false := fun j => frozen_of_row w1 rb j _ _ hea
  have hrbl := heap_lt hea
  obtain ⟨o, ho⟩ : ∃ o, getQ L q = o := ⟨_, rfl⟩
  have HC := Lib.hid h1; have HB1 := Lib.hid hb1; have HEA := Lib.hid hea; have HRB := Lib.hid hrb; have HO := Lib.hid ho; have HN := Lib.hid hn; have HR := Lib.hid hR
  rw [ho]
  unfold GetPost
  clear h hb1 hea hrb h1 ho hn hR
  go_enter Tryz.func89, Tryz.ntmps89
  go_upto_region 1 with fail
  rw [← hw1, HRB.out]
  clear hw1
  go_wp2_with fail
  go_loopw [6] (fun i wr => ∃ k : Nat, k ≤ n ∧ i = .int .i64 k ∧ wr = w1 ∧ Hid (∀ r ∈ L.take k, r.seq ≠ q)) (fun i _ => n - (intOf i).toNat)
  case atStart => exact ⟨0, Nat.zero_le _, rfl, rfl, Lib.hid fun r hr => by simp at hr⟩
  case round =>
    obtain ⟨k, hk, rfl, rfl, HNO⟩ := hrel
    by_cases hlt2 : k < n
    · have hltz : (k : Int) < n := by omega
      obtain ⟨p, hp⟩ : ∃ p, L[k]? = some p := ⟨_, List.getElem?_eq_getElem (by rw [HN.out]; exact hlt2)⟩
      have hrow := HC.out.row
      rw [HN.out] at hrow
      rcases hrow.2 with ⟨_, h0⟩ | ⟨g, off, cap, cur, ev, hgg, _⟩
      · omega
      simp only [Value.slice.injEq, true_and] at ev
      obtain ⟨rfl, rfl⟩ := ev
      obtain ⟨m0, m1, m2, m3, m4, m5⟩ := cells_rec hrow k p hp hlt2
      obtain ⟨s, h, d, hpp⟩ := parts p
      rw [hpp.s1] at m3
      rw [hpp.h1] at m4
      rw [hpp.d1] at m5
      by_cases hpq : p.seq = q
      · have hog := getQ_at HNO.out hp hpq
        rw [HO.out] at hog
        subst hog
        have hrv : recV p = .agg #[.int .i64 p.kind, .int .i64 p.seq, .int .i64 p.time, .string s, .string h, .string d] := by unfold recV; rw [hpp.s1, hpp.h1, hpp.d1]
        have HRV := Lib.hid hrv
        subst hpq
        have HF2 := Lib.hid (below6 HB1.out (Nat.le_of_eq HRB.out) (.int .i64 p.kind) (.int .i64 p.seq) (.int .i64 p.time) (.string s) (.string h) (.string d))
        have HR6 := Lib.hid (set6 (.int .i64 p.kind) (.int .i64 p.seq) (.int .i64 p.time) (.string s) (.string h) (.string d) HEA.out)
        clear hp hrow hgg hpp hrv
        go_wp2_with fail
        refine bodyPost_ret (v := .tuple #[.agg #[.int .i64 p.kind, .int .i64 p.seq, .int .i64 p.time, .string s, .string h, .string d], .int .i64 0]) (res_rec2 4 5 Tryz.results89 _ _ rb rfl rfl HR6.out) rfl ?_
        exact ⟨by rw [show seekR 0 (some p) = (p, 0) from rfl, HRV.out]; rfl, HF2.out⟩
      · have HNO2 := Lib.hid (show ∀ r ∈ L.take (k + 1), r.seq ≠ q from fun r hr => by
          rw [take_snoc hp, List.mem_append] at hr
          rcases hr with hr | hr
          · exact HNO.out r hr
          · rw [List.mem_singleton] at hr; rw [hr]; exact hpq)
        clear hp hrow hgg hpp
        go_wp2_with fail
        exact ⟨⟨k + 1, by omega, by go_num, trivial, HNO2⟩, by simp [intOf]; omega⟩
    · have hltz : ¬ (k : Int) < n := by omega
      obtain rfl : k = n := by omega
      have hog := getQ_none (q := q) (L := L) (by have := HNO.out; rwa [List.take_of_length_le (by rw [HN.out]; exact Nat.le_refl _)] at this)
      rw [HO.out] at hog
      subst hog
      have HF2 := Lib.hid (below6 HB1.out (Nat.le_of_eq HRB.out) (.int .i64 0) (.int .i64 0) (.int .i64 0) (.string ⟨#[]⟩) (.string ⟨#[]⟩) (.string ⟨#[]⟩))
      have HR6 := Lib.hid (set6 (.int .i64 0) (.int .i64 0) (.int .i64 0) (.string ⟨#[]⟩) (.string ⟨#[]⟩) (.string ⟨#[]⟩) HEA.out)
      go_wp2_with fail
      refine bodyPost_ret (v := .tuple #[.agg #[.int .i64 0, .int .i64 0, .int .i64 0, .string ⟨#[]⟩, .string ⟨#[]⟩, .string ⟨#[]⟩], .int .i64 4]) (res_rec2 4 5 Tryz.results89 _ _ rb rfl rfl HR6.out) rfl ?_
      exact ⟨rfl, HF2.out⟩
end
end Go.Proofs.YtidacfhdhdnidaaGreatDoor.Sto
