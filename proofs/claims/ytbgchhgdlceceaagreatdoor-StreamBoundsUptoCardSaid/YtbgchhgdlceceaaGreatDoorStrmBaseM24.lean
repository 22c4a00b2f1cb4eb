/- Parts of the proof, joined: (*Store).Next, Last, walked.; Get, of the store and of the reference's chest, walked.; The reference's chest: Seek, walked.; The law StorePurges, walked: it returns true.; The law StoreSums, walked: it returns true.; The reference's chest: Apply, walked.; A store and the reference's chest side by side in memory.; sameStore, walked.; The law StorePlays, walked: it returns true.; A vault in plain Lean: what was done is there behind a stop; made compact it is, too. No program here. -/
import Derived.Test.YtbgchhgdlceceaaGreatDoorStrmBaseM23
namespace Go.Proofs.YtbgchhgdlceceaaGreatDoor.Sto
open Go.RowKit Heap
open Subj (Tok ML pieces takes StrsAt)
open Rec (Rc recErr far)
open Idx (Ents ptrV)

theorem RecsAt.tail {w : World} {g off n cap : Nat} {l : List Rc} (h : RecsAt w (.slice (some ⟨g, off, none⟩) n cap) l) (i : Nat) (hi : i ≤ n) (ao : Option Addr) (c : Nat) (ha : i < n → ao = some ⟨g, off + i * 6, none⟩) : RecsAt w (.slice ao (n - i) c) (l.drop i) := by
  obtain ⟨a', c', hv, hc⟩ := h
  simp only [Value.slice.injEq] at hv
  obtain ⟨rfl, rfl, rfl⟩ := hv
  refine ⟨ao, c, by rw [List.length_drop], fun hne => ?_⟩
  have hil : i < l.length := by
    rcases Nat.lt_or_ge i l.length with h | h
    · exact h
    · exact absurd (List.drop_of_length_le h) hne
  have hne2 : l ≠ [] := fun e => by rw [e] at hil; simp at hil
  obtain ⟨g', off', hgo, hcs⟩ := hc hne2
  simp only [Option.some.injEq, Addr.mk.injEq] at hgo
  obtain ⟨rfl, rfl, _⟩ := hgo
  refine ⟨g, off + i * 6, ha hil, fun j p hp => ?_⟩
  rw [List.getElem?_drop] at hp
  have h1 := hcs (i + j) p hp
  rw [show off + i * 6 + j * 6 = off + (i + j) * 6 by omega]
  exact h1

section
variable {W w : World} {F : Nat → Prop} {D B : Nat} {L : List Rc} {last : Int}

theorem StoreAt.list (hA : StoreAt W F D B L last w) : ∃ v, w.cell? ⟨D, 0, none⟩ = some v ∧ D < w.heap.size ∧ RecsAt w v L ∧ L.length ≤ 200 ∧ (∀ r ∈ L, r.subj.length ≤ 1048576) ∧ Row w 33 6 v L.length (recsV L) := by
  obtain ⟨M, x, N, I, v, h, hR, _, _⟩ := hA.ex
  refine ⟨v, (fourS h.cell).1, h.lt, row_recs h.row, hR.few, fun r hr => ?_, h.row⟩
  have := (good_parts (hR.good r hr).1 (hR.good r hr).2).2.1
  omega

set_option maxHeartbeats 4000000 in
set_option maxRecDepth 100000 in
theorem last_any (hA : StoreAt W F D B L last w) (hm : ML W) (f : ByteArray) (hf : f.size ≤ 1048576) :
    Calls Tryz.prog 80 #[.pointer (some ⟨D, 0, none⟩), .string f] w fun e w' => e = .returned (.tuple #[recV (seekR (Subj.err true f.data.toList) (L.reverse.find? (tk f.data.toList))).1, .int .i64 ((seekR (Subj.err true f.data.toList) (L.reverse.find? (tk f.data.toList))).2 : Nat)]) ∧ Below w.heap.size w w' := by
  obtain ⟨w1, hw1⟩ : ∃ w1, w1 = w.alloc (.cells #[.int .i64 0, .int .i64 0, .int .i64 0, .string ⟨#[]⟩, .string ⟨#[]⟩, .string ⟨#[]⟩] 33) := ⟨_, rfl⟩
  have hb1 : Below w.heap.size w w1 := by rw [hw1]; exact (Below.refl _ _).alloc (Nat.le_refl _) _
  have hea : w1.heap[w.heap.size]? = some (.cells #[.int .i64 0, .int .i64 0, .int .i64 0, .string ⟨#[]⟩, .string ⟨#[]⟩, .string ⟨#[]⟩] 33 (0, 0)) := by rw [hw1]; exact heap_alloc_new w _
  obtain ⟨rb, hrb⟩ : ∃ rb, w.heap.size = rb := ⟨_, rfl⟩
  rw [hrb] at hea
  obtain ⟨v, c0, hlt, hrec, hfew, hz, _⟩ := (hA.next hb1).list
  have hsk := seek_any (W := W) (hA.next hb1).below hm f hf hrec (by omega) hz true
  rw [show order true L = L.reverse from rfl] at hsk
  generalize seekR (Subj.err true f.data.toList) (L.reverse.find? (tk f.data.toList)) = R at *
  obtain ⟨r, er⟩ := R
  obtain ⟨s, h, d, hpp⟩ := parts r
  have hrv : recV r = .agg #[.int .i64 r.kind, .int .i64 r.seq, .int .i64 r.time, .string s, .string h, .string d] := by unfold recV; rw [hpp.s1, hpp.h1, hpp.d1]
  simp only [hrv] at hsk ⊢
  have HSK := Lib.hid hsk; have HB1 := Lib.hid hb1; have HEA := Lib.hid hea; have HRB := Lib.hid hrb
  have hrbl := heap_lt hea
  generalize r.kind = kd at *
  generalize r.seq = sq at *
  generalize r.time = tm at *
  clear hA hb1 hea hrb hrec hz hsk hrv hpp hm hf
  go_enter Tryz.func80, Tryz.ntmps80
  go_upto_region 1 with fail
  rw [← hw1, HRB.out]
  clear hw1
  go_wp2_with fail
  refine HSK.out.mono ?_
  rintro e w2 ⟨rfl, hb2⟩
  have hea2 := (hb2.block rb hrbl).trans HEA.out
  obtain ⟨q0, q1, q2, q3, q4, q5⟩ := sixC hea2
  have zf : ∀ j, w2.frozen? ⟨rb, j, none⟩ = false := fun j => frozen_of_row w2 rb j _ _ hea2
  have hrbl2 := heap_lt hea2
  have HF2 := Lib.hid (below6 (HB1.out.trans (hb2.mono HB1.out.size)) (Nat.le_of_eq HRB.out) (.int .i64 kd) (.int .i64 sq) (.int .i64 tm) (.string s) (.string h) (.string d))
  have HR6 := Lib.hid (set6 (.int .i64 kd) (.int .i64 sq) (.int .i64 tm) (.string s) (.string h) (.string d) hea2)
  clear hb2 hea2 HSK HEA hrbl
  go_wp2_with fail
  refine bodyPost_ret (v := .tuple #[.agg #[.int .i64 kd, .int .i64 sq, .int .i64 tm, .string s, .string h, .string d], .int .i64 er]) (res_rec2 4 5 Tryz.results80 _ _ rb rfl rfl HR6.out) rfl ?_
  exact ⟨rfl, HF2.out⟩

set_option maxHeartbeats 4000000 in
set_option maxRecDepth 100000 in
theorem next_from (hA : StoreAt W F D B L last w) (hm : ML W) (f : ByteArray) (hf : f.size ≤ 1048576) (q0 q : Int) (hmx : max q0 0 = q) (hq : 0 ≤ q ∧ q ≤ 9223372036854775807) :
    Calls Tryz.prog 85 #[.pointer (some ⟨D, 0, none⟩), .string f, .int .i64 q0] w fun e w' => ∃ i, (∀ r ∈ L.take i, r.seq < q) ∧ (∀ r ∈ L.drop i, q ≤ r.seq) ∧ e = .returned (.tuple #[recV (seekR (Subj.err true f.data.toList) ((L.drop i).find? (tk f.data.toList))).1, .int .i64 ((seekR (Subj.err true f.data.toList) ((L.drop i).find? (tk f.data.toList))).2 : Nat)]) ∧ Below w.heap.size w w' := by
  obtain ⟨w1, hw1⟩ : ∃ w1, w1 = w.alloc (.cells #[.int .i64 0, .int .i64 0, .int .i64 0, .string ⟨#[]⟩, .string ⟨#[]⟩, .string ⟨#[]⟩] 33) := ⟨_, rfl⟩
  have hb1 : Below w.heap.size w w1 := by rw [hw1]; exact (Below.refl _ _).alloc (Nat.le_refl _) _
  have hea : w1.heap[w.heap.size]? = some (.cells #[.int .i64 0, .int .i64 0, .int .i64 0, .string ⟨#[]⟩, .string ⟨#[]⟩, .string ⟨#[]⟩] 33 (0, 0)) := by rw [hw1]; exact heap_alloc_new w _
  obtain ⟨rb, hrb⟩ : ∃ rb, w.heap.size = rb := ⟨_, rfl⟩
  rw [hrb] at hea
  have hA1 := hA.next hb1
  obtain ⟨M, x, N, I, v', hS, hR, _, _⟩ := hA1.ex
  have hpl := place_rec hS (by have := hR.few; omega) q
  have HA1 := Lib.hid hA1; have HPL := Lib.hid hpl; have HB1 := Lib.hid hb1; have HEA := Lib.hid hea; have HRB := Lib.hid hrb; have HR := Lib.hid hR; have HML := Lib.hid hm
  have hrbl := heap_lt hea
  clear hA hb1 hea hrb hA1 hS hR hpl hm
  go_enter Tryz.func85, Tryz.ntmps85
  go_upto_region 1 with fail
  rw [← hw1, HRB.out]
  clear hw1
  go_wp2_with fail
  refine HPL.out.mono ?_
  rintro e w2 ⟨i, fd, rfl, hfo, hb2⟩
  obtain ⟨hlo, hhi, _, _⟩ := hfo.in HR.out.rise HR.out.seqs (by omega)
  have hile := hfo.le
  have HLO := Lib.hid hlo; have HHI := Lib.hid hhi
  have HA2 := Lib.hid (HA1.out.next hb2)
  have hea2 := (hb2.block rb hrbl).trans HEA.out
  have HEA2 := Lib.hid hea2
  have HB2 := Lib.hid (HB1.out.trans (hb2.mono HB1.out.size))
  obtain ⟨v, c0, hlt, hrec, hfew, hz, hrow⟩ := HA2.out.list
  obtain ⟨n, hnL⟩ : ∃ n, L.length = n := ⟨_, rfl⟩
  rw [hnL] at hfew hile hrow
  have HZ := Lib.hid hz; have HREC := Lib.hid hrec; have HNL := Lib.hid hnL
  have hrbl2 := heap_lt hea2
  clear hb2 hfo hlo hhi hea2 HPL hz hrec hnL hrbl
  -- what is behind the place
  have key : ∀ ao c, RecsAt w2 (.slice ao (n - i) c) (L.drop i) → Calls Tryz.prog 159 #[.string f, .slice ao (n - i) c, .bool false] w2 fun e w' => e = .returned (.tuple #[recV (seekR (Subj.err true f.data.toList) ((L.drop i).find? (tk f.data.toList))).1, .int .i64 ((seekR (Subj.err true f.data.toList) ((L.drop i).find? (tk f.data.toList))).2 : Nat)]) ∧ Below w2.heap.size w2 w' := fun ao c hr =>
    seek_any (W := W) HA2.out.below HML.out f hf hr (by rw [List.length_drop, HNL.out]; omega) (fun r hr => HZ.out r (List.mem_of_mem_drop hr)) false
  obtain ⟨R, hRR⟩ : ∃ R, seekR (Subj.err true f.data.toList) ((L.drop i).find? (tk f.data.toList)) = R := ⟨_, rfl⟩
  rw [hRR] at key
  obtain ⟨r, er⟩ := R
  obtain ⟨s, h, d, hpp⟩ := parts r
  have hrv : recV r = .agg #[.int .i64 r.kind, .int .i64 r.seq, .int .i64 r.time, .string s, .string h, .string d] := by unfold recV; rw [hpp.s1, hpp.h1, hpp.d1]
  simp only [hrv] at key
  have HRV := Lib.hid hrv; have HRR := Lib.hid hRR
  obtain ⟨kd, hkd⟩ : ∃ kd, r.kind = kd := ⟨_, rfl⟩
  obtain ⟨sq, hsq⟩ : ∃ sq, r.seq = sq := ⟨_, rfl⟩
  obtain ⟨tm, htm⟩ : ∃ tm, r.time = tm := ⟨_, rfl⟩
  rw [hkd, hsq, htm] at key HRV
  have HKEY := Lib.hid key
  have hiz : (i : Int) ≤ n := by omega
  clear key hrv hRR hpp hkd hsq htm
  have HEND := Lib.hid (show ∀ w3, Below w2.heap.size w2 w3 → w3.heap[rb]? = some (.cells #[.int .i64 0, .int .i64 0, .int .i64 0, .string ⟨#[]⟩, .string ⟨#[]⟩, .string ⟨#[]⟩] 33 (0, 0)) from fun w3 hb3 => (hb3.block rb hrbl2).trans HEA2.out)
  rcases hrow.2 with ⟨rfl, h0⟩ | ⟨g, off, cap, cur, rfl, hgg, hle, hcapm, _⟩
  · obtain rfl : i = 0 := by omega
    subst h0
    have HS := Lib.hid (HKEY.out none 0 (by
      have hL : L = [] := List.eq_nil_of_length_eq_zero HNL.out
      rw [hL]; exact ⟨none, 0, rfl, fun h => absurd rfl h⟩))
    clear hrow HKEY
    go_wp2_with fail
    refine HS.out.mono ?_
    rintro e w3 ⟨rfl, hb3⟩
    have hea3 := HEND.out w3 hb3
    obtain ⟨q0, q1, q2, q3, q4, q5⟩ := sixC hea3
    have zf : ∀ j, w3.frozen? ⟨rb, j, none⟩ = false := fun j => frozen_of_row w3 rb j _ _ hea3
    have hrbl3 := heap_lt hea3
    have HF2 := Lib.hid (below6 (HB2.out.trans (hb3.mono HB2.out.size)) (Nat.le_of_eq HRB.out) (.int .i64 kd) (.int .i64 sq) (.int .i64 tm) (.string s) (.string h) (.string d))
    have HR6 := Lib.hid (set6 (.int .i64 kd) (.int .i64 sq) (.int .i64 tm) (.string s) (.string h) (.string d) hea3)
    clear hb3 hea3 HS
    go_wp2_with fail
    refine bodyPost_ret (v := .tuple #[.agg #[.int .i64 kd, .int .i64 sq, .int .i64 tm, .string s, .string h, .string d], .int .i64 er]) (res_rec2 6 7 Tryz.results85 _ _ rb rfl rfl HR6.out) rfl ?_
    exact ⟨0, HLO.out, HHI.out, by rw [HRR.out]; simp only; rw [← HRV.out], HF2.out⟩
  · by_cases hci : cap = i
    · subst hci
      have hni : n = cap := by omega
      subst hni
      have HS := Lib.hid (HKEY.out (some ⟨g, off, none⟩) 0 (HREC.out.tail n (Nat.le_refl _) _ _ (fun h => absurd h (Nat.lt_irrefl _))))
      rw [Nat.sub_self] at HS
      clear hrow HKEY hgg
      go_wp2_with fail
      refine HS.out.mono ?_
      rintro e w3 ⟨rfl, hb3⟩
      have hea3 := HEND.out w3 hb3
      obtain ⟨q0, q1, q2, q3, q4, q5⟩ := sixC hea3
      have zf : ∀ j, w3.frozen? ⟨rb, j, none⟩ = false := fun j => frozen_of_row w3 rb j _ _ hea3
      have hrbl3 := heap_lt hea3
      have HF2 := Lib.hid (below6 (HB2.out.trans (hb3.mono HB2.out.size)) (Nat.le_of_eq HRB.out) (.int .i64 kd) (.int .i64 sq) (.int .i64 tm) (.string s) (.string h) (.string d))
      have HR6 := Lib.hid (set6 (.int .i64 kd) (.int .i64 sq) (.int .i64 tm) (.string s) (.string h) (.string d) hea3)
      clear hb3 hea3 HS
      go_wp2_with fail
      refine bodyPost_ret (v := .tuple #[.agg #[.int .i64 kd, .int .i64 sq, .int .i64 tm, .string s, .string h, .string d], .int .i64 er]) (res_rec2 6 7 Tryz.results85 _ _ rb rfl rfl HR6.out) rfl ?_
      exact ⟨n, HLO.out, HHI.out, by rw [HRR.out]; simp only; rw [← HRV.out], HF2.out⟩
    · have HS := Lib.hid (HKEY.out (some ⟨g, off + i * 6, none⟩) (cap - i) (HREC.out.tail i hile _ _ (fun _ => rfl)))
      have hci2 : (i : Int) ≤ cap := by omega
      clear hrow HKEY hgg
      go_wp2_with fail
      refine HS.out.mono ?_
      rintro e w3 ⟨rfl, hb3⟩
      have hea3 := HEND.out w3 hb3
      obtain ⟨q0, q1, q2, q3, q4, q5⟩ := sixC hea3
      have zf : ∀ j, w3.frozen? ⟨rb, j, none⟩ = false := fun j => frozen_of_row w3 rb j _ _ hea3
      have hrbl3 := heap_lt hea3
      have HF2 := Lib.hid (below6 (HB2.out.trans (hb3.mono HB2.out.size)) (Nat.le_of_eq HRB.out) (.int .i64 kd) (.int .i64 sq) (.int .i64 tm) (.string s) (.string h) (.string d))
      have HR6 := Lib.hid (set6 (.int .i64 kd) (.int .i64 sq) (.int .i64 tm) (.string s) (.string h) (.string d) hea3)
      clear hb3 hea3 HS
      go_wp2_with fail
      refine bodyPost_ret (v := .tuple #[.agg #[.int .i64 kd, .int .i64 sq, .int .i64 tm, .string s, .string h, .string d], .int .i64 er]) (res_rec2 6 7 Tryz.results85 _ _ rb rfl rfl HR6.out) rfl ?_
      exact ⟨i, HLO.out, HHI.out, by rw [HRR.out]; simp only; rw [← HRV.out], HF2.out⟩

theorem next_any (hA : StoreAt W F D B L last w) (hm : ML W) (f : ByteArray) (hf : f.size ≤ 1048576) (q : Int) (hq : 0 ≤ q ∧ q ≤ 4611686018427387904) :
    Calls Tryz.prog 85 #[.pointer (some ⟨D, 0, none⟩), .string f, .int .i64 q] w fun e w' => ∃ i, (∀ r ∈ L.take i, r.seq < q) ∧ (∀ r ∈ L.drop i, q ≤ r.seq) ∧ e = .returned (.tuple #[recV (seekR (Subj.err true f.data.toList) ((L.drop i).find? (tk f.data.toList))).1, .int .i64 ((seekR (Subj.err true f.data.toList) ((L.drop i).find? (tk f.data.toList))).2 : Nat)]) ∧ Below w.heap.size w w' :=
  next_from hA hm f hf q q (by omega) ⟨hq.1, by omega⟩
end
end Go.Proofs.YtbgchhgdlceceaaGreatDoor.Sto

namespace Go.Proofs.YtbgchhgdlceceaaGreatDoor.Sto
open Go.RowKit Heap
open Subj (Tok ML pieces takes)
open Rec (Rc recErr far)
open Idx (Ents ptrV)

/-- The message of a number. -/
def getQ (L : List Rc) (q : Int) : Option Rc := L.find? fun r => r.seq == q

/-- What is told of a number. -/
def GetPost (w : World) (o : Option Rc) (e : Ending) (w' : World) : Prop := e = .returned (.tuple #[recV (seekR 0 o).1, .int .i64 ((seekR 0 o).2 : Nat)]) ∧ Below w.heap.size w w'

theorem getQ_none {L : List Rc} {q : Int} (h : ∀ r ∈ L, r.seq ≠ q) : getQ L q = none := by
  unfold getQ
  rw [List.find?_eq_none]
  intro r hr
  have := h r hr
  simpa using this

theorem getQ_at {L : List Rc} {q : Int} {i : Nat} {p : Rc} (h : ∀ r ∈ L.take i, r.seq ≠ q) (hp : L[i]? = some p) (hq : p.seq = q) : getQ L q = some p := by
  unfold getQ
  exact find_nth (k := i) (fun x hx => by have := h x hx; simpa using this) hp (by simpa using hq)

theorem Found.get {L : List Rc} {i : Nat} {fd : Bool} {q : Int} (h : Found L q i fd) (hr : L.Pairwise fun a b => a.seq < b.seq) (hs : ∀ r ∈ L, 0 ≤ r.seq ∧ r.seq ≤ far) (hq : -9223372036854775808 ≤ q ∧ q ≤ 9223372036854775807) :
    (fd = false → getQ L q = none) ∧ (fd = true → ∃ p, L[i]? = some p ∧ getQ L q = some p) := by
  by_cases hin : 0 ≤ q
  · obtain ⟨h1, h2, h3, h4⟩ := h.in hr hs ⟨by omega, hq.2⟩
    refine ⟨fun hf => getQ_none fun r hm e => ?_, fun hf => ?_⟩
    · rw [hf] at h3
      have : hasSeq L q = true := by unfold hasSeq; rw [List.any_eq_true]; exact ⟨r, hm, by simpa using e⟩
      rw [this] at h3; cases h3
    · obtain ⟨p, hp, hpq⟩ := h4 hf
      exact ⟨p, hp, getQ_at (fun r hr => by have := h1 r hr; omega) hp hpq⟩
  · have hno : ∀ r ∈ L, r.seq ≠ q := fun r hm e => by have := hs r hm; omega
    refine ⟨fun _ => getQ_none hno, fun hf => ?_⟩
    obtain ⟨r, h1, h2⟩ := h.yes hf
    have hm := List.mem_of_getElem? h1
    exact absurd (cmpR_zero (hs r hm) hq h2) (hno r hm)

section
variable {W w : World} {F : Nat → Prop} {D B C : Nat} {L : List Rc} {last : Int} {v : Value} {I : Ents}

set_option maxHeartbeats 4000000 in
set_option maxRecDepth 100000 in
theorem get_any (hA : StoreAt W F D B L last w) (q : Int) (hq : -9223372036854775808 ≤ q ∧ q ≤ 9223372036854775807) :
    Calls Tryz.prog 140 #[.pointer (some ⟨D, 0, none⟩), .int .i64 q] w (GetPost w (getQ L q)) := by
  obtain ⟨w1, hw1⟩ : ∃ w1, w1 = w.alloc (.cells #[.int .i64 0, .int .i64 0, .int .i64 0, .string ⟨#[]⟩, .string ⟨#[]⟩, .string ⟨#[]⟩] 33) := ⟨_, rfl⟩
  have hb1 : Below w.heap.size w w1 := by rw [hw1]; exact (Below.refl _ _).alloc (Nat.le_refl _) _
  have hea : w1.heap[w.heap.size]? = some (.cells #[.int .i64 0, .int .i64 0, .int .i64 0, .string ⟨#[]⟩, .string ⟨#[]⟩, .string ⟨#[]⟩] 33 (0, 0)) := by rw [hw1]; exact heap_alloc_new w _
  obtain ⟨rb, hrb⟩ : ∃ rb, w.heap.size = rb := ⟨_, rfl⟩
  rw [hrb] at hea
  have hA1 := hA.next hb1
  obtain ⟨M, x, N, I, v', hS, hR, _, _⟩ := hA1.ex
  have hpl := place_rec hS (by have := hR.few; omega) q
  obtain ⟨o, ho⟩ : ∃ o, getQ L q = o := ⟨_, rfl⟩
  have HA1 := Lib.hid hA1; have HPL := Lib.hid hpl; have HB1 := Lib.hid hb1; have HEA := Lib.hid hea; have HRB := Lib.hid hrb; have HR := Lib.hid hR; have HO := Lib.hid ho
  rw [ho]
  unfold GetPost
  have hrbl := heap_lt hea
  clear hA hb1 hea hrb hA1 hS hR hpl ho
  go_enter Tryz.func140, Tryz.ntmps140
  go_upto_region 1 with fail
  rw [← hw1, HRB.out]
  clear hw1
  go_wp2_with fail
  refine HPL.out.mono ?_
  rintro e w2 ⟨i, fd, rfl, hfo, hb2⟩
  obtain ⟨hno, hyes⟩ := hfo.get HR.out.rise HR.out.seqs hq
  rw [HO.out] at hno hyes
  have HNO := Lib.hid hno; have HYES := Lib.hid hyes
  have HA2 := Lib.hid (HA1.out.next hb2)
  have hea2 := (hb2.block rb hrbl).trans HEA.out
  have HB2 := Lib.hid (HB1.out.trans (hb2.mono HB1.out.size))
  obtain ⟨q0, q1, q2, q3, q4, q5⟩ := sixC hea2
  have zf : ∀ j, w2.frozen? ⟨rb, j, none⟩ = false := fun j => frozen_of_row w2 rb j _ _ hea2
  have hrbl2 := heap_lt hea2
  have HEA2 := Lib.hid hea2
  clear hb2 hfo hno hyes hea2 HPL hrbl
  cases fd with
  | false =>
    obtain rfl : o = none := HNO.out rfl
    have HF2 := Lib.hid (below6 HB2.out (Nat.le_of_eq HRB.out) (.int .i64 0) (.int .i64 0) (.int .i64 0) (.string ⟨#[]⟩) (.string ⟨#[]⟩) (.string ⟨#[]⟩))
    have HR6 := Lib.hid (set6 (.int .i64 0) (.int .i64 0) (.int .i64 0) (.string ⟨#[]⟩) (.string ⟨#[]⟩) (.string ⟨#[]⟩) HEA2.out)
    go_wp2_with fail
    refine bodyPost_ret (v := .tuple #[.agg #[.int .i64 0, .int .i64 0, .int .i64 0, .string ⟨#[]⟩, .string ⟨#[]⟩, .string ⟨#[]⟩], .int .i64 4]) (res_rec2 4 5 Tryz.results140 _ _ rb rfl rfl HR6.out) rfl ?_
    exact ⟨rfl, HF2.out⟩
  | true =>
    obtain ⟨p, hp, ho⟩ := HYES.out rfl
    subst ho
    obtain ⟨vv, c0, hlt, hrec, hfew, hz, hrow⟩ := HA2.out.list
    obtain ⟨n, hnL⟩ : ∃ n, L.length = n := ⟨_, rfl⟩
    rw [hnL] at hfew hrow
    have hin : i < n := by rw [← hnL]; exact (List.getElem?_eq_some_iff.1 hp).1
    have hiz : (i : Int) < n := by omega
    rcases hrow.2 with ⟨_, h0⟩ | ⟨g, off, cap, cur, rfl, hgg, _⟩
    · omega
    obtain ⟨m0, m1, m2, m3, m4, m5⟩ := cells_rec hrow i p hp hin
    obtain ⟨s, h, d, hpp⟩ := parts p
    rw [hpp.s1] at m3
    rw [hpp.h1] at m4
    rw [hpp.d1] at m5
    have hrv : recV p = .agg #[.int .i64 p.kind, .int .i64 p.seq, .int .i64 p.time, .string s, .string h, .string d] := by unfold recV; rw [hpp.s1, hpp.h1, hpp.d1]
    have HRV := Lib.hid hrv
    have HF2 := Lib.hid (below6 HB2.out (Nat.le_of_eq HRB.out) (.int .i64 p.kind) (.int .i64 p.seq) (.int .i64 p.time) (.string s) (.string h) (.string d))
    have HR6 := Lib.hid (set6 (.int .i64 p.kind) (.int .i64 p.seq) (.int .i64 p.time) (.string s) (.string h) (.string d) HEA2.out)
    clear hp hz hrec hrow hgg hpp hrv hnL HNO HYES
    go_wp2_with fail
    refine bodyPost_ret (v := .tuple #[.agg #[.int .i64 p.kind, .int .i64 p.seq, .int .i64 p.time, .string s, .string h, .string d], .int .i64 0]) (res_rec2 4 5 Tryz.results140 _ _ rb rfl rfl HR6.out) rfl ?_
    exact ⟨by rw [show seekR 0 (some p) = (p, 0) from rfl, HRV.out]; rfl, HF2.out⟩

end
end Go.Proofs.YtbgchhgdlceceaaGreatDoor.Sto

namespace Go.Proofs.YtbgchhgdlceceaaGreatDoor.Sto
open Go.RowKit Heap
open Subj (Tok ML pieces takes)
open Rec (Rc recErr far)
open Idx (Ents ptrV)

def pk (f : List UInt8) (q : Int) (x : Rc) : Bool := decide (q ≤ x.seq) && tk f x

section
variable {W w : World} {C : Nat} {L : List Rc} {last : Int} {v : Value} {I : Ents}

end
end Go.Proofs.YtbgchhgdlceceaaGreatDoor.Sto

namespace Go.Proofs.YtbgchhgdlceceaaGreatDoor.Sto
open Go.RowKit Heap
open Subj (Tok ML pieces takes StrsAt)
open Rec (Rc recErr far)
open Idx (Ents ptrV)

/-- What has been gathered so far. -/
def OutR (w wr : World) (o : Value) (K : List Rc) : Prop := Row wr 33 6 o K.length (recsV K) ∧ ∀ k, own o k → w.heap.size ≤ k

theorem OutR.next {w wr w' : World} {o : Value} {K : List Rc} (h : OutR w wr o K) (hb : Below wr.heap.size wr w') : OutR w w' o K := ⟨h.1.kept fun k _ hk => hb.block k hk, h.2⟩

section
variable {w : World}
end
end Go.Proofs.YtbgchhgdlceceaaGreatDoor.Sto

namespace Go.Proofs.YtbgchhgdlceceaaGreatDoor.Sto
open Go.RowKit Heap
open Subj (Tok ML pieces takes StrsAt)
open Rec (Rc recErr far)
open Idx (Ents ptrV findL FindPost entV)
open Shf (SortedE find_x)

section
variable {W w : World} {F : Nat → Prop} {D B : Nat} {L : List Rc} {last : Int}

theorem subjects_any (hA : StoreAt W F D B L last w) (hB : B ≤ 80000) (hm : ML W) (f : ByteArray) (hf : f.size ≤ 1048576) : ∃ I, Right L last I ∧
    Calls Tryz.prog 63 #[.pointer (some ⟨D, 0, none⟩), .string f] w (FindPost (Subj.err true f.data.toList) (findL I f.data.toList) w) := by
  obtain ⟨M, x, N, I, v, h, hR, hN, _⟩ := hA.ex
  refine ⟨I, hR, ?_⟩
  obtain ⟨c0, c1, c2, c3, cf⟩ := fourS h.cell
  have hlt := h.lt
  have HC := Lib.hid (find_x h.idx (by omega) hm f hf)
  generalize Subj.err true f.data.toList = er at *
  generalize findL I f.data.toList = FL at *
  clear hA h hR hN hB
  go_enter Tryz.func63, Tryz.ntmps63
  go_wp2_with fail
  refine HC.out.mono ?_
  rintro e w' ⟨hb, hcase⟩
  obtain ⟨v, rfl, hfp⟩ : ∃ v, e = .returned (.tuple #[v, .int .i64 er]) ∧ FindPost er FL w (.returned (.tuple #[v, .int .i64 er])) w' := by
    rcases hcase with ⟨h1, rfl⟩ | ⟨rfl, v, rfl, h2, h3⟩
    · exact ⟨_, rfl, hb, .inl ⟨h1, rfl⟩⟩
    · exact ⟨v, rfl, hb, .inr ⟨rfl, v, rfl, h2, h3⟩⟩
  have HF := Lib.hid hfp
  clear hb hcase hfp HC
  go_wp2
  go_ret2
  exact HF.out
end

section
variable {w : World}
end
end Go.Proofs.YtbgchhgdlceceaaGreatDoor.Sto

namespace Go.Proofs.YtbgchhgdlceceaaGreatDoor.Sto
open Go.RowKit Heap
open Subj (Tok ML pieces takes)
open Rec (Rc recErr far)
open Idx (Ents ptrV)

section
variable {W w w1 : World} {C : Nat} {v v2 : Value} {L L2 : List Rc} {last : Int} {I : Ents}

theorem ChAt.put (h : ChAt W C v L last w) (ht : Heap.Touch (own v) w w1) (hr : Row w1 33 6 v2 L2.length (recsV L2)) (ho : ∀ k, own v2 k → own v k ∨ w.heap.size ≤ k) :
    ChAt W C v2 L2 last (w1.setCell ⟨C, 0, none⟩ v2) ∧ Heap.Touch (fun k => k = C ∨ own v k) w (w1.setCell ⟨C, 0, none⟩ v2) := by
  have hC := heap_lt h.cell
  have hc1 := (ht.block C hC fun e => (h.mine C e).2 rfl).trans h.cell
  have htt : Heap.Touch (fun k => k = C ∨ own v k) w (w1.setCell ⟨C, 0, none⟩ v2) := (ht.mono fun _ _ e => .inr e).setCell (p := ⟨C, 0, none⟩) (.inl (.inl rfl)) _
  have hm : ∀ k, own v2 k → W.heap.size ≤ k ∧ k ≠ C := fun k hk => by
    rcases ho k hk with e | e
    · exact h.mine k e
    · exact ⟨Nat.le_trans h.below.size e, by omega⟩
  refine ⟨⟨?_, ?_, h.old, hm, ?_⟩, htt⟩
  · exact heap_setCell_same _ _ _ _ _ _ hc1
  · exact hr.kept fun k hk _ => heap_setCell_other _ _ _ _ (hm k hk).2
  · exact h.below.trans (htt.below h.below.size fun k hk => by
      rcases hk with rfl | hk
      · exact h.old
      · exact (h.mine k hk).1)

theorem ChAt.setL (h : ChAt W C v L last w) (q : Int) : ChAt W C v L q (w.setCell ⟨C, 1, none⟩ (.int .i64 q)) ∧ Heap.Touch (fun k => k = C ∨ own v k) w (w.setCell ⟨C, 1, none⟩ (.int .i64 q)) := by
  have htt : Heap.Touch (fun k => k = C ∨ own v k) w (w.setCell ⟨C, 1, none⟩ (.int .i64 q)) := (Heap.Touch.refl _ w).setCell (p := ⟨C, 1, none⟩) (.inl (.inl rfl)) _
  refine ⟨⟨?_, ?_, h.old, h.mine, ?_⟩, htt⟩
  · exact heap_setCell_same _ _ _ _ _ _ h.cell
  · exact h.row.kept fun k hk _ => heap_setCell_other _ _ _ _ (h.mine k hk).2
  · exact h.below.trans (htt.below h.below.size fun k hk => by
      rcases hk with rfl | hk
      · exact h.old
      · exact (h.mine k hk).1)

end
end Go.Proofs.YtbgchhgdlceceaaGreatDoor.Sto

namespace Go.Proofs.YtbgchhgdlceceaaGreatDoor.Sto
open Go.RowKit Heap
open Subj (Tok ML pieces takes)
open Rec (Rc recErr far)
open Idx (Ents ptrV)

theorem dist_sub {A B : List Rc} (h : ∀ s ∈ subjs A, s ∈ subjs B) : dist A ≤ dist B := nodup_le (nodup_subjs A) h

theorem dist_after {L : List Rc} {last : Int} {r : Rc} (h : dist L ≤ 100) : dist (after L last r).1 ≤ 100 := by
  unfold after
  split
  · rename_i h0
    have hz := try_zero h0
    show dist (leftS L r) ≤ 100
    by_cases hk : r.kind = 1
    · have h1 := (hz.2.1 hk).2.2
      have e : leftS L r = L ++ [r] := by unfold leftS; rw [if_pos hk]
      rw [e]
      by_cases hc : cntR L r.subj = 0
      · have h2 : dist (L ++ [r]) ≤ (r.subj :: subjs L).length := nodup_le (nodup_subjs _) fun s hs => by
          obtain ⟨x, hx, hxs⟩ := mem_subjs.1 hs
          rcases List.mem_append.1 hx with hx | hx
          · exact List.mem_cons.2 (.inr (mem_subjs.2 ⟨x, hx, hxs⟩))
          · simp at hx; subst hx; exact List.mem_cons.2 (.inl hxs.symm)
        have h3 : dist L ≠ 100 := h1.resolve_left fun h => h hc
        rw [List.length_cons] at h2
        unfold dist at h h2 h3 ⊢
        omega
      · refine Nat.le_trans (dist_sub fun s hs => ?_) h
        obtain ⟨x, hx, hxs⟩ := mem_subjs.1 hs
        rcases List.mem_append.1 hx with hx | hx
        · exact mem_subjs.2 ⟨x, hx, hxs⟩
        · simp at hx; subst hx; rw [← hxs]; exact mem_subjs.2 (cnt_ne.1 hc)
    · refine Nat.le_trans (dist_sub fun s hs => ?_) h
      obtain ⟨x, hx, hxs⟩ := mem_subjs.1 hs
      refine mem_subjs.2 ⟨x, ?_, hxs⟩
      unfold leftS at hx
      rw [if_neg hk] at hx
      split at hx
      · exact (List.mem_filter.1 hx).1
      · split at hx
        · exact (List.mem_filter.1 hx).1
        · exact hx
  · exact h

/-- A store at D, a chest at C. -/
structure BothAt (W : World) (F : Nat → Prop) (D B C : Nat) (v : Value) (L : List Rc) (last : Int) (L2 : List Rc) (last2 : Int) (w : World) : Prop where
  st : StoreAt W F D B L last w
  ch : ChAt W C v L2 last2 w
  fC : ¬ F C
  fv : ∀ k, own v k → ¬ F k

section
variable {W w w1 : World} {F : Nat → Prop} {D B B' C : Nat} {v : Value} {L L2 L' : List Rc} {last last2 last' : Int}

theorem BothAt.next (h : BothAt W F D B C v L last L2 last2 w) (hb : Below w.heap.size w w1) : BothAt W F D B C v L last L2 last2 w1 := ⟨h.st.next hb, h.ch.next hb, h.fC, h.fv⟩

theorem ChAt.touch (h : ChAt W C v L last w) (ht : Heap.Touch F w w1) (hF : ∀ k, F k → W.heap.size ≤ k) (fC : ¬ F C) (fv : ∀ k, own v k → ¬ F k) : ChAt W C v L last w1 :=
  ⟨(ht.block C (heap_lt h.cell) fC).trans h.cell, h.row.kept fun k hk hlt => ht.block k hlt (fv k hk), h.old, h.mine, h.below.trans (ht.below h.below.size hF)⟩

theorem BothAt.store (h : BothAt W F D B C v L last L2 last2 w) (hn : NextSt W F D B' w L' last' w1) : ∃ F', BothAt W F' D B' C v L' last' L2 last2 w1 ∧ ∀ k, F' k → F k ∨ w.heap.size ≤ k := by
  obtain ⟨⟨F', hS, hF⟩, ht⟩ := hn
  refine ⟨F', ⟨hS, h.ch.touch ht h.st.newF h.fC h.fv, fun hk => ?_, fun k hk hk2 => ?_⟩, hF⟩
  · rcases hF C hk with e | e
    · exact h.fC e
    · have := heap_lt h.ch.cell; omega
  · rcases hF k hk2 with e | e
    · exact h.fv k hk e
    · have := h.ch.row.lt k hk; omega

theorem BothAt.below (h : BothAt W F D B C v L last L2 last2 w) : Below W.heap.size W w := h.ch.below
end
end Go.Proofs.YtbgchhgdlceceaaGreatDoor.Sto

namespace Go.Proofs.YtbgchhgdlceceaaGreatDoor.Sto
open Go.RowKit Heap
open Subj (Tok ML pieces takes)
open Rec (Rc recErr far)
open Idx (Ents ptrV findL FindPost entV)
open Shf (SortedE)

section
variable {W w : World} {F : Nat → Prop} {D B C : Nat} {v : Value} {L : List Rc} {last : Int}

theorem find_row2 {er : Nat} {L : Ents} {w w' : World} {e : Ending} (h : FindPost er L w e w') : ∃ v, e = .returned (.tuple #[v, .int .i64 er]) ∧ Below w.heap.size w w' ∧ ∃ R : Ents, R = (if er = 0 then L else []) ∧ Row w' 124 2 v R.length (Idx.entV R) := by
  obtain ⟨hb, ⟨h1, rfl⟩ | ⟨rfl, v, rfl, h2, _⟩⟩ := h
  · exact ⟨_, rfl, hb, [], by rw [if_neg h1], Row.nil _ _ _⟩
  · exact ⟨v, rfl, hb, L, by rw [if_pos rfl], h2⟩

end
end Go.Proofs.YtbgchhgdlceceaaGreatDoor.Sto

namespace Go.Proofs.YtbgchhgdlceceaaGreatDoor.Sto
open Go.RowKit Heap
open Subj (Tok ML pieces takes)
open Rec (Rc recErr far)
open Idx (Ents ptrV)

theorem dist_runS (l : List Rc) : dist (runS l).1 ≤ 100 := by
  unfold runS
  suffices h : ∀ (l : List Rc) (s : List Rc × Int), dist s.1 ≤ 100 → dist (l.foldl (fun s r => after s.1 s.2 r) s).1 ≤ 100 from h l ([], 0) (by decide)
  intro l
  induction l with
  | nil => intro s h; exact h
  | cons a l ih => intro s h; exact ih _ (dist_after h)

section
variable {w : World}

theorem try_st {W : World} {F : Nat → Prop} {D B : Nat} {L : List Rc} {last : Int} (hA : StoreAt W F D B L last w) (hB : B ≤ 80000) (hm : ML W) (r : Rc) (hf : Fits r) :
    Calls Tryz.prog 70 #[.pointer (some ⟨D, 0, none⟩), recV r] w fun e w' => e = .returned (.int .i64 (tryD L last r : Nat)) ∧ Below w.heap.size w w' := by
  obtain ⟨M, x, N, I, v, h, hR, hN, _⟩ := hA.ex
  have := try_rec h hR (by omega) hm r hf
  rw [tryS_D hR.sorted hR.count] at this
  exact this

end
end Go.Proofs.YtbgchhgdlceceaaGreatDoor.Sto

namespace Go.Proofs.YtbgchhgdlceceaaGreatDoor.Vlt
open Dsk Log
open Rec (Rc recErr codedL far)
open Sto (tryD after runS runS_step Right leftS lastS dist cntR hasSeq)
open Idx (Ents)

/-- A vault: the disk's files, the messages, the last number. -/
structure Vt where
  A : List FileP
  L : List Rc
  last : Int

def markR (n : Int) : Rc := ⟨4, n, 0, [], [], []⟩
def allV (s : Vt) : List Rc := s.L ++ if 0 < s.last then [markR s.last] else []

def doV (room size : Int) (s : Vt) (r : Rc) : Vt × Nat :=
  if tryD s.L s.last r ≠ 0 then (s, tryD s.L s.last r)
  else if (logD room size s.A r).2 ≠ 0 then (⟨(logD room size s.A r).1, s.L, s.last⟩, (logD room size s.A r).2)
  else (⟨syncL (logD room size s.A r).1, (after s.L s.last r).1, (after s.L s.last r).2⟩, 0)

def compV (room size : Int) (s : Vt) : Vt × Nat := (⟨(rewD room size s.A (allV s)).1, s.L, s.last⟩, (rewD room size s.A (allV s)).2)

def crashV (K : Nat) (s : Vt) : Vt := ⟨(openD (crashD s.A K)).2, (runS (openD (crashD s.A K)).1).1, (runS (openD (crashD s.A K)).1).2⟩

theorem last_split (A : List FileP) : A = [] ∨ ∃ pre p, A = pre ++ [p] := by
  rcases List.eq_nil_or_concat A with h | ⟨pre, p, h⟩
  · exact .inl h
  · exact .inr ⟨pre, p, by rw [h, List.concat_eq_append]⟩

theorem good_split {p : FileP} : ∀ {pre : List FileP} {l : List Rc}, Log.Good (pre ++ [p]) l → ∃ gp gl, l = gp ++ gl ∧ Log.Good pre gp ∧ p.text = textsL gl ∧ p.sure = p.text.length
  | [], l, h => by
    obtain ⟨g, gs, e, h1, h2, h3⟩ := h
    have h3 : gs = [] := h3
    subst h3
    exact ⟨[], g, by simpa using e, rfl, h1, h2⟩
  | a :: r, l, h => by
    obtain ⟨g, gs, e, h1, h2, h3⟩ := h
    obtain ⟨gp, gl, e2, h4, h5, h6⟩ := good_split h3
    exact ⟨g ++ gp, gl, by rw [e, e2, List.append_assoc], ⟨g, gp, rfl, h1, h2, h4⟩, h5, h6⟩

theorem good_open : ∀ {A : List FileP} {l : List Rc}, Log.Good A l → (∀ r ∈ l, recErr r = 0) → openD A = (l, A)
  | [], l, h, _ => by
    have h : l = [] := h
    subst h; rfl
  | a :: r, l, ⟨g0, gs, e, h1, h2, h3⟩, hr => by
    have hsc := scan_all (g := g0) fun x hx => hr x (by rw [e]; exact List.mem_append_left _ hx)
    have ih := good_open h3 fun x hx => hr x (by rw [e]; exact List.mem_append_right _ hx)
    unfold openD
    rw [h1, hsc, ih]
    simp only
    rw [if_neg (by omega), e]

theorem app_above {room : Int} {A : List FileP} {n : Int} {T : List UInt8} (h : ∀ x ∈ A, x.n < n) (h0 : (appD room A n T).2 = 0) : (appD room A n T).1 = A ++ [⟨n, T, 0⟩] := by
  unfold appD at h0 ⊢
  rw [getF_above h] at h0 ⊢
  split
  · rename_i e; rw [if_pos e] at h0; cases h0
  · rename_i e
    rw [if_neg e] at h0
    split
    · rename_i e2; rw [if_pos e2] at h0; cases h0
    · rename_i e2
      rw [if_neg e2] at h0
      simp only at h0 ⊢
      split
      · rename_i e3; rw [if_pos e3] at h0; cases h0
      · exact insF_above ⟨n, T, 0⟩ h

theorem app_last {room : Int} {A : List FileP} {p : FileP} {T : List UInt8} (h : ∀ x ∈ A, x.n < p.n) (h0 : (appD room (A ++ [p]) p.n T).2 = 0) : (appD room (A ++ [p]) p.n T).1 = A ++ [⟨p.n, p.text ++ T, p.sure⟩] := by
  unfold appD at h0 ⊢
  rw [getF_last p h] at h0 ⊢
  split
  · rename_i e; rw [if_pos e] at h0; cases h0
  · rename_i e
    rw [if_neg e] at h0
    split
    · rename_i e2; rw [if_pos e2] at h0; cases h0
    · exact setF_last p ⟨p.n, p.text ++ T, p.sure⟩ h rfl

theorem sync_snoc {A : List FileP} (p : FileP) (h : ∀ x ∈ A, x.n < p.n) : (syncD (A ++ [p]) p.n).1 = A ++ [⟨p.n, p.text, p.text.length⟩] ∧ syncL (A ++ [p]) = A ++ [⟨p.n, p.text, p.text.length⟩] := by
  have e : (syncD (A ++ [p]) p.n).1 = A ++ [⟨p.n, p.text, p.text.length⟩] := by
    unfold syncD
    rw [getF_last p h]
    simp only
    exact setF_last p ⟨p.n, p.text, p.text.length⟩ h rfl
  refine ⟨e, ?_⟩
  unfold syncL
  rw [List.getLast?_append]
  simp only [List.getLast?_singleton, Option.some_or]
  exact e

/-- What Append does to blocks that are whole and sure. -/
theorem good_log {room size : Int} {A : List FileP} {all : List Rc} {r : Rc} (h : Log.Good A all) (hs : Sorted A) (he : recErr r = 0) :
    ((logD room size A r).2 ≠ 0 → (logD room size A r).1 = A) ∧ ((logD room size A r).2 = 0 → Log.Good (syncL (logD room size A r).1) (all ++ [r])) := by
  have hl : logD room size A r = putD room size A (codedL r) := by unfold logD; rw [if_neg (by omega)]
  rw [hl]
  have one : textsL [r] = codedL r := by simp [textsL]
  rcases last_split A with rfl | ⟨pre, p, rfl⟩
  · have h : all = [] := h
    subst h
    have hp : putD room size [] (codedL r) = appD room [] 0 (codedL r) := rfl
    rw [hp]
    refine ⟨fun e => app_fail e, fun e => ?_⟩
    rw [app_above (by simp) e]
    have := (sync_snoc (A := []) ⟨0, codedL r, 0⟩ (by simp)).2
    rw [this]
    exact Log.Good.snoc (A := []) (l := []) (p := ⟨0, codedL r, (codedL r).length⟩) one.symm rfl rfl
  · have hlt : ∀ x ∈ pre, x.n < p.n := fun x hx => by
      have := List.pairwise_append.1 hs
      exact this.2.2 x hx p (by simp)
    obtain ⟨gp, gl, rfl, hg, ht, hsu⟩ := good_split h
    have hpp : (⟨p.n, p.text, p.text.length⟩ : FileP) = p := by rw [← hsu]
    unfold putD
    rw [List.getLast?_append]
    simp only [List.getLast?_singleton, Option.some_or]
    split
    · rw [(sync_snoc p hlt).1, hpp]
      have hlt2 : ∀ x ∈ pre ++ [p], x.n < p.n + 1 := fun x hx => by
        rcases List.mem_append.1 hx with hx | hx
        · have := hlt x hx; omega
        · simp at hx; subst hx; omega
      refine ⟨fun e => app_fail e, fun e => ?_⟩
      rw [app_above hlt2 e]
      rw [(sync_snoc (A := pre ++ [p]) ⟨p.n + 1, codedL r, 0⟩ hlt2).2]
      exact Log.Good.snoc (p := ⟨p.n + 1, codedL r, (codedL r).length⟩) one.symm rfl h
    · refine ⟨fun e => app_fail e, fun e => ?_⟩
      rw [app_last hlt e, (sync_snoc ⟨p.n, p.text ++ codedL r, p.sure⟩ hlt).2, List.append_assoc]
      exact Log.Good.snoc (g := gl ++ [r]) (p := ⟨p.n, p.text ++ codedL r, (p.text ++ codedL r).length⟩) (by simp only; rw [textsL_append, ht, one]) rfl hg

/-- All that was done is on the disk, whole and sure. -/
def Whole (N : Nat) (s : Vt) : Prop := ∃ all, Log.Good s.A all ∧ (∀ r ∈ all, recErr r = 0) ∧ runS all = (s.L, s.last) ∧ all.length ≤ N

theorem Whole.new : Whole 0 ⟨[], [], 0⟩ := ⟨[], rfl, (fun _ h => by cases h), rfl, Nat.le_refl _⟩
theorem Whole.mono {N M : Nat} {s : Vt} (h : Whole N s) (hN : N ≤ M) : Whole M s := by
  obtain ⟨all, h1, h2, h3, h4⟩ := h
  exact ⟨all, h1, h2, h3, Nat.le_trans h4 hN⟩

theorem try_err {L : List Rc} {last : Int} {r : Rc} (h : tryD L last r = 0) : recErr r = 0 := by
  unfold tryD at h
  by_cases he : recErr r ≠ 0
  · rw [if_pos he] at h; exact absurd h he
  · omega

theorem runS_snoc (all : List Rc) (r : Rc) : runS (all ++ [r]) = after (runS all).1 (runS all).2 r := by
  unfold runS
  rw [List.foldl_append]
  rfl

theorem Whole.do_ {N : Nat} {room size : Int} {s : Vt} {r : Rc} (h : Whole N s) (hs : Sorted s.A) : Whole (N + 1) (doV room size s r).1 := by
  obtain ⟨all, hg, hk, hr, hN⟩ := h
  unfold doV
  by_cases ht : tryD s.L s.last r ≠ 0
  · rw [if_pos ht]; exact ⟨all, hg, hk, hr, by omega⟩
  · rw [if_neg ht]
    have he := try_err (Classical.not_not.1 ht)
    obtain ⟨h1, h2⟩ := good_log (room := room) (size := size) hg hs he
    by_cases hl : (logD room size s.A r).2 ≠ 0
    · rw [if_pos hl]
      refine ⟨all, ?_, hk, hr, by omega⟩
      show Log.Good (logD room size s.A r).1 all
      rw [h1 hl]; exact hg
    · rw [if_neg hl]
      refine ⟨all ++ [r], h2 (Classical.not_not.1 hl), fun x hx => ?_, ?_, by rw [List.length_append, List.length_singleton]; omega⟩
      · rcases List.mem_append.1 hx with hx | hx
        · exact hk x hx
        · simp at hx; subst hx; exact he
      · rw [runS_snoc, hr]

theorem Whole.crash {N : Nat} {s : Vt} (h : Whole N s) (K : Nat) : crashV K s = s := by
  obtain ⟨all, hg, hk, hr, _⟩ := h
  unfold crashV
  rw [hg.crash, good_open hg hk, hr]

/-- What is told behind a stop. -/
theorem Whole.told {N : Nat} {s : Vt} (h : Whole N s) (K : Nat) : (openD (crashD s.A K)).1.length ≤ N ∧ ∀ r ∈ (openD (crashD s.A K)).1, recErr r = 0 := by
  obtain ⟨all, hg, hk, hr, hN⟩ := h
  rw [hg.crash, good_open hg hk]
  exact ⟨hN, hk⟩

theorem Whole.dist {N : Nat} {s : Vt} (h : Whole N s) : dist s.L ≤ 100 := by
  obtain ⟨all, _, _, hr, _⟩ := h
  have := Sto.dist_runS all
  rw [hr] at this
  exact this

end Go.Proofs.YtbgchhgdlceceaaGreatDoor.Vlt
