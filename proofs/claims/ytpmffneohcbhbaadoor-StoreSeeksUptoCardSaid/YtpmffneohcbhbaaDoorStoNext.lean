/- (*Store).Next, Last, walked. -/
import Derived.Test.YtpmffneohcbhbaaDoorStoSeek
namespace Go.Proofs.YtpmffneohcbhbaaDoor.Sto
open Go.RowKit Heap
open Subj (Tok ML pieces takes StrsAt)
open Rec (Rc recErr far)
open Idx (Ents ptrV)

theorem RecsAt.tail {w : World} {g off n cap : Nat} {l : List Rc} (h : RecsAt w (.slice (some ⟨g, off, none⟩) n cap) l) (i : Nat) (hi : i ≤ n) (ao : Option Addr) (c : Nat) (ha : i < n → ao = some ⟨g, off + i * 6, none⟩) : RecsAt w (.slice ao (n - i) c) (l.drop i) := by
  obtain ⟨a', c', hv, hc⟩ := h
  simp only [Value.slice.injEq] at hv
  obtain ⟨rfl, rfl, rfl⟩ := hv
  refine ⟨ao, c, by rw [List.length_drop], fun hne => ?_⟩
  have hil : i < l.length := by
    rcases Nat.lt_or_ge i l.length with h | h
    · exact h
    · exact absurd (List.drop_of_length_le h) hne
  have hne2 : l ≠ [] := fun e => by rw [e] at hil; simp at hil
  obtain ⟨g', off', hgo, hcs⟩ := hc hne2
  simp only [Option.some.injEq, Addr.mk.injEq] at hgo
  obtain ⟨rfl, rfl, _⟩ := hgo
  refine ⟨g, off + i * 6, ha hil, fun j p hp => ?_⟩
  rw [List.getElem?_drop] at hp
  have h1 := hcs (i + j) p hp
  rw [show off + i * 6 + j * 6 = off + (i + j) * 6 by omega]
  exact h1

section
variable {W w : World} {F : Nat → Prop} {D B : Nat} {L : List Rc} {last : Int}

theorem StoreAt.list (hA : StoreAt W F D B L last w) : ∃ v, w.cell? ⟨D, 0, none⟩ = some v ∧ D < w.heap.size ∧ RecsAt w v L ∧ L.length ≤ 200 ∧ (∀ r ∈ L, r.subj.length ≤ 1048576) ∧ Row w 56 6 v L.length (recsV L) := by
  obtain ⟨M, x, N, I, v, h, hR, _, _⟩ := hA.ex
  refine ⟨v, (fourS h.cell).1, h.lt, row_recs h.row, hR.few, fun r hr => ?_, h.row⟩
  have := (good_parts (hR.good r hr).1 (hR.good r hr).2).2.1
  omega

set_option maxHeartbeats 4000000 in
set_option maxRecDepth 100000 in
theorem last_any (hA : StoreAt W F D B L last w) (hm : ML W) (f : ByteArray) (hf : f.size ≤ 1048576) :
    Calls Tryd.prog 37 #[.pointer (some ⟨D, 0, none⟩), .string f] w fun e w' => e = .returned (.tuple #[recV (seekR (Subj.err true f.data.toList) (L.reverse.find? (tk f.data.toList))).1, .int .i64 ((seekR (Subj.err true f.data.toList) (L.reverse.find? (tk f.data.toList))).2 : Nat)]) ∧ Below w.heap.size w w' := by
  obtain ⟨w1, hw1⟩ : ∃ w1, w1 = w.alloc (.cells #[.int .i64 0, .int .i64 0, .int .i64 0, .string ⟨#[]⟩, .string ⟨#[]⟩, .string ⟨#[]⟩] 56) := ⟨_, rfl⟩
  have hb1 : Below w.heap.size w w1 := by rw [hw1]; exact (Below.refl _ _).alloc (Nat.le_refl _) _
  have hea : w1.heap[w.heap.size]? = some (.cells #[.int .i64 0, .int .i64 0, .int .i64 0, .string ⟨#[]⟩, .string ⟨#[]⟩, .string ⟨#[]⟩] 56 (0, 0)) := by rw [hw1]; exact heap_alloc_new w _
  obtain ⟨rb, hrb⟩ : ∃ rb, w.heap.size = rb := ⟨_, rfl⟩
  rw [hrb] at hea
  obtain ⟨v, c0, hlt, hrec, hfew, hz, _⟩ := (hA.next hb1).list
  have hsk := seek_any (W := W) (hA.next hb1).below hm f hf hrec (by omega) hz true
  rw [show order true L = L.reverse from rfl] at hsk
  generalize seekR (Subj.err true f.data.toList) (L.reverse.find? (tk f.data.toList)) = R at *
  obtain ⟨r, er⟩ := R
  obtain ⟨s, h, d, hpp⟩ := parts r
  have hrv : recV r = .agg #[.int .i64 r.kind, .int .i64 r.seq, .int .i64 r.time, .string s, .string h, .string d] := by unfold recV; rw [hpp.s1, hpp.h1, hpp.d1]
  simp only [hrv] at hsk ⊢
  have HSK := Lib.hid hsk; have HB1 := Lib.hid hb1; have HEA := Lib.hid hea; have HRB := Lib.hid hrb
  have hrbl := heap_lt hea
  generalize r.kind = kd at *
  generalize r.seq = sq at *
  generalize r.time = tm at *
  clear hA hb1 hea hrb hrec hz hsk hrv hpp hm hf
  go_enter Tryd.func37, Tryd.ntmps37
  go_upto_region 1 with fail
  rw [← hw1, HRB.out]
  clear hw1
  go_wp2_with fail
  refine HSK.out.mono ?_
  rintro e w2 ⟨rfl, hb2⟩
  have hea2 := (hb2.block rb hrbl).trans HEA.out
  obtain ⟨q0, q1, q2, q3, q4, q5⟩ := sixC hea2
  have zf : ∀ j, w2.frozen? ⟨rb, j, none⟩ = false := fun j => frozen_of_row w2 rb j _ _ hea2
  have hrbl2 := heap_lt hea2
  have HF2 := Lib.hid (below6 (HB1.out.trans (hb2.mono HB1.out.size)) (Nat.le_of_eq HRB.out) (.int .i64 kd) (.int .i64 sq) (.int .i64 tm) (.string s) (.string h) (.string d))
  have HR6 := Lib.hid (set6 (.int .i64 kd) (.int .i64 sq) (.int .i64 tm) (.string s) (.string h) (.string d) hea2)
  clear hb2 hea2 HSK HEA hrbl
  go_wp2_with fail
  refine bodyPost_ret (v := .tuple #[.agg #[.int .i64 kd, .int .i64 sq, .int .i64 tm, .string s, .string h, .string d], .int .i64 er]) (res_rec2 4 5 Tryd.results37 _ _ rb rfl rfl HR6.out) rfl ?_
  exact ⟨rfl, HF2.out⟩

set_option maxHeartbeats 4000000 in
set_option maxRecDepth 100000 in
theorem next_any (hA : StoreAt W F D B L last w) (hm : ML W) (f : ByteArray) (hf : f.size ≤ 1048576) (q : Int) (hq : 0 ≤ q ∧ q ≤ 4611686018427387904) :
    Calls Tryd.prog 36 #[.pointer (some ⟨D, 0, none⟩), .string f, .int .i64 q] w fun e w' => ∃ i, (∀ r ∈ L.take i, r.seq < q) ∧ (∀ r ∈ L.drop i, q ≤ r.seq) ∧ e = .returned (.tuple #[recV (seekR (Subj.err true f.data.toList) ((L.drop i).find? (tk f.data.toList))).1, .int .i64 ((seekR (Subj.err true f.data.toList) ((L.drop i).find? (tk f.data.toList))).2 : Nat)]) ∧ Below w.heap.size w w' := by
  obtain ⟨w1, hw1⟩ : ∃ w1, w1 = w.alloc (.cells #[.int .i64 0, .int .i64 0, .int .i64 0, .string ⟨#[]⟩, .string ⟨#[]⟩, .string ⟨#[]⟩] 56) := ⟨_, rfl⟩
  have hb1 : Below w.heap.size w w1 := by rw [hw1]; exact (Below.refl _ _).alloc (Nat.le_refl _) _
  have hea : w1.heap[w.heap.size]? = some (.cells #[.int .i64 0, .int .i64 0, .int .i64 0, .string ⟨#[]⟩, .string ⟨#[]⟩, .string ⟨#[]⟩] 56 (0, 0)) := by rw [hw1]; exact heap_alloc_new w _
  obtain ⟨rb, hrb⟩ : ∃ rb, w.heap.size = rb := ⟨_, rfl⟩
  rw [hrb] at hea
  have hA1 := hA.next hb1
  obtain ⟨M, x, N, I, v', hS, hR, _, _⟩ := hA1.ex
  have hpl := place_rec hS (by have := hR.few; omega) q
  have hmx : max q 0 = q := by omega
  have HA1 := Lib.hid hA1; have HPL := Lib.hid hpl; have HB1 := Lib.hid hb1; have HEA := Lib.hid hea; have HRB := Lib.hid hrb; have HR := Lib.hid hR; have HML := Lib.hid hm
  have hrbl := heap_lt hea
  clear hA hb1 hea hrb hA1 hS hR hpl hm
  go_enter Tryd.func36, Tryd.ntmps36
  go_upto_region 1 with fail
  rw [← hw1, HRB.out]
  clear hw1
  go_wp2_with fail
  refine HPL.out.mono ?_
  rintro e w2 ⟨i, fd, rfl, hfo, hb2⟩
  obtain ⟨hlo, hhi, _, _⟩ := hfo.in HR.out.rise HR.out.seqs (by omega)
  have hile := hfo.le
  have HLO := Lib.hid hlo; have HHI := Lib.hid hhi
  have HA2 := Lib.hid (HA1.out.next hb2)
  have hea2 := (hb2.block rb hrbl).trans HEA.out
  have HEA2 := Lib.hid hea2
  have HB2 := Lib.hid (HB1.out.trans (hb2.mono HB1.out.size))
  obtain ⟨v, c0, hlt, hrec, hfew, hz, hrow⟩ := HA2.out.list
  obtain ⟨n, hnL⟩ : ∃ n, L.length = n := ⟨_, rfl⟩
  rw [hnL] at hfew hile hrow
  have HZ := Lib.hid hz; have HREC := Lib.hid hrec; have HNL := Lib.hid hnL
  have hrbl2 := heap_lt hea2
  clear hb2 hfo hlo hhi hea2 HPL hz hrec hnL hrbl
  -- what is behind the place
  have key : ∀ ao c, RecsAt w2 (.slice ao (n - i) c) (L.drop i) → Calls Tryd.prog 71 #[.string f, .slice ao (n - i) c, .bool false] w2 fun e w' => e = .returned (.tuple #[recV (seekR (Subj.err true f.data.toList) ((L.drop i).find? (tk f.data.toList))).1, .int .i64 ((seekR (Subj.err true f.data.toList) ((L.drop i).find? (tk f.data.toList))).2 : Nat)]) ∧ Below w2.heap.size w2 w' := fun ao c hr =>
    seek_any (W := W) HA2.out.below HML.out f hf hr (by rw [List.length_drop, HNL.out]; omega) (fun r hr => HZ.out r (List.mem_of_mem_drop hr)) false
  obtain ⟨R, hRR⟩ : ∃ R, seekR (Subj.err true f.data.toList) ((L.drop i).find? (tk f.data.toList)) = R := ⟨_, rfl⟩
  rw [hRR] at key
  obtain ⟨r, er⟩ := R
  obtain ⟨s, h, d, hpp⟩ := parts r
  have hrv : recV r = .agg #[.int .i64 r.kind, .int .i64 r.seq, .int .i64 r.time, .string s, .string h, .string d] := by unfold recV; rw [hpp.s1, hpp.h1, hpp.d1]
  simp only [hrv] at key
  have HRV := Lib.hid hrv; have HRR := Lib.hid hRR
  obtain ⟨kd, hkd⟩ : ∃ kd, r.kind = kd := ⟨_, rfl⟩
  obtain ⟨sq, hsq⟩ : ∃ sq, r.seq = sq := ⟨_, rfl⟩
  obtain ⟨tm, htm⟩ : ∃ tm, r.time = tm := ⟨_, rfl⟩
  rw [hkd, hsq, htm] at key HRV
  have HKEY := Lib.hid key
  have hiz : (i : Int) ≤ n := by omega
  clear key hrv hRR hpp hkd hsq htm
  have HEND := Lib.hid (show ∀ w3, Below w2.heap.size w2 w3 → w3.heap[rb]? = some (.cells #[.int .i64 0, .int .i64 0, .int .i64 0, .string ⟨#[]⟩, .string ⟨#[]⟩, .string ⟨#[]⟩] 56 (0, 0)) from fun w3 hb3 => (hb3.block rb hrbl2).trans HEA2.out)
  rcases hrow.2 with ⟨rfl, h0⟩ | ⟨g, off, cap, cur, rfl, hgg, hle, hcapm, _⟩
  · obtain rfl : i = 0 := by omega
    subst h0
    have HS := Lib.hid (HKEY.out none 0 (by
      have hL : L = [] := List.eq_nil_of_length_eq_zero HNL.out
      rw [hL]; exact ⟨none, 0, rfl, fun h => absurd rfl h⟩))
    clear hrow HKEY
    go_wp2_with fail
    refine HS.out.mono ?_
    rintro e w3 ⟨rfl, hb3⟩
    have hea3 := HEND.out w3 hb3
    obtain ⟨q0, q1, q2, q3, q4, q5⟩ := sixC hea3
    have zf : ∀ j, w3.frozen? ⟨rb, j, none⟩ = false := fun j => frozen_of_row w3 rb j _ _ hea3
    have hrbl3 := heap_lt hea3
    have HF2 := Lib.hid (below6 (HB2.out.trans (hb3.mono HB2.out.size)) (Nat.le_of_eq HRB.out) (.int .i64 kd) (.int .i64 sq) (.int .i64 tm) (.string s) (.string h) (.string d))
    have HR6 := Lib.hid (set6 (.int .i64 kd) (.int .i64 sq) (.int .i64 tm) (.string s) (.string h) (.string d) hea3)
    clear hb3 hea3 HS
    go_wp2_with fail
    refine bodyPost_ret (v := .tuple #[.agg #[.int .i64 kd, .int .i64 sq, .int .i64 tm, .string s, .string h, .string d], .int .i64 er]) (res_rec2 6 7 Tryd.results36 _ _ rb rfl rfl HR6.out) rfl ?_
    exact ⟨0, HLO.out, HHI.out, by rw [HRR.out]; simp only; rw [← HRV.out], HF2.out⟩
  · by_cases hci : cap = i
    · subst hci
      have hni : n = cap := by omega
      subst hni
      have HS := Lib.hid (HKEY.out (some ⟨g, off, none⟩) 0 (HREC.out.tail n (Nat.le_refl _) _ _ (fun h => absurd h (Nat.lt_irrefl _))))
      rw [Nat.sub_self] at HS
      clear hrow HKEY hgg
      go_wp2_with fail
      refine HS.out.mono ?_
      rintro e w3 ⟨rfl, hb3⟩
      have hea3 := HEND.out w3 hb3
      obtain ⟨q0, q1, q2, q3, q4, q5⟩ := sixC hea3
      have zf : ∀ j, w3.frozen? ⟨rb, j, none⟩ = false := fun j => frozen_of_row w3 rb j _ _ hea3
      have hrbl3 := heap_lt hea3
      have HF2 := Lib.hid (below6 (HB2.out.trans (hb3.mono HB2.out.size)) (Nat.le_of_eq HRB.out) (.int .i64 kd) (.int .i64 sq) (.int .i64 tm) (.string s) (.string h) (.string d))
      have HR6 := Lib.hid (set6 (.int .i64 kd) (.int .i64 sq) (.int .i64 tm) (.string s) (.string h) (.string d) hea3)
      clear hb3 hea3 HS
      go_wp2_with fail
      refine bodyPost_ret (v := .tuple #[.agg #[.int .i64 kd, .int .i64 sq, .int .i64 tm, .string s, .string h, .string d], .int .i64 er]) (res_rec2 6 7 Tryd.results36 _ _ rb rfl rfl HR6.out) rfl ?_
      exact ⟨n, HLO.out, HHI.out, by rw [HRR.out]; simp only; rw [← HRV.out], HF2.out⟩
    · have HS := Lib.hid (HKEY.out (some ⟨g, off + i * 6, none⟩) (cap - i) (HREC.out.tail i hile _ _ (fun _ => rfl)))
      have hci2 : (i : Int) ≤ cap := by omega
      clear hrow HKEY hgg
      go_wp2_with fail
      refine HS.out.mono ?_
      rintro e w3 ⟨rfl, hb3⟩
      have hea3 := HEND.out w3 hb3
      obtain ⟨q0, q1, q2, q3, q4, q5⟩ := sixC hea3
      have zf : ∀ j, w3.frozen? ⟨rb, j, none⟩ = false := fun j => frozen_of_row w3 rb j _ _ hea3
      have hrbl3 := heap_lt hea3
      have HF2 := Lib.hid (below6 (HB2.out.trans (hb3.mono HB2.out.size)) (Nat.le_of_eq HRB.out) (.int .i64 kd) (.int .i64 sq) (.int .i64 tm) (.string s) (.string h) (.string d))
      have HR6 := Lib.hid (set6 (.int .i64 kd) (.int .i64 sq) (.int .i64 tm) (.string s) (.string h) (.string d) hea3)
      clear hb3 hea3 HS
      go_wp2_with fail
      refine bodyPost_ret (v := .tuple #[.agg #[.int .i64 kd, .int .i64 sq, .int .i64 tm, .string s, .string h, .string d], .int .i64 er]) (res_rec2 6 7 Tryd.results36 _ _ rb rfl rfl HR6.out) rfl ?_
      exact ⟨i, HLO.out, HHI.out, by rw [HRR.out]; simp only; rw [← HRV.out], HF2.out⟩
end
end Go.Proofs.YtpmffneohcbhbaaDoor.Sto
