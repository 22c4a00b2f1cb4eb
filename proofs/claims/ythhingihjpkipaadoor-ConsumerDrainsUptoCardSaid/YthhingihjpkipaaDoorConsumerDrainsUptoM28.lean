/- Parts of the proof, joined: rillkeep.ready, walked: it returns true.; Who acks each delivery: what comes of a consumer, in plain Lean; what was gathered, in memory.; A number's place among pending deliveries: slices.BinarySearchFunc and (*Consumer).find, walked. -/
import Derived.Test.YthhingihjpkipaaDoorConsumerDrainsUptoM27
namespace Go.Proofs.YthhingihjpkipaaDoor.Con
open Go.RowKit Heap
open Subj (Tok TakerP ML errT errT_facts Ints)
open Sto (StoreAt Right filled_any note_any noteR runS recs_new recsV fits_note sixC)
open Rec (Rc far)

def tR : TakerP := ⟨[99], [97, 46, 42], 0, 0, 2, 5, [], 0, 2, false⟩
def LR : List Rc := [noteR 1, noteR 2, noteR 3]
def cR0 : Cn := ⟨1, 0, []⟩
def cR1 : Cn := (nextP tR LR 0 cR0).1
def cR2 : Cn := (nextP tR LR 1 cR1).1
def cR3 : Cn := (nextP tR LR 2 cR2).1
def cR4 : Cn := (nextP tR LR 5 cR3).1
def cR : Nat → Cn
  | 0 => cR0
  | 1 => cR1
  | 2 => cR2
  | 3 => cR3
  | _ => cR4
def aR : Nat → Cn × Dl × Nat
  | 0 => nextP tR LR 0 cR0
  | 1 => nextP tR LR 1 cR1
  | 2 => nextP tR LR 2 cR2
  | _ => nextP tR LR 5 cR3

theorem runR : runS [noteR 1, noteR 2, noteR 3] = (LR, 3) := by kernel_rfl
theorem factsR : errT tR = 0 ∧ newP tR LR 3 = cR 0 ∧ (aR 0).2.2 = 0 ∧ (aR 1).2.2 = 0 ∧ (aR 2).2.2 = 11 ∧ (aR 3).2.2 = 0 ∧ (aR 0).2.1.seq = 1 ∧ (aR 1).2.1.seq = 2 ∧ (aR 1).2.1.left = 1 ∧ (aR 3).2.1.seq = 1 ∧ (aR 3).2.1.nth = 2 := by
  refine ⟨by decide +kernel, rfl, by decide +kernel, by decide +kernel, by decide +kernel, by decide +kernel, by decide +kernel, by decide +kernel, by decide +kernel, by decide +kernel, by decide +kernel⟩

section
variable {w : World}

set_option maxHeartbeats 8000000 in
set_option maxRecDepth 100000 in
theorem ready_any (hm : ML w) : Calls Tryd.prog 13 #[] w fun e w' => e = .returned (.bool true) ∧ Below w.heap.size w w' := by
  have HML := Lib.hid hm
  clear hm
  go_enter Tryd.func13, Tryd.ntmps13
  go_wp2_with fail
  refine (note_any 1).mono ?_
  rintro e w1 ⟨rfl, hb1⟩
  have B1 := Lib.hid hb1
  clear hb1
  unfold Sto.recV
  go_wp2_with fail
  refine (note_any 2).mono ?_
  rintro e w2 ⟨rfl, hb2⟩
  have B2 := Lib.hid (B1.out.trans (hb2.mono B1.out.size))
  clear hb2 B1
  unfold Sto.recV
  go_wp2_with fail
  refine (note_any 3).mono ?_
  rintro e w3 ⟨rfl, hb3⟩
  have B3 := Lib.hid (B2.out.trans (hb3.mono B2.out.size))
  clear hb3 B2
  unfold Sto.recV
  go_wp2_with fail
  refine (filled_any (W := w) (w := w3.alloc (.cells (recsV [noteR 1, noteR 2, noteR 3]).toArray 29)) (B3.out.alloc B3.out.size _) HML.out (recs_new w3 [noteR 1, noteR 2, noteR 3]) (by decide) (fun r hr => by
    simp only [List.mem_cons, List.not_mem_nil, or_false] at hr
    rcases hr with rfl | rfl | rfl
    · exact fits_note 1
    · exact fits_note 2
    · exact fits_note 3)).mono ?_
  rintro e w4 ⟨D, F, rfl, hS, hF, hb4⟩
  rw [runR] at hS
  have B4 := Lib.hid ((B3.out.alloc B3.out.size _).trans (hb4.mono (by have := B3.out.size; simp; omega)))
  obtain ⟨I, hR⟩ := hS.right
  have HR := Lib.hid hR
  have hbF := hS.bF
  have HNEW := Lib.hid (new_c (t := tR) (vb := .slice none 0 0) hS HML.out ⟨none, 0, rfl, Nat.le_refl _, fun h => absurd rfl h⟩ (by decide) (by decide))
  have HS := Lib.hid hS; have HBF := Lib.hid hbF
  clear hS hF hb4 hR hbF B3
  rw [factsR.1] at HNEW
  unfold takerV tR at HNEW
  simp only at HNEW
  go_wp2_with fail
  refine HNEW.out.mono ?_
  intro e w5 hp5
  rcases hp5 with ⟨h0, _⟩ | ⟨_, K, vb, rfl, hc5, hK5, hvb5, hb5⟩
  · exact absurd rfl h0
  replace hc5 : CAt tc tp w K tR vb (.slice none 0 0) (newP tR LR 3) w5 := hc5
  rw [factsR.2.1] at hc5
  have hP5 : PairAt w F D (16 * 3) LR 3 K tR vb (.slice none 0 0) (cR 0) w5 := ⟨HS.out.next hb5, hc5, fun hk => by have := HBF.out K hk; omega, fun k hk => by simp [own, Value.ownBlock] at hk, fun k hk hF => by have := HBF.out k hF; have := hvb5 k hk; omega⟩
  have X0 := Lib.hid hP5
  have B5 := Lib.hid (B4.out.trans (hb5.mono B4.out.size))
  have O0 := Lib.hid (show Ok 0 (cR 0) from (factsR.2.1 ▸ new_ok factsR.1 HR.out))
  clear hc5 hK5 hvb5 hb5 hP5 HNEW HS HBF B4
  have N0 := Lib.hid (next_c X0.out O0.out (by omega) HML.out factsR.1 0)
  rw [show nextP tR LR 0 (cR 0) = aR 0 from rfl] at N0
  have O1 := Lib.hid (show Ok 1 (cR 1) from next_ok (t := tR) (L := LR) (now := 0) factsR.1 HR.out O0.out)
  obtain ⟨d0, hd0⟩ : ∃ d, (aR 0).2.1 = d := ⟨_, rfl⟩
  obtain ⟨s0, hs0⟩ : ∃ s : ByteArray, (⟨d0.subj.toArray⟩ : ByteArray) = s := ⟨_, rfl⟩
  obtain ⟨z0, hz0⟩ : ∃ s : ByteArray, (⟨d0.data.toArray⟩ : ByteArray) = s := ⟨_, rfl⟩
  have V0 := Lib.hid (show delV d0 = .agg #[.int .i64 d0.seq, .string s0, .string z0, .int .i64 d0.count, .int .i64 d0.nth, .int .i64 d0.left] by unfold delV; rw [hs0, hz0])
  unfold NextPost at N0
  rw [hd0, V0.out, factsR.2.2.1] at N0
  have D0 := Lib.hid hd0
  clear hd0 hs0 hz0
  go_wp2_with fail
  refine N0.out.mono ?_
  rintro e y0 ⟨rfl, hn0⟩
  obtain ⟨v1, hx0, ho0⟩ := X0.out.turn hn0
  have hbe0 : Below w.heap.size w y0 := hx0.below
  obtain ⟨x1, hx0e⟩ : ∃ x, x = y0.alloc (.cells #[.int .i64 d0.seq, .string s0, .string z0, .int .i64 d0.count, .int .i64 d0.nth, .int .i64 d0.left] 56) := ⟨_, rfl⟩
  have hbx0 : Below y0.heap.size y0 x1 := by rw [hx0e]; exact (Below.refl _ _).alloc (Nat.le_refl _) _
  have he0 : x1.heap[y0.heap.size]? = some (.cells #[.int .i64 d0.seq, .string s0, .string z0, .int .i64 d0.count, .int .i64 d0.nth, .int .i64 d0.left] 56 (0, 0)) := by rw [hx0e]; exact heap_alloc_new y0 _
  obtain ⟨b0, hb0e⟩ : ∃ b, y0.heap.size = b := ⟨_, rfl⟩
  rw [hb0e] at he0
  have X1 := Lib.hid (show PairAt w F D (16 * 3) LR 3 K tR vb v1 (cR 1) x1 from hx0.next hbx0)
  have E0_0 := Lib.hid he0; have BE0 := Lib.hid hb0e
  have NK0_0 := Lib.hid (show b0 ≠ K ∧ ¬ own v1 b0 from ⟨fun e => by have := heap_lt hx0.con.cell; omega, fun e => by have := hx0.con.row.lt b0 e; omega⟩)
  clear hn0 hx0 hbe0 hbx0 he0 hb0e N0 X0 O0 ho0
  go_upto_region 6 with fail
  rw [← hx0e, BE0.out]
  clear hx0e
  have N1 := Lib.hid (next_c X1.out O1.out (by omega) HML.out factsR.1 1)
  rw [show nextP tR LR 1 (cR 1) = aR 1 from rfl] at N1
  have O2 := Lib.hid (show Ok 2 (cR 2) from next_ok (t := tR) (L := LR) (now := 1) factsR.1 HR.out O1.out)
  obtain ⟨d1, hd1⟩ : ∃ d, (aR 1).2.1 = d := ⟨_, rfl⟩
  obtain ⟨s1, hs1⟩ : ∃ s : ByteArray, (⟨d1.subj.toArray⟩ : ByteArray) = s := ⟨_, rfl⟩
  obtain ⟨z1, hz1⟩ : ∃ s : ByteArray, (⟨d1.data.toArray⟩ : ByteArray) = s := ⟨_, rfl⟩
  have V1 := Lib.hid (show delV d1 = .agg #[.int .i64 d1.seq, .string s1, .string z1, .int .i64 d1.count, .int .i64 d1.nth, .int .i64 d1.left] by unfold delV; rw [hs1, hz1])
  unfold NextPost at N1
  rw [hd1, V1.out, factsR.2.2.2.1] at N1
  have D1 := Lib.hid hd1
  clear hd1 hs1 hz1
  go_wp2_with fail
  refine N1.out.mono ?_
  rintro e y1 ⟨rfl, hn1⟩
  obtain ⟨v2, hx1, ho1⟩ := X1.out.turn hn1
  have hbe1 : Below w.heap.size w y1 := hx1.below
  obtain ⟨x2, hx1e⟩ : ∃ x, x = y1.alloc (.cells #[.int .i64 d1.seq, .string s1, .string z1, .int .i64 d1.count, .int .i64 d1.nth, .int .i64 d1.left] 56) := ⟨_, rfl⟩
  have hbx1 : Below y1.heap.size y1 x2 := by rw [hx1e]; exact (Below.refl _ _).alloc (Nat.le_refl _) _
  have he1 : x2.heap[y1.heap.size]? = some (.cells #[.int .i64 d1.seq, .string s1, .string z1, .int .i64 d1.count, .int .i64 d1.nth, .int .i64 d1.left] 56 (0, 0)) := by rw [hx1e]; exact heap_alloc_new y1 _
  obtain ⟨b1, hb1e⟩ : ∃ b, y1.heap.size = b := ⟨_, rfl⟩
  rw [hb1e] at he1
  have X2 := Lib.hid (show PairAt w F D (16 * 3) LR 3 K tR vb v2 (cR 2) x2 from hx1.next hbx1)
  have hk1_0 : y1.heap[b0]? = _ := (hn1.elim fun _ h => h.2.1.block b0 (heap_lt E0_0.out) (fun e => by
    rcases e with e | e
    · exact NK0_0.out.1 e
    · exact NK0_0.out.2 e)).trans E0_0.out
  have E1_0 := Lib.hid ((hbx1.block b0 (heap_lt hk1_0)).trans hk1_0)
  have NK1_0 := Lib.hid (show b0 ≠ K ∧ ¬ own v2 b0 from ⟨NK0_0.out.1, fun e => by
    rcases ho1 b0 e with e | e
    · exact NK0_0.out.2 e
    · have := heap_lt E0_0.out; omega⟩)
  have E1_1 := Lib.hid he1; have BE1 := Lib.hid hb1e
  have NK1_1 := Lib.hid (show b1 ≠ K ∧ ¬ own v2 b1 from ⟨fun e => by have := heap_lt hx1.con.cell; omega, fun e => by have := hx1.con.row.lt b1 e; omega⟩)
  clear hn1 hx1 hbe1 hbx1 he1 hb1e N1 X1 O1 ho1 hk1_0 E0_0 NK0_0
  go_upto_region 7 with fail
  rw [← hx1e, BE1.out]
  clear hx1e
  have N2 := Lib.hid (next_c X2.out O2.out (by omega) HML.out factsR.1 2)
  rw [show nextP tR LR 2 (cR 2) = aR 2 from rfl] at N2
  have O3 := Lib.hid (show Ok 3 (cR 3) from next_ok (t := tR) (L := LR) (now := 2) factsR.1 HR.out O2.out)
  obtain ⟨d2, hd2⟩ : ∃ d, (aR 2).2.1 = d := ⟨_, rfl⟩
  obtain ⟨s2, hs2⟩ : ∃ s : ByteArray, (⟨d2.subj.toArray⟩ : ByteArray) = s := ⟨_, rfl⟩
  obtain ⟨z2, hz2⟩ : ∃ s : ByteArray, (⟨d2.data.toArray⟩ : ByteArray) = s := ⟨_, rfl⟩
  have V2 := Lib.hid (show delV d2 = .agg #[.int .i64 d2.seq, .string s2, .string z2, .int .i64 d2.count, .int .i64 d2.nth, .int .i64 d2.left] by unfold delV; rw [hs2, hz2])
  unfold NextPost at N2
  rw [hd2, V2.out, factsR.2.2.2.2.1] at N2
  have D2 := Lib.hid hd2
  clear hd2 hs2 hz2
  go_wp2_with fail
  refine N2.out.mono ?_
  rintro e y2 ⟨rfl, hn2⟩
  obtain ⟨v3, hx2, ho2⟩ := X2.out.turn hn2
  have hbe2 : Below w.heap.size w y2 := hx2.below
  obtain ⟨x3, hx2e⟩ : ∃ x, x = y2.alloc (.cells #[.int .i64 d2.seq, .string s2, .string z2, .int .i64 d2.count, .int .i64 d2.nth, .int .i64 d2.left] 56) := ⟨_, rfl⟩
  have hbx2 : Below y2.heap.size y2 x3 := by rw [hx2e]; exact (Below.refl _ _).alloc (Nat.le_refl _) _
  have he2 : x3.heap[y2.heap.size]? = some (.cells #[.int .i64 d2.seq, .string s2, .string z2, .int .i64 d2.count, .int .i64 d2.nth, .int .i64 d2.left] 56 (0, 0)) := by rw [hx2e]; exact heap_alloc_new y2 _
  obtain ⟨b2, hb2e⟩ : ∃ b, y2.heap.size = b := ⟨_, rfl⟩
  rw [hb2e] at he2
  have X3 := Lib.hid (show PairAt w F D (16 * 3) LR 3 K tR vb v3 (cR 3) x3 from hx2.next hbx2)
  have hk2_0 : y2.heap[b0]? = _ := (hn2.elim fun _ h => h.2.1.block b0 (heap_lt E1_0.out) (fun e => by
    rcases e with e | e
    · exact NK1_0.out.1 e
    · exact NK1_0.out.2 e)).trans E1_0.out
  have E2_0 := Lib.hid ((hbx2.block b0 (heap_lt hk2_0)).trans hk2_0)
  have NK2_0 := Lib.hid (show b0 ≠ K ∧ ¬ own v3 b0 from ⟨NK1_0.out.1, fun e => by
    rcases ho2 b0 e with e | e
    · exact NK1_0.out.2 e
    · have := heap_lt E1_0.out; omega⟩)
  have hk2_1 : y2.heap[b1]? = _ := (hn2.elim fun _ h => h.2.1.block b1 (heap_lt E1_1.out) (fun e => by
    rcases e with e | e
    · exact NK1_1.out.1 e
    · exact NK1_1.out.2 e)).trans E1_1.out
  have E2_1 := Lib.hid ((hbx2.block b1 (heap_lt hk2_1)).trans hk2_1)
  have NK2_1 := Lib.hid (show b1 ≠ K ∧ ¬ own v3 b1 from ⟨NK1_1.out.1, fun e => by
    rcases ho2 b1 e with e | e
    · exact NK1_1.out.2 e
    · have := heap_lt E1_1.out; omega⟩)
  have E2_2 := Lib.hid he2; have BE2 := Lib.hid hb2e
  have NK2_2 := Lib.hid (show b2 ≠ K ∧ ¬ own v3 b2 from ⟨fun e => by have := heap_lt hx2.con.cell; omega, fun e => by have := hx2.con.row.lt b2 e; omega⟩)
  clear hn2 hx2 hbe2 hbx2 he2 hb2e N2 X2 O2 ho2 hk2_0 E1_0 NK1_0 hk2_1 E1_1 NK1_1
  go_upto_region 8 with fail
  rw [← hx2e, BE2.out]
  clear hx2e
  have N3 := Lib.hid (next_c X3.out O3.out (by omega) HML.out factsR.1 5)
  rw [show nextP tR LR 5 (cR 3) = aR 3 from rfl] at N3
  have O4 := Lib.hid (show Ok 4 (cR 4) from next_ok (t := tR) (L := LR) (now := 5) factsR.1 HR.out O3.out)
  obtain ⟨d3, hd3⟩ : ∃ d, (aR 3).2.1 = d := ⟨_, rfl⟩
  obtain ⟨s3, hs3⟩ : ∃ s : ByteArray, (⟨d3.subj.toArray⟩ : ByteArray) = s := ⟨_, rfl⟩
  obtain ⟨z3, hz3⟩ : ∃ s : ByteArray, (⟨d3.data.toArray⟩ : ByteArray) = s := ⟨_, rfl⟩
  have V3 := Lib.hid (show delV d3 = .agg #[.int .i64 d3.seq, .string s3, .string z3, .int .i64 d3.count, .int .i64 d3.nth, .int .i64 d3.left] by unfold delV; rw [hs3, hz3])
  unfold NextPost at N3
  rw [hd3, V3.out, factsR.2.2.2.2.2.1] at N3
  have D3 := Lib.hid hd3
  clear hd3 hs3 hz3
  go_wp2_with fail
  refine N3.out.mono ?_
  rintro e y3 ⟨rfl, hn3⟩
  obtain ⟨v4, hx3, ho3⟩ := X3.out.turn hn3
  have hbe3 : Below w.heap.size w y3 := hx3.below
  obtain ⟨x4, hx3e⟩ : ∃ x, x = y3.alloc (.cells #[.int .i64 d3.seq, .string s3, .string z3, .int .i64 d3.count, .int .i64 d3.nth, .int .i64 d3.left] 56) := ⟨_, rfl⟩
  have hbx3 : Below y3.heap.size y3 x4 := by rw [hx3e]; exact (Below.refl _ _).alloc (Nat.le_refl _) _
  have he3 : x4.heap[y3.heap.size]? = some (.cells #[.int .i64 d3.seq, .string s3, .string z3, .int .i64 d3.count, .int .i64 d3.nth, .int .i64 d3.left] 56 (0, 0)) := by rw [hx3e]; exact heap_alloc_new y3 _
  obtain ⟨b3, hb3e⟩ : ∃ b, y3.heap.size = b := ⟨_, rfl⟩
  rw [hb3e] at he3
  have X4 := Lib.hid (show PairAt w F D (16 * 3) LR 3 K tR vb v4 (cR 4) x4 from hx3.next hbx3)
  have hk3_0 : y3.heap[b0]? = _ := (hn3.elim fun _ h => h.2.1.block b0 (heap_lt E2_0.out) (fun e => by
    rcases e with e | e
    · exact NK2_0.out.1 e
    · exact NK2_0.out.2 e)).trans E2_0.out
  have E3_0 := Lib.hid ((hbx3.block b0 (heap_lt hk3_0)).trans hk3_0)
  have NK3_0 := Lib.hid (show b0 ≠ K ∧ ¬ own v4 b0 from ⟨NK2_0.out.1, fun e => by
    rcases ho3 b0 e with e | e
    · exact NK2_0.out.2 e
    · have := heap_lt E2_0.out; omega⟩)
  have hk3_1 : y3.heap[b1]? = _ := (hn3.elim fun _ h => h.2.1.block b1 (heap_lt E2_1.out) (fun e => by
    rcases e with e | e
    · exact NK2_1.out.1 e
    · exact NK2_1.out.2 e)).trans E2_1.out
  have E3_1 := Lib.hid ((hbx3.block b1 (heap_lt hk3_1)).trans hk3_1)
  have NK3_1 := Lib.hid (show b1 ≠ K ∧ ¬ own v4 b1 from ⟨NK2_1.out.1, fun e => by
    rcases ho3 b1 e with e | e
    · exact NK2_1.out.2 e
    · have := heap_lt E2_1.out; omega⟩)
  have hk3_2 : y3.heap[b2]? = _ := (hn3.elim fun _ h => h.2.1.block b2 (heap_lt E2_2.out) (fun e => by
    rcases e with e | e
    · exact NK2_2.out.1 e
    · exact NK2_2.out.2 e)).trans E2_2.out
  have E3_2 := Lib.hid ((hbx3.block b2 (heap_lt hk3_2)).trans hk3_2)
  have NK3_2 := Lib.hid (show b2 ≠ K ∧ ¬ own v4 b2 from ⟨NK2_2.out.1, fun e => by
    rcases ho3 b2 e with e | e
    · exact NK2_2.out.2 e
    · have := heap_lt E2_2.out; omega⟩)
  have E3_3 := Lib.hid he3; have BE3 := Lib.hid hb3e
  have NK3_3 := Lib.hid (show b3 ≠ K ∧ ¬ own v4 b3 from ⟨fun e => by have := heap_lt hx3.con.cell; omega, fun e => by have := hx3.con.row.lt b3 e; omega⟩)
  clear hn3 hx3 hbe3 hbx3 he3 hb3e N3 X3 O3 ho3 hk3_0 E2_0 NK2_0 hk3_1 E2_1 NK2_1 hk3_2 E2_2 NK2_2
  go_upto_region 9 with fail
  rw [← hx3e, BE3.out]
  clear hx3e
  obtain ⟨m0, _, _, _, _, _⟩ := sixC E3_0.out
  obtain ⟨n0, _, _, _, _, n5⟩ := sixC E3_1.out
  obtain ⟨p0, _, _, _, p4, _⟩ := sixC E3_3.out
  rw [show d0.seq = 1 by rw [← D0.out]; exact factsR.2.2.2.2.2.2.1] at m0
  rw [show d1.seq = 2 by rw [← D1.out]; exact factsR.2.2.2.2.2.2.2.1] at n0
  rw [show d1.left = 1 by rw [← D1.out]; exact factsR.2.2.2.2.2.2.2.2.1] at n5
  rw [show d3.seq = 1 by rw [← D3.out]; exact factsR.2.2.2.2.2.2.2.2.2.1] at p0
  rw [show d3.nth = 2 by rw [← D3.out]; exact factsR.2.2.2.2.2.2.2.2.2.2] at p4
  have HFI := Lib.hid X4.out.below
  go_wp2_with fail
  go_ret
  exact ⟨by simp, HFI.out⟩
end
end Go.Proofs.YthhingihjpkipaaDoor.Con

namespace Go.Proofs.YthhingihjpkipaaDoor.Con
open Go.RowKit Heap
open Subj (Tok TakerP ML errT errT_facts)
open Sto (StoreAt Right seekR tk seqsV seqsV_len)
open Rec (Rc far)

def cQ (p0 : Int) (G : List Rc) (j : Nat) : Cn := ⟨placeQ p0 G j, j, []⟩

section
variable {t : TakerP} {L G : List Rc} {p0 now : Int} {j : Nat} {x : Rc}

/-- The consumer behind a delivery that isn't acked yet. -/
def cN (t : TakerP) (p0 : Int) (G : List Rc) (now : Int) (j : Nat) (x : Rc) : Cn := ⟨x.seq + 1, (j : Int) + 1, if t.ack = 0 then [] else [⟨x.seq, 1, now + waitT t 1⟩]⟩

theorem next_hit (hr : L.Pairwise fun a b => a.seq < b.seq) (hG : L.filter (want t p0) = G) (hx : G[j]? = some x) (hn : ¬ (now < 0 ∨ far < now)) :
    (nextP t L now (cQ p0 G j)).1 = cN t p0 G now j x ∧ (nextP t L now (cQ p0 G j)).2.1.seq = x.seq ∧ (nextP t L now (cQ p0 G j)).2.2 = 0 := by
  have hj : j < G.length := (List.getElem?_eq_some_iff.1 hx).1
  have hf := find_want hr hG (j := j) (by omega)
  rw [hx] at hf
  have e : nextP t L now (cQ p0 G j) = freshP t L now (cQ p0 G j) := by unfold nextP; rw [if_neg hn]; rfl
  rw [e]
  unfold freshP
  rw [if_neg (by show ¬ (0 < t.pend ∧ t.pend ≤ ((([] : List Pd).length : Nat) : Int)); simp), show (cQ p0 G j).place = placeQ p0 G j from rfl, hf]
  refine ⟨?_, rfl, rfl⟩
  show (⟨x.seq + 1, (j : Int) + 1, if t.ack = 0 then [] else [] ++ [⟨x.seq, 1, now + waitT t 1⟩]⟩ : Cn) = _
  rw [List.nil_append]
  rfl

theorem next_end (hr : L.Pairwise fun a b => a.seq < b.seq) (hG : L.filter (want t p0) = G) (hn : ¬ (now < 0 ∨ far < now)) :
    nextP t L now (cQ p0 G G.length) = (cQ p0 G G.length, Dl.zero, 4) := by
  have hf := find_want hr hG (j := G.length) (Nat.le_refl _)
  rw [List.getElem?_eq_none_iff.2 (Nat.le_refl _)] at hf
  have e : nextP t L now (cQ p0 G G.length) = freshP t L now (cQ p0 G G.length) := by unfold nextP; rw [if_neg hn]; rfl
  rw [e]
  unfold freshP
  rw [if_neg (by show ¬ (0 < t.pend ∧ t.pend ≤ ((([] : List Pd).length : Nat) : Int)); simp), show (cQ p0 G G.length).place = placeQ p0 G G.length from rfl, hf]

theorem answer_hit (hx : G[j]? = some x) (hn : ¬ (now < 0 ∨ far < now)) (ha : t.ack ≠ 0) : answerP t now x.seq 1 0 (cN t p0 G now j x) = (cQ p0 G (j + 1), 0) := by
  unfold answerP
  rw [if_neg (by have : mostN 1 = 0 := rfl; omega)]
  have hl : (cN t p0 G now j x).l = [⟨x.seq, 1, now + waitT t 1⟩] := by unfold cN; rw [if_neg ha]
  have hi : idxP (cN t p0 G now j x).l x.seq = some 0 := by rw [hl]; unfold idxP; simp [List.findIdx?_cons]
  rw [hi, hl]
  have hq : cQ p0 G (j + 1) = ⟨x.seq + 1, (j : Int) + 1, []⟩ := by unfold cQ; rw [placeQ_step hx]; simp
  rw [hq]
  simp only [List.getElem?_cons_zero]
  rw [if_neg (by decide), if_neg (by decide)]
  split
  · rfl
  · rfl

theorem none_hit (hx : G[j]? = some x) (ha : t.ack = 0) : cN t p0 G now j x = cQ p0 G (j + 1) := by
  unfold cN cQ
  rw [if_pos ha, placeQ_step hx]; simp

theorem ok_q (hp : 1 ≤ p0 ∧ p0 ≤ far + 1) (hg : ∀ r ∈ G, 1 ≤ r.seq ∧ r.seq ≤ far) (j : Nat) : Ok j (cQ p0 G j) := by
  refine ⟨List.Pairwise.nil, (fun p h => by cases h), ?_, ⟨Int.natCast_nonneg j, Int.le_refl _⟩, by show ((0 : Nat) : Int) ≤ (j : Int); omega⟩
  show 1 ≤ placeQ p0 G j ∧ placeQ p0 G j ≤ far + 1
  cases j with
  | zero => exact hp
  | succ j =>
    cases hx : G[j]? with
    | none =>
      have : placeQ p0 G (j + 1) = p0 := by show (match G[j]? with | some x => x.seq + 1 | none => p0) = _; rw [hx]
      rw [this]; exact hp
    | some x => rw [placeQ_step hx]; have := hg x (List.mem_of_getElem? hx); omega

theorem seqs_take (h : G[j]? = some x) : seqsV (G.take (j + 1)) = seqsV (G.take j) ++ [.int .i64 x.seq] := by
  rw [List.take_add_one, h]
  simp [seqsV]
end

section
variable {W w w1 : World} {F : Nat → Prop} {D B K : Nat} {L : List Rc} {last : Int} {t : TakerP} {vb v got : Value} {c c' : Cn} {Gt : List Rc}

/-- A consumer, a store, and what was gathered. -/
structure DrAt (W : World) (F : Nat → Prop) (D B : Nat) (L : List Rc) (last : Int) (K : Nat) (t : TakerP) (vb v : Value) (c : Cn) (got : Value) (Gt : List Rc) (w : World) : Prop where
  pair : PairAt W F D B L last K t vb v c w
  row : Row w 3 1 got Gt.length (seqsV Gt)
  dis : ∀ k, own got k → W.heap.size ≤ k ∧ ¬ F k ∧ k ≠ K ∧ ¬ own v k ∧ ¬ own vb k

theorem DrAt.next (h : DrAt W F D B L last K t vb v c got Gt w) (hb : Below w.heap.size w w1) : DrAt W F D B L last K t vb v c got Gt w1 := ⟨h.pair.next hb, h.row.kept fun k _ hk => hb.block k hk, h.dis⟩

theorem DrAt.turn (h : DrAt W F D B L last K t vb v c got Gt w) (hn : NextC tc tp W K t vb v w c' w1) : ∃ v', DrAt W F D B L last K t vb v' c' got Gt w1 := by
  obtain ⟨v', hc, ht, ho⟩ := hn
  refine ⟨v', h.pair.of hc ht ho, h.row.kept fun k hk hlt => ht.block k hlt fun e => ?_, fun k hk => ⟨(h.dis k hk).1, (h.dis k hk).2.1, (h.dis k hk).2.2.1, fun e => ?_, (h.dis k hk).2.2.2.2⟩⟩
  · rcases e with e | e
    · exact (h.dis k hk).2.2.1 e
    · exact (h.dis k hk).2.2.2.1 e
  · rcases ho k e with e | e
    · exact (h.dis k hk).2.2.2.1 e
    · have := h.row.lt k hk; omega

theorem DrAt.more {got2 : Value} {G2 : List Rc} (h : DrAt W F D B L last K t vb v c got Gt w) (hr : Row w1 3 1 got2 G2.length (seqsV G2)) (ht : Heap.Touch (own got) w w1) (ho : ∀ k, own got2 k → own got k ∨ w.heap.size ≤ k) : DrAt W F D B L last K t vb v c got2 G2 w1 := by
  have hW := h.pair.below.size
  refine ⟨⟨h.pair.st.kept (h.pair.below.trans (ht.below hW fun k hk => (h.dis k hk).1)) ht.size fun k hk hlt => ht.block k hlt fun e => (h.dis k e).2.1 hk, h.pair.con.touch ht (fun k hk => (h.dis k hk).1) (fun e => (h.dis K e).2.2.1 rfl) (fun k hk e => (h.dis k e).2.2.2.1 hk) (fun k hk e => (h.dis k e).2.2.2.2 hk), h.pair.fK, h.pair.fv, h.pair.fb⟩, hr, fun k hk => ?_⟩
  rcases ho k hk with e | e
  · exact h.dis k e
  · exact ⟨Nat.le_trans hW e, fun hF => by have := h.pair.st.bF k hF; omega, fun hK => by have := heap_lt h.pair.con.cell; omega, fun hv => by have := h.pair.con.row.lt k hv; omega, fun hv => by have := (h.pair.con.fb k hv).1; omega⟩
end
end Go.Proofs.YthhingihjpkipaaDoor.Con

namespace Go.Proofs.YthhingihjpkipaaDoor.Con
open Go.RowKit Heap
open Subj (Tok TakerP)
open Rec (far)
open Idx (mem_take_get mem_drop_get)

/-- The comparison. -/
def cmpP (q : Int) (r : Pd) : Int := IntKind.i64.wrap (r.seq - q)

theorem cmpP_in {q : Int} {r : Pd} (h1 : 0 ≤ r.seq ∧ r.seq ≤ far) (h2 : -4611686018427387904 ≤ q ∧ q ≤ 9223372036854775807) : cmpP q r = r.seq - q := by
  unfold cmpP
  unfold far at h1
  exact IntWalk.i64_in _ (by omega)

theorem cmpP_zero {q : Int} {r : Pd} (h1 : 0 ≤ r.seq ∧ r.seq ≤ far) (h2 : -9223372036854775808 ≤ q ∧ q ≤ 9223372036854775807) (h : cmpP q r = 0) : r.seq = q := by
  unfold cmpP at h
  unfold far at h1
  rw [IntKind.wrap_i64] at h
  omega

set_option maxRecDepth 100000 in
theorem cmp_pd (r : Pd) (q : Int) (w : World) : Calls Tryd.prog 100 #[.agg #[.int .i64 r.seq, .int .i64 r.nth, .int .i64 r.due], .int .i64 q] w fun e w' => e = .returned (.int .i64 (cmpP q r)) ∧ Below w.heap.size w w' := by
  obtain ⟨z, hz⟩ : ∃ z, cmpP q r = z := ⟨_, rfl⟩
  have HZ := Lib.hid hz
  rw [hz]
  unfold cmpP at hz
  go_enter Tryd.func100, Tryd.ntmps100
  go_wp2
  go_ret
  exact ⟨ret_int rfl, (Below.refl _ _).alloc (Nat.le_refl _) _⟩

/-- Where a search ends. -/
structure Found (L : List Pd) (q : Int) (i : Nat) (fd : Bool) : Prop where
  le : i ≤ L.length
  yes : fd = true → ∃ r, L[i]? = some r ∧ cmpP q r = 0
  no : fd = false → ∀ r, L[i]? = some r → cmpP q r ≠ 0
  sides : (∀ (j k : Nat) (a b : Pd), j < k → L[j]? = some a → L[k]? = some b → cmpP q a < cmpP q b) → (∀ r ∈ L.take i, cmpP q r < 0) ∧ ∀ r ∈ L.drop i, 0 ≤ cmpP q r

def Mono (L : List Pd) (q : Int) : Prop := ∀ (j k : Nat) (a b : Pd), j < k → L[j]? = some a → L[k]? = some b → cmpP q a < cmpP q b

section
variable {w : World}

set_option maxHeartbeats 4000000 in
set_option maxRecDepth 100000 in
theorem search_pd {v : Value} {L : List Pd} (hrow : Row w 115 3 v L.length (pdsV L)) (hfew : L.length ≤ 100000) (q : Int) :
    Calls Tryd.prog 99 #[v, .int .i64 q, .func (.func 100) #[] #[]] w fun e w' =>
      ∃ i fd, e = .returned (.tuple #[.int .i64 (i : Nat), .bool fd]) ∧ Found L q i fd ∧ Below w.heap.size w w' := by
  obtain ⟨n, hn⟩ : ∃ n, L.length = n := ⟨_, rfl⟩
  rw [hn] at hrow hfew
  have HN := Lib.hid hn
  clear hn
  rcases hrow.2 with ⟨e, h0⟩ | ⟨g, off, cap, cur, e, hg, hle, hcapm, _⟩
  · rw [e]
    subst h0
    have hk0 : L = [] := List.eq_nil_of_length_eq_zero HN.out
    have HF := Lib.hid (show Found L q 0 false from ⟨Nat.zero_le _, (fun h => by cases h), (fun _ r h => by rw [hk0] at h; simp at h), fun _ => ⟨(fun r h => by simp at h), (fun r h => by rw [hk0] at h; simp at h)⟩⟩)
    clear hrow e hk0
    go_enter Tryd.func99, Tryd.ntmps99
    go_wp2_with fail
    go_loopw [9, 10] (fun a b wr => a = .int .i64 0 ∧ b = .int .i64 0 ∧ wr = w) (fun _ _ _ => 0)
    case atStart => exact ⟨rfl, rfl, rfl⟩
    case round =>
      obtain ⟨rfl, rfl, rfl⟩ := hrel
      go_wp2
      go_ret2
      exact ⟨0, false, rfl, HF.out, Below.refl _ _⟩
  · rw [e] at hrow ⊢
    have HR := Lib.hid hrow
    have hglt : g < w.heap.size := heap_lt hg
    clear hrow e hg
    go_enter Tryd.func99, Tryd.ntmps99
    go_wp2_with fail
    go_loopw [9, 10] (fun a b wr => ∃ lo hi : Nat, a = .int .i64 lo ∧ b = .int .i64 hi ∧ lo ≤ hi ∧ hi ≤ n ∧ Below w.heap.size w wr ∧ Hid (Mono L q → (∀ j k, j < lo → L[j]? = some k → cmpP q k < 0) ∧ (∀ j k, hi ≤ j → L[j]? = some k → 0 ≤ cmpP q k))) (fun a b _ => (intOf b).toNat - (intOf a).toNat)
    case atStart => exact ⟨0, n, rfl, rfl, Nat.zero_le _, Nat.le_refl _, Below.refl _ _, Lib.hid fun _ => ⟨fun j k hj => absurd hj (Nat.not_lt_zero _), fun j k hj hk => by have h1 := (List.getElem?_eq_some_iff.1 hk).1; rw [HN.out] at h1; omega⟩⟩
    case round =>
      obtain ⟨lo, hi, rfl, rfl, hlh, hin, BW, I⟩ := hrel
      have BB := Lib.hid BW
      by_cases hlt : lo < hi
      · obtain ⟨k, hk⟩ : ∃ k, L[(lo + hi) / 2]? = some k := ⟨_, List.getElem?_eq_getElem (by rw [HN.out]; omega)⟩
        have hrow' := HR.out.kept (w' := wr) (fun j _ hj => BW.block j hj)
        obtain ⟨m0, m1, m2, _, _⟩ := cells_pd hrow' ((lo + hi) / 2) k hk (by omega)
        have hc := cmp_pd k q wr
        have K := Lib.hid hk
        clear hrow' hk BW
        by_cases hyx : cmpP q k < 0
        · generalize hz : cmpP q k = z at hc hyx
          have Z := Lib.hid hz
          clear hz
          go_wp2_with fail
          refine hc.mono ?_
          rintro e w' ⟨rfl, hb'⟩
          go_wp2_with fail
          refine ⟨⟨(lo + hi) / 2 + 1, hi, by rw [show ((lo : Int) + (hi : Int)) / 2 + 1 = (((lo + hi) / 2 + 1 : Nat) : Int) by omega], rfl, by omega, hin, BB.out.trans (hb'.mono BB.out.size), Lib.hid fun hP => ⟨fun j k' hj hk' => ?_, (I.out hP).2⟩⟩, by simp [intOf]; omega⟩
          by_cases e : j = (lo + hi) / 2
          · subst e
            rw [K.out] at hk'
            cases hk'
            rw [Z.out]; exact hyx
          · have h9 := hP j _ _ _ (show j < (lo + hi) / 2 by omega) hk' K.out
            rw [Z.out] at h9
            omega
        · generalize hz : cmpP q k = z at hc hyx
          have Z := Lib.hid hz
          clear hz
          go_wp2_with fail
          refine hc.mono ?_
          rintro e w' ⟨rfl, hb'⟩
          go_wp2_with fail
          refine ⟨⟨lo, (lo + hi) / 2, rfl, by rw [show ((lo : Int) + (hi : Int)) / 2 = (((lo + hi) / 2 : Nat) : Int) by omega], by omega, by omega, BB.out.trans (hb'.mono BB.out.size), Lib.hid fun hP => ⟨(I.out hP).1, fun j k' hj hk' => ?_⟩⟩, by simp [intOf]; omega⟩
          by_cases e : j = (lo + hi) / 2
          · subst e
            rw [K.out] at hk'
            cases hk'
            rw [Z.out]; omega
          · have h9 := hP _ j _ _ (show (lo + hi) / 2 < j by omega) K.out hk'
            rw [Z.out] at h9
            omega
      · obtain rfl : hi = lo := by omega
        have HLO := Lib.hid (show Mono L q → (∀ y ∈ L.take hi, cmpP q y < 0) ∧ (∀ y ∈ L.drop hi, 0 ≤ cmpP q y) from fun hP =>
          ⟨fun y hy => let ⟨j, hj, e⟩ := mem_take_get hy; (I.out hP).1 j y hj e, fun y hy => let ⟨j, hj, e⟩ := mem_drop_get hy; (I.out hP).2 j y hj e⟩)
        by_cases hlt2 : hi < n
        · obtain ⟨k, hk⟩ : ∃ k, L[hi]? = some k := ⟨_, List.getElem?_eq_getElem (by rw [HN.out]; omega)⟩
          have hrow' := HR.out.kept (w' := wr) (fun j _ hj => BW.block j hj)
          obtain ⟨m0, m1, m2, _, _⟩ := cells_pd hrow' hi k hk (by omega)
          have hc := cmp_pd k q wr
          have K := Lib.hid hk
          clear hrow' hk BW
          by_cases hyx : cmpP q k = 0
          · have Z := Lib.hid hyx
            rw [hyx] at hc
            clear hyx
            go_wp2_with fail
            refine hc.mono ?_
            rintro e w' ⟨rfl, hb'⟩
            go_wp2_with fail
            go_ret2
            exact ⟨hi, true, rfl, ⟨by rw [HN.out]; exact hin, fun _ => ⟨k, K.out, Z.out⟩, (fun h => by cases h), HLO.out⟩, BB.out.trans (hb'.mono BB.out.size)⟩
          · generalize hz : cmpP q k = z at hc hyx
            have Z := Lib.hid hz
            have hz0 : (z == 0) = false := by simpa using hyx
            clear hz
            go_wp2_with fail
            refine hc.mono ?_
            rintro e w' ⟨rfl, hb'⟩
            go_wp2_with fail
            go_ret2
            exact ⟨hi, false, by simp [hz0], ⟨by rw [HN.out]; exact hin, (fun h => by cases h), (fun _ r hr => by
              rw [K.out] at hr
              cases hr
              rw [Z.out]; exact hyx), HLO.out⟩, BB.out.trans (hb'.mono BB.out.size)⟩
        · obtain rfl : hi = n := by omega
          have HF := Lib.hid (show Found L q hi false from ⟨by rw [HN.out]; exact hin, (fun h => by cases h), (fun _ r hr => by
            have h1 := (List.getElem?_eq_some_iff.1 hr).1
            rw [HN.out] at h1; omega), HLO.out⟩)
          clear BW
          go_wp2
          go_ret2
          exact ⟨hi, false, rfl, HF.out, BB.out⟩

variable {L : List Pd}

def hasP (L : List Pd) (q : Int) : Bool := L.any fun r => r.seq == q

/-- Every number's place among rising ones. -/
theorem Found.in {i : Nat} {fd : Bool} {q : Int} (h : Found L q i fd) (hr : L.Pairwise fun a b => a.seq < b.seq) (hs : ∀ r ∈ L, 0 ≤ r.seq ∧ r.seq ≤ far) (hq : -4611686018427387904 ≤ q ∧ q ≤ 9223372036854775807) :
    (∀ r ∈ L.take i, r.seq < q) ∧ (∀ r ∈ L.drop i, q ≤ r.seq) ∧ fd = hasP L q ∧ (fd = true → ∃ r, L[i]? = some r ∧ r.seq = q) := by
  have hz : ∀ r ∈ L, cmpP q r = r.seq - q := fun r hr => cmpP_in (hs r hr) hq
  have hm : Mono L q := fun j k a b hjk h1 h2 => by
    rw [hz a (List.mem_of_getElem? h1), hz b (List.mem_of_getElem? h2)]
    obtain ⟨hi, rfl⟩ := List.getElem?_eq_some_iff.1 h1
    obtain ⟨hj, rfl⟩ := List.getElem?_eq_some_iff.1 h2
    have := List.pairwise_iff_getElem.1 hr j k hi hj hjk
    omega
  obtain ⟨hl, hu⟩ := h.sides hm
  have hl' : ∀ r ∈ L.take i, r.seq < q := fun r hr => by
    have := hl r hr
    rw [hz r (List.mem_of_mem_take hr)] at this; omega
  have hu' : ∀ r ∈ L.drop i, q ≤ r.seq := fun r hr => by
    have := hu r hr
    rw [hz r (List.mem_of_mem_drop hr)] at this; omega
  refine ⟨hl', hu', ?_, fun hf => ?_⟩
  · cases fd with
    | true =>
      obtain ⟨r, h1, h2⟩ := h.yes rfl
      have h3 := List.mem_of_getElem? h1
      rw [hz r h3] at h2
      symm
      unfold hasP
      rw [List.any_eq_true]
      exact ⟨r, h3, by simp; omega⟩
    | false =>
      symm
      unfold hasP
      rw [List.any_eq_false]
      intro r hrm he
      have he : r.seq = q := by simpa using he
      rw [← List.take_append_drop i L, List.mem_append] at hrm
      rcases hrm with h1 | h1
      · have := hl' r h1; omega
      · obtain ⟨j, hj, e⟩ := mem_drop_get h1
        by_cases e3 : j = i
        · subst e3
          have h4 := h.no rfl r e
          rw [hz r (List.mem_of_getElem? e)] at h4
          omega
        · have hjl := (List.getElem?_eq_some_iff.1 e).1
          obtain ⟨k, hk⟩ : ∃ k, L[i]? = some k := ⟨_, List.getElem?_eq_getElem (by omega)⟩
          have h5 := hm i j k r (by omega) hk e
          rw [hz k (List.mem_of_getElem? hk), hz r (List.mem_of_getElem? e)] at h5
          have h6 := hu' k (List.mem_iff_getElem?.2 ⟨0, by rw [List.getElem?_drop, Nat.add_zero]; exact hk⟩)
          omega
  · subst hf
    obtain ⟨r, h1, h2⟩ := h.yes rfl
    rw [hz r (List.mem_of_getElem? h1)] at h2
    exact ⟨r, h1, by omega⟩
end

def idxI (l : List Pd) (q : Int) : Int := match idxP l q with
  | none => -1
  | some i => i

theorem found_idx {L : List Pd} {i : Nat} {fd : Bool} {q : Int} (h : Found L q i fd) (hr : L.Pairwise fun a b => a.seq < b.seq) (hs : ∀ r ∈ L, 0 ≤ r.seq ∧ r.seq ≤ far) (hq : -9223372036854775808 ≤ q ∧ q ≤ 9223372036854775807) :
    idxP L q = if fd then some i else none := by
  by_cases hin : 0 ≤ q
  · obtain ⟨h1, h2, h3, h4⟩ := h.in hr hs ⟨by omega, hq.2⟩
    cases fd with
    | false =>
      rw [if_neg (by simp)]
      refine find_no _ fun x hx => ?_
      unfold hasP at h3
      have h5 := List.any_eq_false.1 h3.symm x hx
      simpa using h5
    | true =>
      obtain ⟨p, hp, hpq⟩ := h4 rfl
      rw [if_pos rfl]
      exact find_at _ hp (by simpa using hpq) fun x hx => by have := h1 x hx; simp; omega
  · have hno : ∀ r ∈ L, r.seq ≠ q := fun r hm e => by have := hs r hm; omega
    have hn : idxP L q = none := find_no _ fun x hx => by simpa using hno x hx
    cases fd with
    | false => rw [if_neg (by simp)]; exact hn
    | true =>
      obtain ⟨r, h1, h2⟩ := h.yes rfl
      have hm := List.mem_of_getElem? h1
      exact absurd (cmpP_zero (hs r hm) hq h2) (hno r hm)

section
variable {W w : World} {K : Nat} {t : TakerP} {vb v : Value} {c : Cn} {k : Nat}

theorem Ok.seqs (h : Ok k c) : ∀ p ∈ c.l, 0 ≤ p.seq ∧ p.seq ≤ far := fun p hp => by
  have h1 := (h.in_ p hp).1
  have h2 := h.place
  omega

set_option maxRecDepth 100000 in
theorem find_c (h : CAt 113 115 W K t vb v c w) (hk : Ok k c) (hfew : c.l.length ≤ 100000) (q : Int) (hq : -9223372036854775808 ≤ q ∧ q ≤ 9223372036854775807) :
    Calls Tryd.prog 61 #[.pointer (some ⟨K, 0, none⟩), .int .i64 q] w fun e w' => e = .returned (.int .i64 (idxI c.l q)) ∧ Below w.heap.size w w' := by
  obtain ⟨c0, c1, c2, c3, c4, c5, c6, c7, c8, c9, c10, c11, c12, cf⟩ := h.cells
  have hlt := heap_lt h.cell
  have HS := Lib.hid (search_pd h.row hfew q)
  have HK := Lib.hid hk
  clear h hk c0 c1 c2 c3 c4 c5 c6 c7 c8 c9 c10 c11
  go_enter Tryd.func61, Tryd.ntmps61
  go_wp2_with fail
  refine HS.out.mono ?_
  rintro e w' ⟨i, fd, rfl, hp, hb'⟩
  have hid := found_idx hp HK.out.rise HK.out.seqs hq
  have HB := Lib.hid hb'
  cases fd with
  | true =>
    have HI := Lib.hid (show idxI c.l q = (i : Int) from by unfold idxI; rw [hid]; rfl)
    clear hp hb' hid
    go_wp2_with fail
    go_ret
    exact ⟨by rw [HI.out]; rfl, HB.out⟩
  | false =>
    have HI := Lib.hid (show idxI c.l q = -1 from by unfold idxI; rw [hid]; rfl)
    clear hp hb' hid
    go_wp2_with fail
    go_ret
    exact ⟨by rw [HI.out]; rfl, HB.out⟩
end
end Go.Proofs.YthhingihjpkipaaDoor.Con
