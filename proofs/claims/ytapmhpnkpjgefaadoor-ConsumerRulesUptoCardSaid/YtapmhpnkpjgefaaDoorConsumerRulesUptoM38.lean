/- Parts of the proof, joined: rillkeep.ready, walked: it returns true. -/
import Derived.Test.YtapmhpnkpjgefaaDoorConsumerRulesUptoM26
import Derived.Test.YtapmhpnkpjgefaaDoorConsumerRulesUptoM28
import Derived.Test.YtapmhpnkpjgefaaDoorConsumerRulesUptoM30
import Derived.Test.YtapmhpnkpjgefaaDoorConsumerRulesUptoM37
namespace Go.Proofs.YtapmhpnkpjgefaaDoor.Con
open Go.RowKit Heap
open Subj (Tok TakerP ML errT errT_facts Ints)
open Sto (StoreAt Right filled_any note_any noteR runS recs_new recsV fits_note sixC)
open Rec (Rc far)

def tR : TakerP := ⟨[99], [97, 46, 42], 0, 0, 2, 5, [], 0, 2, false⟩
def LR : List Rc := [noteR 1, noteR 2, noteR 3]
def cR0 : Cn := ⟨1, 0, []⟩
def cR1 : Cn := (nextP tR LR 0 cR0).1
def cR2 : Cn := (nextP tR LR 1 cR1).1
def cR3 : Cn := (nextP tR LR 2 cR2).1
def cR4 : Cn := (nextP tR LR 5 cR3).1
def cR : Nat → Cn
  | 0 => cR0
  | 1 => cR1
  | 2 => cR2
  | 3 => cR3
  | _ => cR4
def aR : Nat → Cn × Dl × Nat
  | 0 => nextP tR LR 0 cR0
  | 1 => nextP tR LR 1 cR1
  | 2 => nextP tR LR 2 cR2
  | _ => nextP tR LR 5 cR3

theorem runR : runS [noteR 1, noteR 2, noteR 3] = (LR, 3) := by kernel_rfl
theorem factsR : errT tR = 0 ∧ newP tR LR 3 = cR 0 ∧ (aR 0).2.2 = 0 ∧ (aR 1).2.2 = 0 ∧ (aR 2).2.2 = 11 ∧ (aR 3).2.2 = 0 ∧ (aR 0).2.1.seq = 1 ∧ (aR 1).2.1.seq = 2 ∧ (aR 1).2.1.left = 1 ∧ (aR 3).2.1.seq = 1 ∧ (aR 3).2.1.nth = 2 := by
  refine ⟨by decide +kernel, rfl, by decide +kernel, by decide +kernel, by decide +kernel, by decide +kernel, by decide +kernel, by decide +kernel, by decide +kernel, by decide +kernel, by decide +kernel⟩

section
variable {w : World}

set_option maxHeartbeats 8000000 in
set_option maxRecDepth 100000 in
theorem ready_any (hm : ML w) : Calls Tryd.prog 4 #[] w fun e w' => e = .returned (.bool true) ∧ Below w.heap.size w w' := by
  have HML := Lib.hid hm
  clear hm
  go_enter Tryd.func4, Tryd.ntmps4
  go_wp2_with fail
  refine (note_any 1).mono ?_
  rintro e w1 ⟨rfl, hb1⟩
  have B1 := Lib.hid hb1
  clear hb1
  unfold Sto.recV
  go_wp2_with fail
  refine (note_any 2).mono ?_
  rintro e w2 ⟨rfl, hb2⟩
  have B2 := Lib.hid (B1.out.trans (hb2.mono B1.out.size))
  clear hb2 B1
  unfold Sto.recV
  go_wp2_with fail
  refine (note_any 3).mono ?_
  rintro e w3 ⟨rfl, hb3⟩
  have B3 := Lib.hid (B2.out.trans (hb3.mono B2.out.size))
  clear hb3 B2
  unfold Sto.recV
  go_wp2_with fail
  refine (filled_any (W := w) (w := w3.alloc (.cells (recsV [noteR 1, noteR 2, noteR 3]).toArray 42)) (B3.out.alloc B3.out.size _) HML.out (recs_new w3 [noteR 1, noteR 2, noteR 3]) (by decide) (fun r hr => by
    simp only [List.mem_cons, List.not_mem_nil, or_false] at hr
    rcases hr with rfl | rfl | rfl
    · exact fits_note 1
    · exact fits_note 2
    · exact fits_note 3)).mono ?_
  rintro e w4 ⟨D, F, rfl, hS, hF, hb4⟩
  rw [runR] at hS
  have B4 := Lib.hid ((B3.out.alloc B3.out.size _).trans (hb4.mono (by have := B3.out.size; simp; omega)))
  obtain ⟨I, hR⟩ := hS.right
  have HR := Lib.hid hR
  have hbF := hS.bF
  have HNEW := Lib.hid (new_c (t := tR) (vb := .slice none 0 0) hS HML.out ⟨none, 0, rfl, Nat.le_refl _, fun h => absurd rfl h⟩ (by decide) (by decide))
  have HS := Lib.hid hS; have HBF := Lib.hid hbF
  clear hS hF hb4 hR hbF B3
  rw [factsR.1] at HNEW
  unfold takerV tR at HNEW
  simp only at HNEW
  go_wp2_with fail
  refine HNEW.out.mono ?_
  intro e w5 hp5
  rcases hp5 with ⟨h0, _⟩ | ⟨_, K, vb, rfl, hc5, hK5, hvb5, hb5⟩
  · exact absurd rfl h0
  replace hc5 : CAt tc tp w K tR vb (.slice none 0 0) (newP tR LR 3) w5 := hc5
  rw [factsR.2.1] at hc5
  have hP5 : PairAt w F D (16 * 3) LR 3 K tR vb (.slice none 0 0) (cR 0) w5 := ⟨HS.out.next hb5, hc5, fun hk => by have := HBF.out K hk; omega, fun k hk => by simp [own, Value.ownBlock] at hk, fun k hk hF => by have := HBF.out k hF; have := hvb5 k hk; omega⟩
  have X0 := Lib.hid hP5
  have B5 := Lib.hid (B4.out.trans (hb5.mono B4.out.size))
  have O0 := Lib.hid (show Ok 0 (cR 0) from (factsR.2.1 ▸ new_ok factsR.1 HR.out))
  clear hc5 hK5 hvb5 hb5 hP5 HNEW HS HBF B4
  have N0 := Lib.hid (next_c X0.out O0.out (by omega) HML.out factsR.1 0)
  rw [show nextP tR LR 0 (cR 0) = aR 0 from rfl] at N0
  have O1 := Lib.hid (show Ok 1 (cR 1) from next_ok (t := tR) (L := LR) (now := 0) factsR.1 HR.out O0.out)
  obtain ⟨d0, hd0⟩ : ∃ d, (aR 0).2.1 = d := ⟨_, rfl⟩
  obtain ⟨s0, hs0⟩ : ∃ s : ByteArray, (⟨d0.subj.toArray⟩ : ByteArray) = s := ⟨_, rfl⟩
  obtain ⟨z0, hz0⟩ : ∃ s : ByteArray, (⟨d0.data.toArray⟩ : ByteArray) = s := ⟨_, rfl⟩
  have V0 := Lib.hid (show delV d0 = .agg #[.int .i64 d0.seq, .string s0, .string z0, .int .i64 d0.count, .int .i64 d0.nth, .int .i64 d0.left] by unfold delV; rw [hs0, hz0])
  unfold NextPost at N0
  rw [hd0, V0.out, factsR.2.2.1] at N0
  have D0 := Lib.hid hd0
  clear hd0 hs0 hz0
  go_wp2_with fail
  refine N0.out.mono ?_
  rintro e y0 ⟨rfl, hn0⟩
  obtain ⟨v1, hx0, ho0⟩ := X0.out.turn hn0
  have hbe0 : Below w.heap.size w y0 := hx0.below
  obtain ⟨x1, hx0e⟩ : ∃ x, x = y0.alloc (.cells #[.int .i64 d0.seq, .string s0, .string z0, .int .i64 d0.count, .int .i64 d0.nth, .int .i64 d0.left] 49) := ⟨_, rfl⟩
  have hbx0 : Below y0.heap.size y0 x1 := by rw [hx0e]; exact (Below.refl _ _).alloc (Nat.le_refl _) _
  have he0 : x1.heap[y0.heap.size]? = some (.cells #[.int .i64 d0.seq, .string s0, .string z0, .int .i64 d0.count, .int .i64 d0.nth, .int .i64 d0.left] 49 (0, 0)) := by rw [hx0e]; exact heap_alloc_new y0 _
  obtain ⟨b0, hb0e⟩ : ∃ b, y0.heap.size = b := ⟨_, rfl⟩
  rw [hb0e] at he0
  have X1 := Lib.hid (show PairAt w F D (16 * 3) LR 3 K tR vb v1 (cR 1) x1 from hx0.next hbx0)
  have E0_0 := Lib.hid he0; have BE0 := Lib.hid hb0e
  have NK0_0 := Lib.hid (show b0 ≠ K ∧ ¬ own v1 b0 from ⟨fun e => by have := heap_lt hx0.con.cell; omega, fun e => by have := hx0.con.row.lt b0 e; omega⟩)
  clear hn0 hx0 hbe0 hbx0 he0 hb0e N0 X0 O0 ho0
  go_upto_region 6 with fail
  rw [← hx0e, BE0.out]
  clear hx0e
  have N1 := Lib.hid (next_c X1.out O1.out (by omega) HML.out factsR.1 1)
  rw [show nextP tR LR 1 (cR 1) = aR 1 from rfl] at N1
  have O2 := Lib.hid (show Ok 2 (cR 2) from next_ok (t := tR) (L := LR) (now := 1) factsR.1 HR.out O1.out)
  obtain ⟨d1, hd1⟩ : ∃ d, (aR 1).2.1 = d := ⟨_, rfl⟩
  obtain ⟨s1, hs1⟩ : ∃ s : ByteArray, (⟨d1.subj.toArray⟩ : ByteArray) = s := ⟨_, rfl⟩
  obtain ⟨z1, hz1⟩ : ∃ s : ByteArray, (⟨d1.data.toArray⟩ : ByteArray) = s := ⟨_, rfl⟩
  have V1 := Lib.hid (show delV d1 = .agg #[.int .i64 d1.seq, .string s1, .string z1, .int .i64 d1.count, .int .i64 d1.nth, .int .i64 d1.left] by unfold delV; rw [hs1, hz1])
  unfold NextPost at N1
  rw [hd1, V1.out, factsR.2.2.2.1] at N1
  have D1 := Lib.hid hd1
  clear hd1 hs1 hz1
  go_wp2_with fail
  refine N1.out.mono ?_
  rintro e y1 ⟨rfl, hn1⟩
  obtain ⟨v2, hx1, ho1⟩ := X1.out.turn hn1
  have hbe1 : Below w.heap.size w y1 := hx1.below
  obtain ⟨x2, hx1e⟩ : ∃ x, x = y1.alloc (.cells #[.int .i64 d1.seq, .string s1, .string z1, .int .i64 d1.count, .int .i64 d1.nth, .int .i64 d1.left] 49) := ⟨_, rfl⟩
  have hbx1 : Below y1.heap.size y1 x2 := by rw [hx1e]; exact (Below.refl _ _).alloc (Nat.le_refl _) _
  have he1 : x2.heap[y1.heap.size]? = some (.cells #[.int .i64 d1.seq, .string s1, .string z1, .int .i64 d1.count, .int .i64 d1.nth, .int .i64 d1.left] 49 (0, 0)) := by rw [hx1e]; exact heap_alloc_new y1 _
  obtain ⟨b1, hb1e⟩ : ∃ b, y1.heap.size = b := ⟨_, rfl⟩
  rw [hb1e] at he1
  have X2 := Lib.hid (show PairAt w F D (16 * 3) LR 3 K tR vb v2 (cR 2) x2 from hx1.next hbx1)
  have hk1_0 : y1.heap[b0]? = _ := (hn1.elim fun _ h => h.2.1.block b0 (heap_lt E0_0.out) (fun e => by
    rcases e with e | e
    · exact NK0_0.out.1 e
    · exact NK0_0.out.2 e)).trans E0_0.out
  have E1_0 := Lib.hid ((hbx1.block b0 (heap_lt hk1_0)).trans hk1_0)
  have NK1_0 := Lib.hid (show b0 ≠ K ∧ ¬ own v2 b0 from ⟨NK0_0.out.1, fun e => by
    rcases ho1 b0 e with e | e
    · exact NK0_0.out.2 e
    · have := heap_lt E0_0.out; omega⟩)
  have E1_1 := Lib.hid he1; have BE1 := Lib.hid hb1e
  have NK1_1 := Lib.hid (show b1 ≠ K ∧ ¬ own v2 b1 from ⟨fun e => by have := heap_lt hx1.con.cell; omega, fun e => by have := hx1.con.row.lt b1 e; omega⟩)
  clear hn1 hx1 hbe1 hbx1 he1 hb1e N1 X1 O1 ho1 hk1_0 E0_0 NK0_0
  go_upto_region 7 with fail
  rw [← hx1e, BE1.out]
  clear hx1e
  have N2 := Lib.hid (next_c X2.out O2.out (by omega) HML.out factsR.1 2)
  rw [show nextP tR LR 2 (cR 2) = aR 2 from rfl] at N2
  have O3 := Lib.hid (show Ok 3 (cR 3) from next_ok (t := tR) (L := LR) (now := 2) factsR.1 HR.out O2.out)
  obtain ⟨d2, hd2⟩ : ∃ d, (aR 2).2.1 = d := ⟨_, rfl⟩
  obtain ⟨s2, hs2⟩ : ∃ s : ByteArray, (⟨d2.subj.toArray⟩ : ByteArray) = s := ⟨_, rfl⟩
  obtain ⟨z2, hz2⟩ : ∃ s : ByteArray, (⟨d2.data.toArray⟩ : ByteArray) = s := ⟨_, rfl⟩
  have V2 := Lib.hid (show delV d2 = .agg #[.int .i64 d2.seq, .string s2, .string z2, .int .i64 d2.count, .int .i64 d2.nth, .int .i64 d2.left] by unfold delV; rw [hs2, hz2])
  unfold NextPost at N2
  rw [hd2, V2.out, factsR.2.2.2.2.1] at N2
  have D2 := Lib.hid hd2
  clear hd2 hs2 hz2
  go_wp2_with fail
  refine N2.out.mono ?_
  rintro e y2 ⟨rfl, hn2⟩
  obtain ⟨v3, hx2, ho2⟩ := X2.out.turn hn2
  have hbe2 : Below w.heap.size w y2 := hx2.below
  obtain ⟨x3, hx2e⟩ : ∃ x, x = y2.alloc (.cells #[.int .i64 d2.seq, .string s2, .string z2, .int .i64 d2.count, .int .i64 d2.nth, .int .i64 d2.left] 49) := ⟨_, rfl⟩
  have hbx2 : Below y2.heap.size y2 x3 := by rw [hx2e]; exact (Below.refl _ _).alloc (Nat.le_refl _) _
  have he2 : x3.heap[y2.heap.size]? = some (.cells #[.int .i64 d2.seq, .string s2, .string z2, .int .i64 d2.count, .int .i64 d2.nth, .int .i64 d2.left] 49 (0, 0)) := by rw [hx2e]; exact heap_alloc_new y2 _
  obtain ⟨b2, hb2e⟩ : ∃ b, y2.heap.size = b := ⟨_, rfl⟩
  rw [hb2e] at he2
  have X3 := Lib.hid (show PairAt w F D (16 * 3) LR 3 K tR vb v3 (cR 3) x3 from hx2.next hbx2)
  have hk2_0 : y2.heap[b0]? = _ := (hn2.elim fun _ h => h.2.1.block b0 (heap_lt E1_0.out) (fun e => by
    rcases e with e | e
    · exact NK1_0.out.1 e
    · exact NK1_0.out.2 e)).trans E1_0.out
  have E2_0 := Lib.hid ((hbx2.block b0 (heap_lt hk2_0)).trans hk2_0)
  have NK2_0 := Lib.hid (show b0 ≠ K ∧ ¬ own v3 b0 from ⟨NK1_0.out.1, fun e => by
    rcases ho2 b0 e with e | e
    · exact NK1_0.out.2 e
    · have := heap_lt E1_0.out; omega⟩)
  have hk2_1 : y2.heap[b1]? = _ := (hn2.elim fun _ h => h.2.1.block b1 (heap_lt E1_1.out) (fun e => by
    rcases e with e | e
    · exact NK1_1.out.1 e
    · exact NK1_1.out.2 e)).trans E1_1.out
  have E2_1 := Lib.hid ((hbx2.block b1 (heap_lt hk2_1)).trans hk2_1)
  have NK2_1 := Lib.hid (show b1 ≠ K ∧ ¬ own v3 b1 from ⟨NK1_1.out.1, fun e => by
    rcases ho2 b1 e with e | e
    · exact NK1_1.out.2 e
    · have := heap_lt E1_1.out; omega⟩)
  have E2_2 := Lib.hid he2; have BE2 := Lib.hid hb2e
  have NK2_2 := Lib.hid (show b2 ≠ K ∧ ¬ own v3 b2 from ⟨fun e => by have := heap_lt hx2.con.cell; omega, fun e => by have := hx2.con.row.lt b2 e; omega⟩)
  clear hn2 hx2 hbe2 hbx2 he2 hb2e N2 X2 O2 ho2 hk2_0 E1_0 NK1_0 hk2_1 E1_1 NK1_1
  go_upto_region 8 with fail
  rw [← hx2e, BE2.out]
  clear hx2e
  have N3 := Lib.hid (next_c X3.out O3.out (by omega) HML.out factsR.1 5)
  rw [show nextP tR LR 5 (cR 3) = aR 3 from rfl] at N3
  have O4 := Lib.hid (show Ok 4 (cR 4) from next_ok (t := tR) (L := LR) (now := 5) factsR.1 HR.out O3.out)
  obtain ⟨d3, hd3⟩ : ∃ d, (aR 3).2.1 = d := ⟨_, rfl⟩
  obtain ⟨s3, hs3⟩ : ∃ s : ByteArray, (⟨d3.subj.toArray⟩ : ByteArray) = s := ⟨_, rfl⟩
  obtain ⟨z3, hz3⟩ : ∃ s : ByteArray, (⟨d3.data.toArray⟩ : ByteArray) = s := ⟨_, rfl⟩
  have V3 := Lib.hid (show delV d3 = .agg #[.int .i64 d3.seq, .string s3, .string z3, .int .i64 d3.count, .int .i64 d3.nth, .int .i64 d3.left] by unfold delV; rw [hs3, hz3])
  unfold NextPost at N3
  rw [hd3, V3.out, factsR.2.2.2.2.2.1] at N3
  have D3 := Lib.hid hd3
  clear hd3 hs3 hz3
  go_wp2_with fail
  refine N3.out.mono ?_
  rintro e y3 ⟨rfl, hn3⟩
  obtain ⟨v4, hx3, ho3⟩ := X3.out.turn hn3
  have hbe3 : Below w.heap.size w y3 := hx3.below
  obtain ⟨x4, hx3e⟩ : ∃ x, x = y3.alloc (.cells #[.int .i64 d3.seq, .string s3, .string z3, .int .i64 d3.count, .int .i64 d3.nth, .int .i64 d3.left] 49) := ⟨_, rfl⟩
  have hbx3 : Below y3.heap.size y3 x4 := by rw [hx3e]; exact (Below.refl _ _).alloc (Nat.le_refl _) _
  have he3 : x4.heap[y3.heap.size]? = some (.cells #[.int .i64 d3.seq, .string s3, .string z3, .int .i64 d3.count, .int .i64 d3.nth, .int .i64 d3.left] 49 (0, 0)) := by rw [hx3e]; exact heap_alloc_new y3 _
  obtain ⟨b3, hb3e⟩ : ∃ b, y3.heap.size = b := ⟨_, rfl⟩
  rw [hb3e] at he3
  have X4 := Lib.hid (show PairAt w F D (16 * 3) LR 3 K tR vb v4 (cR 4) x4 from hx3.next hbx3)
  have hk3_0 : y3.heap[b0]? = _ := (hn3.elim fun _ h => h.2.1.block b0 (heap_lt E2_0.out) (fun e => by
    rcases e with e | e
    · exact NK2_0.out.1 e
    · exact NK2_0.out.2 e)).trans E2_0.out
  have E3_0 := Lib.hid ((hbx3.block b0 (heap_lt hk3_0)).trans hk3_0)
  have NK3_0 := Lib.hid (show b0 ≠ K ∧ ¬ own v4 b0 from ⟨NK2_0.out.1, fun e => by
    rcases ho3 b0 e with e | e
    · exact NK2_0.out.2 e
    · have := heap_lt E2_0.out; omega⟩)
  have hk3_1 : y3.heap[b1]? = _ := (hn3.elim fun _ h => h.2.1.block b1 (heap_lt E2_1.out) (fun e => by
    rcases e with e | e
    · exact NK2_1.out.1 e
    · exact NK2_1.out.2 e)).trans E2_1.out
  have E3_1 := Lib.hid ((hbx3.block b1 (heap_lt hk3_1)).trans hk3_1)
  have NK3_1 := Lib.hid (show b1 ≠ K ∧ ¬ own v4 b1 from ⟨NK2_1.out.1, fun e => by
    rcases ho3 b1 e with e | e
    · exact NK2_1.out.2 e
    · have := heap_lt E2_1.out; omega⟩)
  have hk3_2 : y3.heap[b2]? = _ := (hn3.elim fun _ h => h.2.1.block b2 (heap_lt E2_2.out) (fun e => by
    rcases e with e | e
    · exact NK2_2.out.1 e
    · exact NK2_2.out.2 e)).trans E2_2.out
  have E3_2 := Lib.hid ((hbx3.block b2 (heap_lt hk3_2)).trans hk3_2)
  have NK3_2 := Lib.hid (show b2 ≠ K ∧ ¬ own v4 b2 from ⟨NK2_2.out.1, fun e => by
    rcases ho3 b2 e with e | e
    · exact NK2_2.out.2 e
    · have := heap_lt E2_2.out; omega⟩)
  have E3_3 := Lib.hid he3; have BE3 := Lib.hid hb3e
  have NK3_3 := Lib.hid (show b3 ≠ K ∧ ¬ own v4 b3 from ⟨fun e => by have := heap_lt hx3.con.cell; omega, fun e => by have := hx3.con.row.lt b3 e; omega⟩)
  clear hn3 hx3 hbe3 hbx3 he3 hb3e N3 X3 O3 ho3 hk3_0 E2_0 NK2_0 hk3_1 E2_1 NK2_1 hk3_2 E2_2 NK2_2
  go_upto_region 9 with fail
  rw [← hx3e, BE3.out]
  clear hx3e
  obtain ⟨m0, _, _, _, _, _⟩ := sixC E3_0.out
  obtain ⟨n0, _, _, _, _, n5⟩ := sixC E3_1.out
  obtain ⟨p0, _, _, _, p4, _⟩ := sixC E3_3.out
  rw [show d0.seq = 1 by rw [← D0.out]; exact factsR.2.2.2.2.2.2.1] at m0
  rw [show d1.seq = 2 by rw [← D1.out]; exact factsR.2.2.2.2.2.2.2.1] at n0
  rw [show d1.left = 1 by rw [← D1.out]; exact factsR.2.2.2.2.2.2.2.2.1] at n5
  rw [show d3.seq = 1 by rw [← D3.out]; exact factsR.2.2.2.2.2.2.2.2.2.1] at p0
  rw [show d3.nth = 2 by rw [← D3.out]; exact factsR.2.2.2.2.2.2.2.2.2.2] at p4
  have HFI := Lib.hid X4.out.below
  go_wp2_with fail
  go_ret
  exact ⟨by simp, HFI.out⟩
end
end Go.Proofs.YtapmhpnkpjgefaaDoor.Con
