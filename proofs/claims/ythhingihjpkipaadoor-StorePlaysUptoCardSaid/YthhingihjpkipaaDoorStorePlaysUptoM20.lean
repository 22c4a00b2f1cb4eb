/- Parts of the proof, joined: sameStore, walked.; The law StorePlays, walked: it returns true.; The frame of a law's row, whatever its parameters: a call that returns true and turns nothing below the heap's old size meets the row's post; and what a reading of an argument tells of the argument's cells. Over any program.; What the cards of this seat share: a world whose tables are laid; the bound of a text; the length's cell. -/
import Derived.Test.YthhingihjpkipaaDoorStorePlaysUptoM19
import Derived.Test.YthhingihjpkipaaDoorRows
import Derived.Carry
import Derived.WideKeyArgs
import Derived.SizedLaws
import Derived.OpenShut
import Derived.Test.YthhingihjpkipaaDoorTie
import Derived.Test.YthhingihjpkipaaDoorCards
import Derived.Deep.DeepHandedRow
import Derived.Lib.LaidTab
namespace Go.Proofs.YthhingihjpkipaaDoor.Sto
open Go.RowKit Heap
open Subj (Tok ML pieces takes)
open Rec (Rc recErr far)
open Idx (Ents ptrV findL FindPost entV)
open Shf (SortedE equal_ents)

theorem find_same_on {L : List Rc} {p q : Rc → Bool} (h : ∀ x ∈ L, p x = q x) : L.find? p = L.find? q := by
  induction L with
  | nil => rfl
  | cons a l ih =>
    rw [List.find?_cons, List.find?_cons, h a (by simp), ih fun x hx => h x (by simp [hx])]

theorem pick_last {L : List Rc} (f : List UInt8) (h : ∀ r ∈ L, 0 ≤ r.seq) : (order true L).find? (pk f 0) = L.reverse.find? (tk f) := by
  show L.reverse.find? _ = _
  refine find_same_on fun x hx => ?_
  unfold pk
  rw [decide_eq_true (h x (List.mem_reverse.1 hx)), Bool.true_and]

theorem pick_next {L : List Rc} {i : Nat} {n q : Int} (f : List UInt8) (h : ∀ r ∈ L, 0 ≤ r.seq) (hq : max n 0 = q) (h1 : ∀ r ∈ L.take i, r.seq < q) (h2 : ∀ r ∈ L.drop i, q ≤ r.seq) : (order false L).find? (pk f n) = (L.drop i).find? (tk f) := by
  show L.find? _ = _
  conv => lhs; rw [← List.take_append_drop i L]
  rw [List.find?_append]
  have e1 : (L.take i).find? (pk f n) = none := by
    rw [List.find?_eq_none]
    intro x hx
    have := h1 x hx
    have := h x (List.mem_of_mem_take hx)
    unfold pk
    rw [decide_eq_false (by omega)]
    simp
  rw [e1, Option.none_or]
  refine find_same_on fun x hx => ?_
  have := h2 x hx
  unfold pk
  rw [decide_eq_true (by omega), Bool.true_and]

section
variable {W w : World} {F : Nat → Prop} {D B C : Nat} {v : Value} {L : List Rc} {last : Int}

theorem find_row2 {er : Nat} {L : Ents} {w w' : World} {e : Ending} (h : FindPost er L w e w') : ∃ v, e = .returned (.tuple #[v, .int .i64 er]) ∧ Below w.heap.size w w' ∧ ∃ R : Ents, R = (if er = 0 then L else []) ∧ Row w' 108 2 v R.length (Idx.entV R) := by
  obtain ⟨hb, ⟨h1, rfl⟩ | ⟨rfl, v, rfl, h2, _⟩⟩ := h
  · exact ⟨_, rfl, hb, [], by rw [if_neg h1], Row.nil _ _ _⟩
  · exact ⟨v, rfl, hb, L, by rw [if_pos rfl], h2⟩

/-- A call tells a record and an error. -/
def Tells (g : Nat) (args : Array Value) (w : World) (kd sq tm : Int) (s h d : ByteArray) (er : Nat) : Prop := ∀ w', Below w.heap.size w w' → Calls Tryd.prog g args w' fun e w'' => e = .returned (.tuple #[.agg #[.int .i64 kd, .int .i64 sq, .int .i64 tm, .string s, .string h, .string d], .int .i64 er]) ∧ Below w'.heap.size w' w''

theorem tells_of {g : Nat} {args : Array Value} {R : Rc × Nat} (H : ∀ w', Below w.heap.size w w' → Calls Tryd.prog g args w' fun e w'' => e = .returned (.tuple #[recV R.1, .int .i64 (R.2 : Nat)]) ∧ Below w'.heap.size w' w'') {s h d : ByteArray} (hp : Parts R.1 s h d) :
    Tells g args w R.1.kind R.1.seq R.1.time s h d R.2 := fun w' hb => by
  have := H w' hb
  unfold recV at this
  rw [hp.s1, hp.h1, hp.d1] at this
  exact this

/-- The three questions, each at both. -/
theorem asks (h : BothAt W F D B C v L last L last w) (hm : ML W) (f : ByteArray) (hf : f.size ≤ 1048576) (n : Int) (hn : -9223372036854775808 ≤ n ∧ n ≤ 9223372036854775807) :
    ∃ (R1 R2 R3 : Rc × Nat), ∀ {s1 h1 d1 s2 h2 d2 s3 h3 d3 : ByteArray}, Parts R1.1 s1 h1 d1 → Parts R2.1 s2 h2 d2 → Parts R3.1 s3 h3 d3 →
      Tells 47 #[.pointer (some ⟨D, 0, none⟩), .int .i64 n] w R1.1.kind R1.1.seq R1.1.time s1 h1 d1 R1.2 ∧ Tells 48 #[.pointer (some ⟨C, 0, none⟩), .int .i64 n] w R1.1.kind R1.1.seq R1.1.time s1 h1 d1 R1.2 ∧
      Tells 49 #[.pointer (some ⟨D, 0, none⟩), .string f] w R2.1.kind R2.1.seq R2.1.time s2 h2 d2 R2.2 ∧ Tells 50 #[.pointer (some ⟨C, 0, none⟩), .string f, .int .i64 0, .bool true] w R2.1.kind R2.1.seq R2.1.time s2 h2 d2 R2.2 ∧
      Tells 51 #[.pointer (some ⟨D, 0, none⟩), .string f, .int .i64 n] w R3.1.kind R3.1.seq R3.1.time s3 h3 d3 R3.2 ∧ Tells 50 #[.pointer (some ⟨C, 0, none⟩), .string f, .int .i64 n, .bool false] w R3.1.kind R3.1.seq R3.1.time s3 h3 d3 R3.2 := by
  obtain ⟨I, hR⟩ := h.st.right
  have hs : ∀ r ∈ L, 0 ≤ r.seq := fun r hr => (hR.seqs r hr).1
  refine ⟨seekR 0 (getQ L n), seekR (Subj.err true f.data.toList) (L.reverse.find? (tk f.data.toList)), seekR (Subj.err true f.data.toList) ((order false L).find? (pk f.data.toList n)), fun p1 p2 p3 => ⟨tells_of (fun w' hb => get_any (h.next hb).st n hn) p1, tells_of (fun w' hb => get_ch (h.next hb).ch hR n) p1, tells_of (fun w' hb => last_any (h.next hb).st hm f hf) p2, ?_, ?_, tells_of (fun w' hb => seek_ch (h.next hb).ch hR f hf n false) p3⟩⟩
  · refine tells_of (fun w' hb => ?_) p2
    have := seek_ch (h.next hb).ch hR f hf 0 true
    rw [pick_last f.data.toList hs] at this
    exact this
  · refine tells_of (fun w' hb => ?_) p3
    refine (next_from (h.next hb).st hm f hf n (max n 0) rfl (by omega)).mono ?_
    rintro e w'' ⟨i, h1, h2, rfl, hb2⟩
    refine ⟨?_, hb2⟩
    rw [pick_next f.data.toList hs rfl h1 h2]


set_option maxHeartbeats 8000000 in
set_option maxRecDepth 100000 in
theorem same_walk (h : BothAt W F D B C v L last L last w) (hB : B ≤ 80000) (hm : ML W) (hds : dist L ≤ 100) (f : ByteArray) (hf : f.size ≤ 1048576) (n : Int) (hn : -9223372036854775808 ≤ n ∧ n ≤ 9223372036854775807) :
    Calls Tryd.prog 12 #[.pointer (some ⟨D, 0, none⟩), .pointer (some ⟨C, 0, none⟩), .string f, .int .i64 n] w fun e w' => e = .returned (.bool true) ∧ Below w.heap.size w w' := by
  obtain ⟨I, hR⟩ := h.st.right
  obtain ⟨R1, R2, R3, hask⟩ := asks h hm f hf n hn
  obtain ⟨s1, h1, d1, p1⟩ := parts R1.1
  obtain ⟨s2, h2, d2, p2⟩ := parts R2.1
  obtain ⟨s3, h3, d3, p3⟩ := parts R3.1
  obtain ⟨a1, a2, a3, a4, a5, a6⟩ := hask p1 p2 p3
  clear hask p1 p2 p3
  generalize R1.1.kind = kd1 at *
  generalize R1.1.seq = sq1 at *
  generalize R1.1.time = tm1 at *
  generalize R1.2 = e1 at *
  clear R1
  generalize R2.1.kind = kd2 at *
  generalize R2.1.seq = sq2 at *
  generalize R2.1.time = tm2 at *
  generalize R2.2 = e2 at *
  clear R2
  generalize R3.1.kind = kd3 at *
  generalize R3.1.seq = sq3 at *
  generalize R3.1.time = tm3 at *
  generalize R3.2 = e3 at *
  clear R3
  obtain ⟨m, hmL⟩ : ∃ m, L.length = m := ⟨_, rfl⟩
  have hm200 : m ≤ 200 := by rw [← hmL]; exact hR.few
  have hsu := fun w' (hb : Below w.heap.size w w') => sums_any (h.next hb).st
  have hsc := fun w' (hb : Below w.heap.size w w') => sums_ch (h.next hb).ch hR
  unfold sumsV at hsu hsc
  rw [hmL] at hsu hsc
  obtain ⟨bt, hbt⟩ : ∃ bt, bytesR L = bt := ⟨_, rfl⟩
  obtain ⟨fz, hfz⟩ : ∃ fz, (L.head?.map (·.seq)).getD 0 = fz := ⟨_, rfl⟩
  rw [hbt, hfz] at hsu hsc
  have hal := fun w' (hb : Below w.heap.size w w') => all_any (h.next hb).st
  obtain ⟨va, vc, hv⟩ := h.ch.row.slice
  rw [hmL] at hv
  subst hv
  have heq := fun (w' : World) (hb : Below w.heap.size w w') (v' : Value) (hr : Row w' 29 6 v' L.length (recsV L)) => equal_recs (row_recs hr) (row_recs (h.next hb).ch.row) (by rw [hmL]; omega)
  have hcc := fun (w' : World) (hb : Below w.heap.size w w') => (twoC (h.next hb).ch.cell).1
  have hsj := fun (w' : World) (hb : Below w.heap.size w w') => subjects_any (h.next hb).st hB hm f hf
  have hsb := fun (w' : World) (hb : Below w.heap.size w w') => subs_ch (h.next hb).ch hR hds f hf
  have hclt := heap_lt h.ch.cell
  have HSU := Lib.hid hsu; have HSC := Lib.hid hsc; have HAL := Lib.hid hal; have HEQ := Lib.hid heq; have HCC := Lib.hid hcc; have HSJ := Lib.hid hsj; have HSB := Lib.hid hsb; have HR := Lib.hid hR
  have A1 := Lib.hid a1; have A2 := Lib.hid a2; have A3 := Lib.hid a3; have A4 := Lib.hid a4; have A5 := Lib.hid a5; have A6 := Lib.hid a6
  have HM := Lib.hid hmL
  have hb0 : Below w.heap.size w w := Below.refl _ _
  have c0 := hcc w hb0
  clear h hR a1 a2 a3 a4 a5 a6 hsu hsc hal heq hcc hsj hsb hmL hbt hfz hds hm
  go_enter Tryd.func12, Tryd.ntmps12
  go_wp2_with fail
  have hb1 : Below w.heap.size w w.drew := hb0.drew
  go_region_held3 (fun w' => w'.cell? ⟨C, 0, none⟩ = some (.slice va m vc)) (first | (with_reducible exact c0) | (with_reducible assumption) | go_keep)
    (first
      | (go_at_call 45; ((refine (HSU.out _ (by assumption)).mono ?_); rintro e w1 ⟨rfl, h2⟩; have hbw : Below w.heap.size w w1 := Below.trans (by assumption) (h2.mono (Below.size (by assumption))); have c1 := HCC.out _ hbw; clear h2))
      | (go_at_call 46; ((refine (HSC.out _ (by assumption)).mono ?_); rintro e w2 ⟨rfl, h2⟩; have hbw2 : Below w.heap.size w w2 := Below.trans (by assumption) (h2.mono (Below.size (by assumption))); have c2 := HCC.out _ hbw2; clear h2))
      | (go_at_call 21; ((refine (HAL.out _ (by assumption)).mono ?_); rintro e w3 ⟨v3, rfl, r3, h3, o3⟩; have hbw3 : Below w.heap.size w w3 := Below.trans (by assumption) (h3.mono (Below.size (by assumption))); have c3 := HCC.out _ hbw3; have RR3 := Lib.hid r3; clear h3 o3 r3))
      | (go_at_call 33; ((refine (HEQ.out _ (by assumption) _ RR3.out).mono ?_); rintro e w4 ⟨rfl, q4, rfl⟩; have hbw4 : Below w.heap.size w _ := below_drewN (by assumption) q4; have c4 := HCC.out _ hbw4)))
  obtain ⟨x0, hx0⟩ : ∃ x0, x0 = w3.drewN q4 := ⟨_, rfl⟩
  rw [← hx0] at hbw4 ⊢
  have X0 := Lib.hid hbw4
  clear hx0 hbw hbw2 hbw3 hbw4 hb0 hb1 c0 c1 c2 c3 c4 HSU HSC HAL HEQ RR3
  go_wp2_with fail
  refine (A1.out _ X0.out).mono ?_
  rintro e y1 ⟨rfl, g1⟩
  have Y1 := Lib.hid (X0.out.trans (g1.mono X0.out.size))
  obtain ⟨x1, hx1⟩ : ∃ x1, x1 = y1.alloc (.cells #[.int .i64 kd1, .int .i64 sq1, .int .i64 tm1, .string s1, .string h1, .string d1] 29) := ⟨_, rfl⟩
  have hbx1 : Below y1.heap.size y1 x1 := by rw [hx1]; exact (Below.refl _ _).alloc (Nat.le_refl _) _
  have he1 : x1.heap[y1.heap.size]? = some (.cells #[.int .i64 kd1, .int .i64 sq1, .int .i64 tm1, .string s1, .string h1, .string d1] 29 (0, 0)) := by rw [hx1]; exact heap_alloc_new y1 _
  obtain ⟨b1, hbe1⟩ : ∃ b1, y1.heap.size = b1 := ⟨_, rfl⟩
  rw [hbe1] at he1
  have X1 := Lib.hid (Y1.out.trans (hbx1.mono Y1.out.size)); have F1_1 := Lib.hid he1; have BE1 := Lib.hid hbe1
  clear g1 hbx1 he1 hbe1 A1 X0 Y1
  go_upto_region 4 with fail
  rw [← hx1, BE1.out]
  clear hx1
  go_wp2_with fail
  refine (A2.out _ X1.out).mono ?_
  rintro e y2 ⟨rfl, g2⟩
  have Y2 := Lib.hid (X1.out.trans (g2.mono X1.out.size))
  have G2_1 := Lib.hid ((g2.block b1 (heap_lt F1_1.out)).trans F1_1.out)
  obtain ⟨x2, hx2⟩ : ∃ x2, x2 = y2.alloc (.cells #[.int .i64 kd1, .int .i64 sq1, .int .i64 tm1, .string s1, .string h1, .string d1] 29) := ⟨_, rfl⟩
  have hbx2 : Below y2.heap.size y2 x2 := by rw [hx2]; exact (Below.refl _ _).alloc (Nat.le_refl _) _
  have he2 : x2.heap[y2.heap.size]? = some (.cells #[.int .i64 kd1, .int .i64 sq1, .int .i64 tm1, .string s1, .string h1, .string d1] 29 (0, 0)) := by rw [hx2]; exact heap_alloc_new y2 _
  obtain ⟨b2, hbe2⟩ : ∃ b2, y2.heap.size = b2 := ⟨_, rfl⟩
  rw [hbe2] at he2
  have X2 := Lib.hid (Y2.out.trans (hbx2.mono Y2.out.size)); have F2_2 := Lib.hid he2; have BE2 := Lib.hid hbe2
  have F2_1 := Lib.hid ((hbx2.block b1 (heap_lt G2_1.out)).trans G2_1.out)
  clear g2 hbx2 he2 hbe2 A2 X1 Y2 G2_1 F1_1
  go_upto_region 5 with fail
  rw [← hx2, BE2.out]
  clear hx2
  go_wp2_with fail
  refine (A3.out _ X2.out).mono ?_
  rintro e y3 ⟨rfl, g3⟩
  have Y3 := Lib.hid (X2.out.trans (g3.mono X2.out.size))
  have G3_1 := Lib.hid ((g3.block b1 (heap_lt F2_1.out)).trans F2_1.out)
  have G3_2 := Lib.hid ((g3.block b2 (heap_lt F2_2.out)).trans F2_2.out)
  obtain ⟨x3, hx3⟩ : ∃ x3, x3 = y3.alloc (.cells #[.int .i64 kd2, .int .i64 sq2, .int .i64 tm2, .string s2, .string h2, .string d2] 29) := ⟨_, rfl⟩
  have hbx3 : Below y3.heap.size y3 x3 := by rw [hx3]; exact (Below.refl _ _).alloc (Nat.le_refl _) _
  have he3 : x3.heap[y3.heap.size]? = some (.cells #[.int .i64 kd2, .int .i64 sq2, .int .i64 tm2, .string s2, .string h2, .string d2] 29 (0, 0)) := by rw [hx3]; exact heap_alloc_new y3 _
  obtain ⟨b3, hbe3⟩ : ∃ b3, y3.heap.size = b3 := ⟨_, rfl⟩
  rw [hbe3] at he3
  have X3 := Lib.hid (Y3.out.trans (hbx3.mono Y3.out.size)); have F3_3 := Lib.hid he3; have BE3 := Lib.hid hbe3
  have F3_1 := Lib.hid ((hbx3.block b1 (heap_lt G3_1.out)).trans G3_1.out)
  have F3_2 := Lib.hid ((hbx3.block b2 (heap_lt G3_2.out)).trans G3_2.out)
  clear g3 hbx3 he3 hbe3 A3 X2 Y3 G3_1 F2_1 G3_2 F2_2
  go_upto_region 6 with fail
  rw [← hx3, BE3.out]
  clear hx3
  go_wp2_with fail
  refine (A4.out _ X3.out).mono ?_
  rintro e y4 ⟨rfl, g4⟩
  have Y4 := Lib.hid (X3.out.trans (g4.mono X3.out.size))
  have G4_1 := Lib.hid ((g4.block b1 (heap_lt F3_1.out)).trans F3_1.out)
  have G4_2 := Lib.hid ((g4.block b2 (heap_lt F3_2.out)).trans F3_2.out)
  have G4_3 := Lib.hid ((g4.block b3 (heap_lt F3_3.out)).trans F3_3.out)
  obtain ⟨x4, hx4⟩ : ∃ x4, x4 = y4.alloc (.cells #[.int .i64 kd2, .int .i64 sq2, .int .i64 tm2, .string s2, .string h2, .string d2] 29) := ⟨_, rfl⟩
  have hbx4 : Below y4.heap.size y4 x4 := by rw [hx4]; exact (Below.refl _ _).alloc (Nat.le_refl _) _
  have he4 : x4.heap[y4.heap.size]? = some (.cells #[.int .i64 kd2, .int .i64 sq2, .int .i64 tm2, .string s2, .string h2, .string d2] 29 (0, 0)) := by rw [hx4]; exact heap_alloc_new y4 _
  obtain ⟨b4, hbe4⟩ : ∃ b4, y4.heap.size = b4 := ⟨_, rfl⟩
  rw [hbe4] at he4
  have X4 := Lib.hid (Y4.out.trans (hbx4.mono Y4.out.size)); have F4_4 := Lib.hid he4; have BE4 := Lib.hid hbe4
  have F4_1 := Lib.hid ((hbx4.block b1 (heap_lt G4_1.out)).trans G4_1.out)
  have F4_2 := Lib.hid ((hbx4.block b2 (heap_lt G4_2.out)).trans G4_2.out)
  have F4_3 := Lib.hid ((hbx4.block b3 (heap_lt G4_3.out)).trans G4_3.out)
  clear g4 hbx4 he4 hbe4 A4 X3 Y4 G4_1 F3_1 G4_2 F3_2 G4_3 F3_3
  go_upto_region 7 with fail
  rw [← hx4, BE4.out]
  clear hx4
  go_wp2_with fail
  refine (A5.out _ X4.out).mono ?_
  rintro e y5 ⟨rfl, g5⟩
  have Y5 := Lib.hid (X4.out.trans (g5.mono X4.out.size))
  have G5_1 := Lib.hid ((g5.block b1 (heap_lt F4_1.out)).trans F4_1.out)
  have G5_2 := Lib.hid ((g5.block b2 (heap_lt F4_2.out)).trans F4_2.out)
  have G5_3 := Lib.hid ((g5.block b3 (heap_lt F4_3.out)).trans F4_3.out)
  have G5_4 := Lib.hid ((g5.block b4 (heap_lt F4_4.out)).trans F4_4.out)
  obtain ⟨x5, hx5⟩ : ∃ x5, x5 = y5.alloc (.cells #[.int .i64 kd3, .int .i64 sq3, .int .i64 tm3, .string s3, .string h3, .string d3] 29) := ⟨_, rfl⟩
  have hbx5 : Below y5.heap.size y5 x5 := by rw [hx5]; exact (Below.refl _ _).alloc (Nat.le_refl _) _
  have he5 : x5.heap[y5.heap.size]? = some (.cells #[.int .i64 kd3, .int .i64 sq3, .int .i64 tm3, .string s3, .string h3, .string d3] 29 (0, 0)) := by rw [hx5]; exact heap_alloc_new y5 _
  obtain ⟨b5, hbe5⟩ : ∃ b5, y5.heap.size = b5 := ⟨_, rfl⟩
  rw [hbe5] at he5
  have X5 := Lib.hid (Y5.out.trans (hbx5.mono Y5.out.size)); have F5_5 := Lib.hid he5; have BE5 := Lib.hid hbe5
  have F5_1 := Lib.hid ((hbx5.block b1 (heap_lt G5_1.out)).trans G5_1.out)
  have F5_2 := Lib.hid ((hbx5.block b2 (heap_lt G5_2.out)).trans G5_2.out)
  have F5_3 := Lib.hid ((hbx5.block b3 (heap_lt G5_3.out)).trans G5_3.out)
  have F5_4 := Lib.hid ((hbx5.block b4 (heap_lt G5_4.out)).trans G5_4.out)
  clear g5 hbx5 he5 hbe5 A5 X4 Y5 G5_1 F4_1 G5_2 F4_2 G5_3 F4_3 G5_4 F4_4
  go_upto_region 8 with fail
  rw [← hx5, BE5.out]
  clear hx5
  go_wp2_with fail
  refine (A6.out _ X5.out).mono ?_
  rintro e y6 ⟨rfl, g6⟩
  have Y6 := Lib.hid (X5.out.trans (g6.mono X5.out.size))
  have G6_1 := Lib.hid ((g6.block b1 (heap_lt F5_1.out)).trans F5_1.out)
  have G6_2 := Lib.hid ((g6.block b2 (heap_lt F5_2.out)).trans F5_2.out)
  have G6_3 := Lib.hid ((g6.block b3 (heap_lt F5_3.out)).trans F5_3.out)
  have G6_4 := Lib.hid ((g6.block b4 (heap_lt F5_4.out)).trans F5_4.out)
  have G6_5 := Lib.hid ((g6.block b5 (heap_lt F5_5.out)).trans F5_5.out)
  obtain ⟨x6, hx6⟩ : ∃ x6, x6 = y6.alloc (.cells #[.int .i64 kd3, .int .i64 sq3, .int .i64 tm3, .string s3, .string h3, .string d3] 29) := ⟨_, rfl⟩
  have hbx6 : Below y6.heap.size y6 x6 := by rw [hx6]; exact (Below.refl _ _).alloc (Nat.le_refl _) _
  have he6 : x6.heap[y6.heap.size]? = some (.cells #[.int .i64 kd3, .int .i64 sq3, .int .i64 tm3, .string s3, .string h3, .string d3] 29 (0, 0)) := by rw [hx6]; exact heap_alloc_new y6 _
  obtain ⟨b6, hbe6⟩ : ∃ b6, y6.heap.size = b6 := ⟨_, rfl⟩
  rw [hbe6] at he6
  have X6 := Lib.hid (Y6.out.trans (hbx6.mono Y6.out.size)); have F6_6 := Lib.hid he6; have BE6 := Lib.hid hbe6
  have F6_1 := Lib.hid ((hbx6.block b1 (heap_lt G6_1.out)).trans G6_1.out)
  have F6_2 := Lib.hid ((hbx6.block b2 (heap_lt G6_2.out)).trans G6_2.out)
  have F6_3 := Lib.hid ((hbx6.block b3 (heap_lt G6_3.out)).trans G6_3.out)
  have F6_4 := Lib.hid ((hbx6.block b4 (heap_lt G6_4.out)).trans G6_4.out)
  have F6_5 := Lib.hid ((hbx6.block b5 (heap_lt G6_5.out)).trans G6_5.out)
  clear g6 hbx6 he6 hbe6 A6 X5 Y6 G6_1 F5_1 G6_2 F5_2 G6_3 F5_3 G6_4 F5_4 G6_5 F5_5
  go_upto_region 9 with fail
  rw [← hx6, BE6.out]
  clear hx6
  obtain ⟨I1, hI1, hj1⟩ := HSJ.out _ X6.out
  have hj1 := hj1
  have HI1 := Lib.hid hI1; have HJ1 := Lib.hid hj1
  clear hI1 hj1
  go_wp2_with fail
  refine HJ1.out.mono ?_
  intro e y7 hp7
  obtain ⟨v7, rfl, g7, RR, hRR, r7⟩ := find_row2 hp7
  have Y7 := Lib.hid (X6.out.trans (g7.mono X6.out.size))
  have HRR := Lib.hid hRR; have R7 := Lib.hid r7
  have G7_1 := Lib.hid ((g7.block b1 (heap_lt F6_1.out)).trans F6_1.out)
  have G7_2 := Lib.hid ((g7.block b2 (heap_lt F6_2.out)).trans F6_2.out)
  have G7_3 := Lib.hid ((g7.block b3 (heap_lt F6_3.out)).trans F6_3.out)
  have G7_4 := Lib.hid ((g7.block b4 (heap_lt F6_4.out)).trans F6_4.out)
  have G7_5 := Lib.hid ((g7.block b5 (heap_lt F6_5.out)).trans F6_5.out)
  have G7_6 := Lib.hid ((g7.block b6 (heap_lt F6_6.out)).trans F6_6.out)
  clear hp7 g7 hRR r7 X6 HJ1 HSJ F6_1 F6_2 F6_3 F6_4 F6_5 F6_6
  go_wp2_with fail
  refine (HSB.out _ Y7.out).mono ?_
  rintro e y8 ⟨J, hs, hc, hp8⟩
  obtain rfl : I1 = J := counts_one HI1.out.sorted hs HI1.out.count hc
  obtain ⟨v8, rfl, g8, RR8, hRR8, r8⟩ := find_row2 hp8
  obtain rfl : RR = RR8 := HRR.out.trans hRR8.symm
  have Y8 := Lib.hid (Y7.out.trans (g8.mono Y7.out.size))
  have hlen : RR.length ≤ 100000 := by
    have h1 : (findL I1 f.data.toList).length ≤ I1.length := by unfold findL; exact List.length_filter_le _ _
    have h2 := counts_dist HI1.out.sorted HI1.out.count
    have h3 := nodup_le_subjs L
    have h4 : dist L = (subjs L).length := rfl
    have h5 := HM.out
    rw [HRR.out]
    split
    · omega
    · simp
  have HEE := Lib.hid (equal_ents (R7.out.kept fun j _ hj => g8.block j hj) r8 hlen)
  have G8_1 := (g8.block b1 (heap_lt G7_1.out)).trans G7_1.out
  obtain ⟨m10, m11, m12, m13, m14, m15⟩ := sixC G8_1
  have ml1 := heap_lt G8_1
  clear G8_1
  have G8_2 := (g8.block b2 (heap_lt G7_2.out)).trans G7_2.out
  obtain ⟨m20, m21, m22, m23, m24, m25⟩ := sixC G8_2
  have ml2 := heap_lt G8_2
  clear G8_2
  have G8_3 := (g8.block b3 (heap_lt G7_3.out)).trans G7_3.out
  obtain ⟨m30, m31, m32, m33, m34, m35⟩ := sixC G8_3
  have ml3 := heap_lt G8_3
  clear G8_3
  have G8_4 := (g8.block b4 (heap_lt G7_4.out)).trans G7_4.out
  obtain ⟨m40, m41, m42, m43, m44, m45⟩ := sixC G8_4
  have ml4 := heap_lt G8_4
  clear G8_4
  have G8_5 := (g8.block b5 (heap_lt G7_5.out)).trans G7_5.out
  obtain ⟨m50, m51, m52, m53, m54, m55⟩ := sixC G8_5
  have ml5 := heap_lt G8_5
  clear G8_5
  have G8_6 := (g8.block b6 (heap_lt G7_6.out)).trans G7_6.out
  obtain ⟨m60, m61, m62, m63, m64, m65⟩ := sixC G8_6
  have ml6 := heap_lt G8_6
  clear G8_6
  clear hp8 g8 hRR8 r8 hs hc Y7 HSB R7 hlen G7_1 G7_2 G7_3 G7_4 G7_5 G7_6
  go_wp2_with fail
  refine HEE.out.mono ?_
  rintro e y9 ⟨rfl, q9, rfl⟩
  have Y9 := Lib.hid (below_drewN Y8.out q9)
  go_wp2_with fail
  go_ret
  exact ⟨by simp, Y9.out⟩
end
end Go.Proofs.YthhingihjpkipaaDoor.Sto

namespace Go.Proofs.YthhingihjpkipaaDoor.Sto
open Go.RowKit Heap
open Subj (Tok ML pieces takes)
open Rec (Rc recErr far)
open Idx (Ents ptrV)

theorem dist_runS (l : List Rc) : dist (runS l).1 ≤ 100 := by
  unfold runS
  suffices h : ∀ (l : List Rc) (s : List Rc × Int), dist s.1 ≤ 100 → dist (l.foldl (fun s r => after s.1 s.2 r) s).1 ≤ 100 from h l ([], 0) (by decide)
  intro l
  induction l with
  | nil => intro s h; exact h
  | cons a l ih => intro s h; exact ih _ (dist_after h)

section
variable {w : World}

theorem try_st {W : World} {F : Nat → Prop} {D B : Nat} {L : List Rc} {last : Int} (hA : StoreAt W F D B L last w) (hB : B ≤ 80000) (hm : ML W) (r : Rc) (hf : Fits r) :
    Calls Tryd.prog 9 #[.pointer (some ⟨D, 0, none⟩), recV r] w fun e w' => e = .returned (.int .i64 (tryD L last r : Nat)) ∧ Below w.heap.size w w' := by
  obtain ⟨M, x, N, I, v, h, hR, hN, _⟩ := hA.ex
  have := try_rec h hR (by omega) hm r hf
  rw [tryS_D hR.sorted hR.count] at this
  exact this

/-- Both, somewhere of one's own. -/
def Two (w : World) (D C B : Nat) (L : List Rc) (last : Int) (wr : World) : Prop := ∃ F v, BothAt w F D B C v L last L last wr

set_option maxHeartbeats 8000000 in
set_option maxRecDepth 100000 in
theorem storePlays_walk (hm : ML w) {v : Value} {l : List Rc} (hl : RecsAt w v l) (hf : ∀ r ∈ l, Fits r) (f : ByteArray) (hfz : f.size ≤ 1048576) (q : Int) (hq : -9223372036854775808 ≤ q ∧ q ≤ 9223372036854775807) :
    Calls Tryd.prog 3 #[v, .string f, .int .i64 q] w fun e w' => e = .returned (.bool true) ∧ Below w.heap.size w w' := by
  obtain ⟨n, hnL⟩ : ∃ n, l.length = n := ⟨_, rfl⟩
  have HN := Lib.hid hnL
  obtain ⟨ao, cap, rfl, ha⟩ := hl
  have HL := Lib.hid (show RecsAt w (.slice ao l.length cap) l from ⟨ao, cap, rfl, ha⟩); have HF := Lib.hid hf; have HML := Lib.hid hm
  rw [hnL] at HL ⊢
  have HNEW := Lib.hid (new_store (W := w) (w := w) (Below.refl _ _))
  obtain ⟨D, hD⟩ : ∃ D, w.heap.size + 1 = D := ⟨_, rfl⟩
  rw [hD] at HNEW
  have HD := Lib.hid hD
  clear ha hf hm hnL hD
  go_enter Tryd.func3, Tryd.ntmps3
  by_cases h250 : 250 < n
  · have h250z : (250 : Int) < n := by omega
    go_wp2_with fail
    go_ret
    exact ⟨rfl, Below.refl _ _⟩
  have h250z : ¬ (250 : Int) < n := by omega
  go_wp2_with fail
  refine HNEW.out.mono ?_
  rintro e w1 ⟨rfl, hs1, hb1⟩
  obtain ⟨w2, hw2⟩ : ∃ w2, w2 = w1.alloc (.cells #[.slice none 0 0, .int .i64 0] 27) := ⟨_, rfl⟩
  have hb2 : Below w1.heap.size w1 w2 := by rw [hw2]; exact (Below.refl _ _).alloc (Nat.le_refl _) _
  have hc2 : w2.heap[w1.heap.size]? = some (.cells #[.slice none 0 0, .int .i64 0] 27 (0, 0)) := by rw [hw2]; exact heap_alloc_new w1 _
  obtain ⟨C, hC⟩ : ∃ C, w1.heap.size = C := ⟨_, rfl⟩
  have H0 := Lib.hid (show Two w D C (16 * 0) (runS (l.take 0)).1 (runS (l.take 0)).2 w2 from by
    refine ⟨_, .slice none 0 0, ⟨hs1.next hb2, ⟨hC ▸ hc2, Row.nil _ _ _, by rw [← hC]; exact hb1.size, fun k hk => by simp [own, Value.ownBlock] at hk, (hb1.trans (hb2.mono hb1.size))⟩, fun hk => by have := hs1.bF C hk; omega, fun k hk => by simp [own, Value.ownBlock] at hk⟩⟩)
  have HC := Lib.hid hC
  clear hs1 hb1 hb2 hc2 hC HNEW
  go_upto_region 4 with fail
  rw [← hw2, HC.out]
  clear hw2
  go_wp2_with fail
  go_loopw [20] (fun i wr => ∃ k : Nat, k ≤ n ∧ i = .int .i64 k ∧ Hid (Two w D C (16 * k) (runS (l.take k)).1 (runS (l.take k)).2 wr)) (fun i _ => n - (intOf i).toNat)
  case atStart => exact ⟨0, Nat.zero_le _, rfl, H0⟩
  case round =>
    obtain ⟨k, hk, rfl, HT⟩ := hrel
    clear H0
    obtain ⟨F, vc, hB⟩ := HT.out
    have hds := dist_runS (l.take k)
    by_cases hlt : k < n
    · have hltz : (k : Int) < n := by omega
      obtain ⟨p, hp⟩ : ∃ p, l[k]? = some p := ⟨_, List.getElem?_eq_getElem (by rw [HN.out]; exact hlt)⟩
      have hst := runS_step hp
      obtain ⟨L, hLe⟩ : ∃ L, (runS (l.take k)).1 = L := ⟨_, rfl⟩
      obtain ⟨last, hlaste⟩ : ∃ last, (runS (l.take k)).2 = last := ⟨_, rfl⟩
      rw [hLe, hlaste] at hst
      rw [hLe, hlaste] at hB
      rw [hLe] at hds
      obtain ⟨ao', cap', hv, ha⟩ := HL.out.below hB.below (Nat.le_refl _)
      simp only [Value.slice.injEq] at hv
      obtain ⟨rfl, hv0, rfl⟩ := hv
      clear hv0
      obtain ⟨g, off, rfl, hcs⟩ := ha (fun e => by rw [e] at hp; simp at hp)
      obtain ⟨m0, m1, m2, m3, m4, m5⟩ := hcs k p hp
      have hfp := HF.out p (List.mem_of_getElem? hp)
      obtain ⟨s, h, d, hpp⟩ := parts p
      have hrv : recV p = .agg #[.int .i64 p.kind, .int .i64 p.seq, .int .i64 p.time, .string s, .string h, .string d] := by unfold recV; rw [hpp.s1, hpp.h1, hpp.d1]
      rw [hpp.s1] at m3
      rw [hpp.h1] at m4
      rw [hpp.d1] at m5
      obtain ⟨wa, hwa⟩ : ∃ wa, wa = wr.alloc (.cells #[.int .i64 p.kind, .int .i64 p.seq, .int .i64 p.time, .string s, .string h, .string d] 29) := ⟨_, rfl⟩
      have hba : Below wr.heap.size wr wa := by rw [hwa]; exact (Below.refl _ _).alloc (Nat.le_refl _) _
      have hea : wa.heap[wr.heap.size]? = some (.cells #[.int .i64 p.kind, .int .i64 p.seq, .int .i64 p.time, .string s, .string h, .string d] 29 (0, 0)) := by rw [hwa]; exact heap_alloc_new wr _
      obtain ⟨bx, hbx⟩ : ∃ bx, wr.heap.size = bx := ⟨_, rfl⟩
      rw [hbx] at hea
      obtain ⟨T, hT⟩ : ∃ T, tryD L last p = T := ⟨_, rfl⟩
      obtain ⟨I, hR⟩ := hB.st.right
      have hbF : ¬ F bx ∧ bx ≠ C ∧ ¬ own vc bx := ⟨fun h => by have := hB.st.bF bx h; omega, fun h => by have := heap_lt hB.ch.cell; omega, fun h => by have := hB.ch.row.lt bx h; omega⟩
      have hBa := hB.next hba
      have htc := try_ch hBa.ch hR hds p hfp
      rw [hT] at htc
      have hts := fun w' (hb : Below wa.heap.size wa w') => try_st (hBa.next hb).st (by omega) HML.out p hfp
      rw [hT] at hts
      have has_ := fun w' (hb : Below wa.heap.size wa w') => apply_any (hBa.next hb).st (by omega) HML.out p hfp
      unfold ApplyPost at has_
      rw [hT] at has_
      have hac := fun (w' : World) (v' : Value) (hb : ChAt w C v' L last w') => apply_ch hb hR hds p hfp
      rw [hT] at hac
      rw [hrv] at htc
      simp only [hrv] at hts has_ hac
      obtain ⟨q0, q1, q2, q3, q4, q5⟩ := sixC hea
      have hbxl := heap_lt hea
      have HTC := Lib.hid htc; have HTS := Lib.hid hts; have HAS := Lib.hid has_; have HAC := Lib.hid hac; have HBA := Lib.hid hBa; have HEA := Lib.hid hea; have HBX := Lib.hid hbx; have HST := Lib.hid hst; have HBF := Lib.hid hbF; have HP := Lib.hid hp
      clear ha hcs hp hst hLe hlaste hfp hrv hpp hba hea hbx hT hR hbF hBa htc hts has_ hac hB HT hds
      go_upto_region 7 with fail
      rw [← hwa, HBX.out]
      clear hwa m0 m1 m2 m3 m4 m5
      go_wp2_with fail
      refine HTC.out.mono ?_
      rintro e wb ⟨rfl, hbb⟩
      have hbd : Below wa.heap.size wa wb.drew := hbb.drew
      have heb := (hbd.block bx hbxl).trans HEA.out
      obtain ⟨q0, q1, q2, q3, q4, q5⟩ := sixC heb
      clear hbb HTC
      go_wp2_with fail
      go_region_held3 (fun w' => w'.cell? ⟨bx, 0, none⟩ = some (.int .i64 p.kind) ∧ w'.cell? ⟨bx, 1, none⟩ = some (.int .i64 p.seq) ∧ w'.cell? ⟨bx, 2, none⟩ = some (.int .i64 p.time) ∧ w'.cell? ⟨bx, 3, none⟩ = some (.string s) ∧ w'.cell? ⟨bx, 4, none⟩ = some (.string h) ∧ w'.cell? ⟨bx, 5, none⟩ = some (.string d)) (first | (with_reducible exact ⟨q0, q1, q2, q3, q4, q5⟩) | (with_reducible exact sixC (by assumption)) | go_keep)
        (first
          | (go_at_call 9; ((refine (HTS.out _ hbd).mono ?_); rintro e wc ⟨rfl, h2⟩; have hbc : Below wa.heap.size wa wc := hbd.trans (h2.mono hbd.size); have hec := (hbc.block bx hbxl).trans HEA.out; clear h2))
          | (go_at_call 10; ((refine (HAS.out _ hbc).mono ?_); rintro e wd ⟨rfl, h3⟩; have hed := (h3.2.block bx (heap_lt hec) HBF.out.1).trans hec; obtain ⟨F2, HB2, HF2⟩ := (HBA.out.next hbc).store h3; clear h3))
          | (go_at_call 11; ((refine (HAC.out _ _ HB2.ch).mono ?_); rintro e we ⟨rfl, h4⟩; obtain ⟨v3, HB3, HV3⟩ := HB2.chest h4; have hee : we.heap[bx]? = some (.cells #[.int .i64 p.kind, .int .i64 p.seq, .int .i64 p.time, .string s, .string h, .string d] 29 (0, 0)) := (by obtain ⟨_, _, t4, _⟩ := h4; exact (t4.block bx (heap_lt hed) (fun e => by rcases e with e | e; exact HBF.out.2.1 e; exact HBF.out.2.2 e)).trans hed); clear h4)))
      have hfin := Lib.hid (show Two w D C (16 * (k + 1)) (runS (l.take (k + 1))).1 (runS (l.take (k + 1))).2 we from by
        rw [HST.out]
        exact ⟨F2, v3, by rw [Nat.mul_succ]; exact HB3⟩)
      clear HB3 HB2 hed hee hec heb hbc hbd q0 q1 q2 q3 q4 q5
      go_wp2_with fail
      exact ⟨⟨k + 1, by omega, by go_num, hfin⟩, by simp [intOf]; omega⟩
    · have hltz : ¬ (k : Int) < n := by omega
      obtain rfl : k = n := by omega
      have hSW := same_walk hB (by omega) HML.out hds f hfz q hq
      have HSW := Lib.hid hSW
      have HBW := Lib.hid hB.below
      clear hSW hB HT hds
      go_wp2_with fail
      refine HSW.out.mono ?_
      rintro e we ⟨rfl, h5⟩
      have HFI := Lib.hid (HBW.out.trans (h5.mono HBW.out.size))
      clear h5
      go_wp2_with fail
      go_ret
      exact ⟨by simp, HFI.out⟩
end
end Go.Proofs.YthhingihjpkipaaDoor.Sto

namespace Go.Proofs.YthhingihjpkipaaDoor
open Go.RowKit

section
open Go.WideShapes Go.ChangeShapes
variable {H : Type} {enc : TypeId × Value → H} {P : Program}

theorem trodAll_stays (hl : laidOutB P = true) {W W' : World} (hb : Below W.heap.size W W') {sp : Nat → Bool} :
    ∀ (ts : List TypeId) (vs : List Value) (ds : List (DataW H)) (ps : List MemPlace), (∀ t ∈ ts, P.readableRec t = true ∧ t < P.types.size) →
      DataW.TrodAll enc P W 0 (fun _ => true) true ts vs ds ps → (∀ x ∈ ps, x.block < W.heap.size) → (∀ x ∈ ps, sp x.block = true) →
      DataW.TrodAll enc P W' 0 sp true ts vs ds ps
  | [], [], [], _, _, h, _, _ => h
  | t :: ts, v :: vs, d :: ds, ps, hr, h, hlt, hsp => by
    obtain ⟨p, q, h1, h2, rfl⟩ := h
    obtain ⟨r1, r2⟩ := hr t (by simp)
    refine ⟨p, q, WideElems.Trod_stays hl r1 r2 h1 (fun x hx => hb.same (hlt x (by simp [hx]))) (fun x hx => hsp x (by simp [hx])), ?_, rfl⟩
    exact trodAll_stays hl hb ts vs ds q (fun t ht => hr t (by simp [ht])) h2 (fun x hx => hlt x (by simp [hx])) (fun x hx => hsp x (by simp [hx]))
  | [], [], _ :: _, _, _, h, _, _ => by cases h
  | [], _ :: _, _, _, _, h, _, _ => by cases h
  | _ :: _, [], _, _, _, h, _, _ => by cases h
  | _ :: _, _ :: _, [], _, _, h, _, _ => by cases h

/-- The law's post: it returned true, its arguments read as they did. -/
theorem post_true {f : Func} {s : ChangeSpec} {apart fresh handsOn again : Bool} {W W' : World} {args : Array Value} {ds gs : List (DataW H)} {before : List MemPlace} {tb : TypeId}
    (hl : laidOutB P = true) (hr : ∀ t ∈ f.params.toList, P.readableRec t = true ∧ t < P.types.size)
    (hres : f.resultTypes = #[tb]) (htb : P.underlying tb = some .bool) (hvars : s.vars = [])
    (hW : DataW.Whole enc P f.params.toList s.vars apart W args.toList ds gs before)
    (hs1 : (s.fn H (ds ++ gs)).results = [.lit (.bool true)]) (hs2 : (s.fn H (ds ++ gs)).args = ds) (hs3 : (s.fn H (ds ++ gs)).vars = [])
    (hb : Below W.heap.size W W') : s.post enc P f apart fresh handsOn again W args (.bool true) W' := by
  have hW0 := hW
  obtain ⟨p, q, hA, hV, rfl, hz, hn⟩ := hW
  rw [hvars] at hV
  obtain ⟨rfl, rfl⟩ := trodVars_none hV
  have hlt : ∀ x ∈ p, x.block < W.heap.size := fun x hx => hW0.lt x (by simp [hx])
  refine post_of_below (pa := p) (pv := []) hW0 (fun _ _ _ => ?_) (fun sp hsp => ?_) (fun _ _ => ?_) rfl hb ?_
  · rw [hs1, hres]
    exact trodAll_cons_mk (shut_bool htb _) trodAll_mk0
  · rw [hs2]
    exact trodAll_stays hl hb _ _ _ _ hr hA hlt (fun x hx => hsp x (by simp [hx]))
  · rw [hs3, hvars]; rfl
  · intro j t r h1 h2
    rw [hres] at h1 h2
    have hj : j = 0 := by
      have := (Array.getElem?_eq_some_iff.1 h1).1
      simpa using this
    subst hj
    simp at h1
    subst h1
    simp [Value.resultList] at h2
    subst h2
    exact okWide_bool_mk htb _
end

/-! ### What a reading tells -/
section
open Go.WideShapes Go.ChangeShapes
variable {H : Type} {enc : TypeId × Value → H} {P : Program} {w : World} {base : Nat} {spare : Nat → Bool} {held : Bool}

theorem rd_int {t : TypeId} {k : IntKind} {fuel : Nat} {cs : List Value} {y : DataW H × List MemPlace} (ht : P.underlying t = some (.int k)) (h : DataW.trod enc P w base spare held fuel t cs = some y) :
    ∃ n, cs = [.int k n] ∧ (Lit.int k n).wf = true := by
  cases fuel with
  | zero => simp [DataW.trod] at h
  | succ n =>
    unfold DataW.trod at h
    rw [ht] at h
    split at h <;> simp_all

theorem rd_string {t : TypeId} {fuel : Nat} {cs : List Value} {y : DataW H × List MemPlace} (ht : P.underlying t = some .string) (h : DataW.trod enc P w base spare held fuel t cs = some y) :
    ∃ s, cs = [.string s] ∧ s.size ≤ maxLen ∧ y.1 = .lit (.string s.data.toList) := by
  cases fuel with
  | zero => simp [DataW.trod] at h
  | succ n =>
    unfold DataW.trod at h
    rw [ht] at h
    split at h <;> simp_all
    obtain ⟨_, rfl⟩ := h
    simp

theorem rd_bool {t : TypeId} {fuel : Nat} {cs : List Value} {y : DataW H × List MemPlace} (ht : P.underlying t = some .bool) (h : DataW.trod enc P w base spare held fuel t cs = some y) :
    ∃ b, cs = [.bool b] := by
  cases fuel with
  | zero => simp [DataW.trod] at h
  | succ n =>
    unfold DataW.trod at h
    rw [ht] at h
    split at h <;> simp_all

/-- A struct, field by field. -/
theorem rd_struct {t : TypeId} {fs : Array Field} {fuel : Nat} {cs : List Value} {y : DataW H × List MemPlace} (ht : P.underlying t = some (.struct fs)) (h : DataW.trod enc P w base spare held fuel t cs = some y) :
    ∃ n, cs.length = P.cellsOf t ∧ ∃ xs : List (DataW H × List MemPlace), y.1 = .agg (xs.map (·.1)) ∧ fs.toList.mapM (fun f => DataW.trod enc P w base spare held n f.type ((cs.drop f.offset).take (P.cellsOf f.type))) = some xs := by
  cases fuel with
  | zero => simp [DataW.trod] at h
  | succ n =>
    unfold DataW.trod at h
    rw [ht] at h
    split at h <;> simp_all
    obtain ⟨xs, h1, h2⟩ := h.2
    exact ⟨n, xs, by rw [← h2], h1⟩

theorem mapM_get {α β : Type} {f : α → Option β} : ∀ {l : List α} {ys : List β}, l.mapM f = some ys → ys.length = l.length ∧ ∀ (i : Nat) (a : α), l[i]? = some a → ∃ y, ys[i]? = some y ∧ f a = some y
  | [], ys, h => by
    simp at h; subst h; simp
  | a :: l, ys, h => by
    rw [List.mapM_cons] at h
    cases ha : f a with
    | none => rw [ha] at h; cases h
    | some b =>
      rw [ha] at h
      cases hl : l.mapM f with
      | none => rw [hl] at h; cases h
      | some bs =>
        rw [hl] at h
        have e : b :: bs = ys := by simpa using h
        subst e
        obtain ⟨h1, h2⟩ := mapM_get hl
        refine ⟨by simp [h1], fun i x hx => ?_⟩
        cases i with
        | zero => simp at hx; subst hx; exact ⟨b, rfl, ha⟩
        | succ i => exact h2 i x (by simpa using hx)

/-- A slice: nil, or its elements up to the capacity. -/
theorem rd_slice {t e : TypeId} {fuel : Nat} {cs : List Value} {y : DataW H × List MemPlace} (ht : P.underlying t = some (.slice e)) (h : DataW.trod enc P w base (fun _ => true) held fuel t cs = some y) :
    (cs = [.slice none 0 0] ∧ y.1 = .nil) ∨ ∃ a len cap n, cs = [.slice (some a) len cap] ∧ len ≤ cap ∧ cap ≤ maxLen ∧ ∃ elems rest : List (DataW H × List MemPlace), y.1 = .slice (elems.map (·.1)) (rest.map (·.1)) ∧ elems.length = len ∧ rest.length = cap - len ∧
      (∀ i, i < len → ∃ z, elems[i]? = some z ∧ (w.cells? base (a.add (i * P.cellsOf e)) (P.cellsOf e)).bind (DataW.trod enc P w base (fun _ => true) held n e) = some z) ∧
      (∀ i, i < cap - len → ∃ z, rest[i]? = some z ∧ (w.cells? base (a.add ((len + i) * P.cellsOf e)) (P.cellsOf e)).bind (DataW.trod enc P w base (fun _ => true) held n e) = some z) := by
  cases fuel with
  | zero => simp [DataW.trod] at h
  | succ n =>
    unfold DataW.trod at h
    rw [ht] at h
    split at h <;> first | (exfalso; simp_all; done) | simp_all
    · rw [← h]
    · obtain ⟨⟨hb, hlc, hcm⟩, hh⟩ := h
      rw [Option.bind_eq_some_iff] at hh
      obtain ⟨elems, he, hr'⟩ := hh
      rw [Option.map_eq_some_iff] at hr'
      obtain ⟨rest, hr, hy⟩ := hr'
      obtain ⟨l1, g1⟩ := mapM_get he
      obtain ⟨l2, g2⟩ := mapM_get hr
      refine ⟨_, _, _, ⟨rfl, rfl, rfl⟩, hlc, hcm, n, elems, rest, by rw [← hy], by simpa using l1, by simpa using l2, fun i hi => ?_, fun i hi => ?_⟩
      · obtain ⟨y, h1, h2⟩ := g1 i i (by simp [hi])
        exact ⟨y.1, y.2, h1, h2⟩
      · obtain ⟨y, h1, h2⟩ := g2 i i (by simp [hi])
        exact ⟨y.1, y.2, h1, h2⟩
end

end Go.Proofs.YthhingihjpkipaaDoor

namespace Go.Proofs.YthhingihjpkipaaDoor
open Go.ChangeShapes Go.WideShapes Go.ChangeAt Go.RowKit

def laidList : List (String × DataW Unit) := [("unicode/utf8.acceptRanges", Rows.laid_unicode_utf8_acceptRanges), ("unicode/utf8.first", Rows.laid_unicode_utf8_first)]

def acceptZ : List Nat := [128, 191, 160, 191, 128, 159, 144, 191, 128, 143] ++ List.replicate 22 0

/-- A world for the witness: the settled one, the tables holding what their initialisers lay. -/
noncomputable def laidWorld (os : Os) : World :=
  { World.holding Tryd.prog os ⟨#[], #[], []⟩ with heap := (((World.holding Tryd.prog os ⟨#[], #[], []⟩).heap.modify 1 (fun
      | .cells _ t frozen => .cells (Go.Pinned.utf8FirstZ.map fun (z : Nat) => Value.int .u8 z).toArray t frozen
      | o => o)).modify 2 (fun
      | .cells _ t frozen => .cells (acceptZ.map fun (z : Nat) => Value.int .u8 z).toArray t frozen
      | o => o)) }

set_option maxRecDepth 100000 in
theorem laid_met (os : Os) (args : Array Value) : laidMet Tryd.prog laidList ((laidWorld os).forCall (fun _ _ => 0) ⟨#[], args, []⟩).memory :=
  laidMet_of_run' 8 (by kernel_rfl) (by kernel_rfl)

theorem ml_shaped {W : World} (h : W.ShapedOpen Tryd.prog) : Subj.ML W := Tryd.laysM146.s1_3 W h

/-- A part's bulk is at most the whole's. -/
theorem bulk_part {H : Type} {d : DataW H} : ∀ {l : List (DataW H)}, d ∈ l → Rows.uptoBulk d ≤ Rows.uptoBulkAll l
  | [], h => by cases h
  | x :: r, h => by
    simp only [Rows.uptoBulkAll]
    cases List.mem_cons.1 h with
    | inl e => subst e; omega
    | inr e => have := bulk_part e; omega

theorem bulk_bound {H : Type} {l : List (DataW H)} (hk : Rows.uptoSmall H l = true) : Rows.uptoBulkAll l ≤ 1048576 := of_decide_eq_true hk

/-- A text that is a part of what came in: at most so long. -/
theorem text_bound {H : Type} {l : List (DataW H)} {s : ByteArray} (hk : Rows.uptoSmall H l = true) (h : DataW.lit (.string s.data.toList) ∈ l) : s.size ≤ 1048576 := by
  have h1 := bulk_bound hk
  have h2 := bulk_part h
  have h3 : Rows.uptoBulk (DataW.lit (H := H) (.string s.data.toList)) = s.size + 1 := by simp only [Rows.uptoBulk, Array.length_toList]; rfl
  omega

end Go.Proofs.YthhingihjpkipaaDoor
