/- Parts of the proof, joined: sameStore, walked.; The law StorePlays, walked: it returns true.; A vault in plain Lean: what was done is there behind a stop; made compact it is, too. No program here.; The vault laws' examples. -/
import Derived.Test.YtidacfhdhdnidaaGreatDoorVaultPlaysUptoM35
namespace Go.Proofs.YtidacfhdhdnidaaGreatDoor.Sto
open Go.RowKit Heap
open Subj (Tok ML pieces takes)
open Rec (Rc recErr far)
open Idx (Ents ptrV findL FindPost entV)
open Shf (SortedE equal_ents)

theorem find_same_on {L : List Rc} {p q : Rc → Bool} (h : ∀ x ∈ L, p x = q x) : L.find? p = L.find? q := by
  induction L with
  | nil => rfl
  | cons a l ih =>
    rw [List.find?_cons, List.find?_cons, h a (by simp), ih fun x hx => h x (by simp [hx])]

theorem pick_last {L : List Rc} (f : List UInt8) (h : ∀ r ∈ L, 0 ≤ r.seq) : (order true L).find? (pk f 0) = L.reverse.find? (tk f) := by
  show L.reverse.find? _ = _
  refine find_same_on fun x hx => ?_
  unfold pk
  rw [decide_eq_true (h x (List.mem_reverse.1 hx)), Bool.true_and]

theorem pick_next {L : List Rc} {i : Nat} {n q : Int} (f : List UInt8) (h : ∀ r ∈ L, 0 ≤ r.seq) (hq : max n 0 = q) (h1 : ∀ r ∈ L.take i, r.seq < q) (h2 : ∀ r ∈ L.drop i, q ≤ r.seq) : (order false L).find? (pk f n) = (L.drop i).find? (tk f) := by
  show L.find? _ = _
  conv => lhs; rw [← List.take_append_drop i L]
  rw [List.find?_append]
  have e1 : (L.take i).find? (pk f n) = none := by
    rw [List.find?_eq_none]
    intro x hx
    have := h1 x hx
    have := h x (List.mem_of_mem_take hx)
    unfold pk
    rw [decide_eq_false (by omega)]
    simp
  rw [e1, Option.none_or]
  refine find_same_on fun x hx => ?_
  have := h2 x hx
  unfold pk
  rw [decide_eq_true (by omega), Bool.true_and]

section
variable {W w : World} {F : Nat → Prop} {D B C : Nat} {v : Value} {L : List Rc} {last : Int}

theorem find_row2 {er : Nat} {L : Ents} {w w' : World} {e : Ending} (h : FindPost er L w e w') : ∃ v, e = .returned (.tuple #[v, .int .i64 er]) ∧ Below w.heap.size w w' ∧ ∃ R : Ents, R = (if er = 0 then L else []) ∧ Row w' 197 2 v R.length (Idx.entV R) := by
  obtain ⟨hb, ⟨h1, rfl⟩ | ⟨rfl, v, rfl, h2, _⟩⟩ := h
  · exact ⟨_, rfl, hb, [], by rw [if_neg h1], Row.nil _ _ _⟩
  · exact ⟨v, rfl, hb, L, by rw [if_pos rfl], h2⟩

/-- A call tells a record and an error. -/
def Tells (g : Nat) (args : Array Value) (w : World) (kd sq tm : Int) (s h d : ByteArray) (er : Nat) : Prop := ∀ w', Below w.heap.size w w' → Calls Tryz.prog g args w' fun e w'' => e = .returned (.tuple #[.agg #[.int .i64 kd, .int .i64 sq, .int .i64 tm, .string s, .string h, .string d], .int .i64 er]) ∧ Below w'.heap.size w' w''

theorem tells_of {g : Nat} {args : Array Value} {R : Rc × Nat} (H : ∀ w', Below w.heap.size w w' → Calls Tryz.prog g args w' fun e w'' => e = .returned (.tuple #[recV R.1, .int .i64 (R.2 : Nat)]) ∧ Below w'.heap.size w' w'') {s h d : ByteArray} (hp : Parts R.1 s h d) :
    Tells g args w R.1.kind R.1.seq R.1.time s h d R.2 := fun w' hb => by
  have := H w' hb
  unfold recV at this
  rw [hp.s1, hp.h1, hp.d1] at this
  exact this

/-- The three questions, each at both. -/
theorem asks (h : BothAt W F D B C v L last L last w) (hm : ML W) (f : ByteArray) (hf : f.size ≤ 1048576) (n : Int) (hn : -9223372036854775808 ≤ n ∧ n ≤ 9223372036854775807) :
    ∃ (R1 R2 R3 : Rc × Nat), ∀ {s1 h1 d1 s2 h2 d2 s3 h3 d3 : ByteArray}, Parts R1.1 s1 h1 d1 → Parts R2.1 s2 h2 d2 → Parts R3.1 s3 h3 d3 →
      Tells 120 #[.pointer (some ⟨D, 0, none⟩), .int .i64 n] w R1.1.kind R1.1.seq R1.1.time s1 h1 d1 R1.2 ∧ Tells 89 #[.pointer (some ⟨C, 0, none⟩), .int .i64 n] w R1.1.kind R1.1.seq R1.1.time s1 h1 d1 R1.2 ∧
      Tells 81 #[.pointer (some ⟨D, 0, none⟩), .string f] w R2.1.kind R2.1.seq R2.1.time s2 h2 d2 R2.2 ∧ Tells 84 #[.pointer (some ⟨C, 0, none⟩), .string f, .int .i64 0, .bool true] w R2.1.kind R2.1.seq R2.1.time s2 h2 d2 R2.2 ∧
      Tells 86 #[.pointer (some ⟨D, 0, none⟩), .string f, .int .i64 n] w R3.1.kind R3.1.seq R3.1.time s3 h3 d3 R3.2 ∧ Tells 84 #[.pointer (some ⟨C, 0, none⟩), .string f, .int .i64 n, .bool false] w R3.1.kind R3.1.seq R3.1.time s3 h3 d3 R3.2 := by
  obtain ⟨I, hR⟩ := h.st.right
  have hs : ∀ r ∈ L, 0 ≤ r.seq := fun r hr => (hR.seqs r hr).1
  refine ⟨seekR 0 (getQ L n), seekR (Subj.err true f.data.toList) (L.reverse.find? (tk f.data.toList)), seekR (Subj.err true f.data.toList) ((order false L).find? (pk f.data.toList n)), fun p1 p2 p3 => ⟨tells_of (fun w' hb => get_any (h.next hb).st n hn) p1, tells_of (fun w' hb => get_ch (h.next hb).ch hR n) p1, tells_of (fun w' hb => last_any (h.next hb).st hm f hf) p2, ?_, ?_, tells_of (fun w' hb => seek_ch (h.next hb).ch hR f hf n false) p3⟩⟩
  · refine tells_of (fun w' hb => ?_) p2
    have := seek_ch (h.next hb).ch hR f hf 0 true
    rw [pick_last f.data.toList hs] at this
    exact this
  · refine tells_of (fun w' hb => ?_) p3
    refine (next_from (h.next hb).st hm f hf n (max n 0) rfl (by omega)).mono ?_
    rintro e w'' ⟨i, h1, h2, rfl, hb2⟩
    refine ⟨?_, hb2⟩
    rw [pick_next f.data.toList hs rfl h1 h2]


set_option maxHeartbeats 8000000 in
set_option maxRecDepth 100000 in
theorem same_walk (h : BothAt W F D B C v L last L last w) (hB : B ≤ 80000) (hm : ML W) (hds : dist L ≤ 100) (f : ByteArray) (hf : f.size ≤ 1048576) (n : Int) (hn : -9223372036854775808 ≤ n ∧ n ≤ 9223372036854775807) :
    Calls Tryz.prog 69 #[.pointer (some ⟨D, 0, none⟩), .pointer (some ⟨C, 0, none⟩), .string f, .int .i64 n] w fun e w' => e = .returned (.bool true) ∧ Below w.heap.size w w' := by
  obtain ⟨I, hR⟩ := h.st.right
  obtain ⟨R1, R2, R3, hask⟩ := asks h hm f hf n hn
  obtain ⟨s1, h1, d1, p1⟩ := parts R1.1
  obtain ⟨s2, h2, d2, p2⟩ := parts R2.1
  obtain ⟨s3, h3, d3, p3⟩ := parts R3.1
  obtain ⟨a1, a2, a3, a4, a5, a6⟩ := hask p1 p2 p3
  clear hask p1 p2 p3
  generalize R1.1.kind = kd1 at *
  generalize R1.1.seq = sq1 at *
  generalize R1.1.time = tm1 at *
  generalize R1.2 = e1 at *
  clear R1
  generalize R2.1.kind = kd2 at *
  generalize R2.1.seq = sq2 at *
  generalize R2.1.time = tm2 at *
  generalize R2.2 = e2 at *
  clear R2
  generalize R3.1.kind = kd3 at *
  generalize R3.1.seq = sq3 at *
  generalize R3.1.time = tm3 at *
  generalize R3.2 = e3 at *
  clear R3
  obtain ⟨m, hmL⟩ : ∃ m, L.length = m := ⟨_, rfl⟩
  have hm200 : m ≤ 200 := by rw [← hmL]; exact hR.few
  have hsu := fun w' (hb : Below w.heap.size w w') => sums_any (h.next hb).st
  have hsc := fun w' (hb : Below w.heap.size w w') => sums_ch (h.next hb).ch hR
  unfold sumsV at hsu hsc
  rw [hmL] at hsu hsc
  obtain ⟨bt, hbt⟩ : ∃ bt, bytesR L = bt := ⟨_, rfl⟩
  obtain ⟨fz, hfz⟩ : ∃ fz, (L.head?.map (·.seq)).getD 0 = fz := ⟨_, rfl⟩
  rw [hbt, hfz] at hsu hsc
  have hal := fun w' (hb : Below w.heap.size w w') => all_any (h.next hb).st
  obtain ⟨va, vc, hv⟩ := h.ch.row.slice
  rw [hmL] at hv
  subst hv
  have heq := fun (w' : World) (hb : Below w.heap.size w w') (v' : Value) (hr : Row w' 33 6 v' L.length (recsV L)) => equal_recs (row_recs hr) (row_recs (h.next hb).ch.row) (by rw [hmL]; omega)
  have hcc := fun (w' : World) (hb : Below w.heap.size w w') => (twoC (h.next hb).ch.cell).1
  have hsj := fun (w' : World) (hb : Below w.heap.size w w') => subjects_any (h.next hb).st hB hm f hf
  have hsb := fun (w' : World) (hb : Below w.heap.size w w') => subs_ch (h.next hb).ch hR hds f hf
  have hclt := heap_lt h.ch.cell
  have HSU := Lib.hid hsu; have HSC := Lib.hid hsc; have HAL := Lib.hid hal; have HEQ := Lib.hid heq; have HCC := Lib.hid hcc; have HSJ := Lib.hid hsj; have HSB := Lib.hid hsb; have HR := Lib.hid hR
  have A1 := Lib.hid a1; have A2 := Lib.hid a2; have A3 := Lib.hid a3; have A4 := Lib.hid a4; have A5 := Lib.hid a5; have A6 := Lib.hid a6
  have HM := Lib.hid hmL
  have hb0 : Below w.heap.size w w := Below.refl _ _
  have c0 := hcc w hb0
  clear h hR a1 a2 a3 a4 a5 a6 hsu hsc hal heq hcc hsj hsb hmL hbt hfz hds hm
  go_enter Tryz.func69, Tryz.ntmps69
  go_wp2_with fail
  have hb1 : Below w.heap.size w w.drew := hb0.drew
  go_region_held3 (fun w' => w'.cell? ⟨C, 0, none⟩ = some (.slice va m vc)) (first | (with_reducible exact c0) | (with_reducible assumption) | go_keep)
    (first
      | (go_at_call 63; ((refine (HSU.out _ (by assumption)).mono ?_); rintro e w1 ⟨rfl, h2⟩; have hbw : Below w.heap.size w w1 := Below.trans (by assumption) (h2.mono (Below.size (by assumption))); have c1 := HCC.out _ hbw; clear h2))
      | (go_at_call 119; ((refine (HSC.out _ (by assumption)).mono ?_); rintro e w2 ⟨rfl, h2⟩; have hbw2 : Below w.heap.size w w2 := Below.trans (by assumption) (h2.mono (Below.size (by assumption))); have c2 := HCC.out _ hbw2; clear h2))
      | (go_at_call 62; ((refine (HAL.out _ (by assumption)).mono ?_); rintro e w3 ⟨v3, rfl, r3, h3, o3⟩; have hbw3 : Below w.heap.size w w3 := Below.trans (by assumption) (h3.mono (Below.size (by assumption))); have c3 := HCC.out _ hbw3; have RR3 := Lib.hid r3; clear h3 o3 r3))
      | (go_at_call 42; ((refine (HEQ.out _ (by assumption) _ RR3.out).mono ?_); rintro e w4 ⟨rfl, q4, rfl⟩; have hbw4 : Below w.heap.size w _ := below_drewN (by assumption) q4; have c4 := HCC.out _ hbw4)))
  obtain ⟨x0, hx0⟩ : ∃ x0, x0 = w3.drewN q4 := ⟨_, rfl⟩
  rw [← hx0] at hbw4 ⊢
  have X0 := Lib.hid hbw4
  clear hx0 hbw hbw2 hbw3 hbw4 hb0 hb1 c0 c1 c2 c3 c4 HSU HSC HAL HEQ RR3
  go_wp2_with fail
  refine (A1.out _ X0.out).mono ?_
  rintro e y1 ⟨rfl, g1⟩
  have Y1 := Lib.hid (X0.out.trans (g1.mono X0.out.size))
  obtain ⟨x1, hx1⟩ : ∃ x1, x1 = y1.alloc (.cells #[.int .i64 kd1, .int .i64 sq1, .int .i64 tm1, .string s1, .string h1, .string d1] 33) := ⟨_, rfl⟩
  have hbx1 : Below y1.heap.size y1 x1 := by rw [hx1]; exact (Below.refl _ _).alloc (Nat.le_refl _) _
  have he1 : x1.heap[y1.heap.size]? = some (.cells #[.int .i64 kd1, .int .i64 sq1, .int .i64 tm1, .string s1, .string h1, .string d1] 33 (0, 0)) := by rw [hx1]; exact heap_alloc_new y1 _
  obtain ⟨b1, hbe1⟩ : ∃ b1, y1.heap.size = b1 := ⟨_, rfl⟩
  rw [hbe1] at he1
  have X1 := Lib.hid (Y1.out.trans (hbx1.mono Y1.out.size)); have F1_1 := Lib.hid he1; have BE1 := Lib.hid hbe1
  clear g1 hbx1 he1 hbe1 A1 X0 Y1
  go_upto_region 4 with fail
  rw [← hx1, BE1.out]
  clear hx1
  go_wp2_with fail
  refine (A2.out _ X1.out).mono ?_
  rintro e y2 ⟨rfl, g2⟩
  have Y2 := Lib.hid (X1.out.trans (g2.mono X1.out.size))
  have G2_1 := Lib.hid ((g2.block b1 (heap_lt F1_1.out)).trans F1_1.out)
  obtain ⟨x2, hx2⟩ : ∃ x2, x2 = y2.alloc (.cells #[.int .i64 kd1, .int .i64 sq1, .int .i64 tm1, .string s1, .string h1, .string d1] 33) := ⟨_, rfl⟩
  have hbx2 : Below y2.heap.size y2 x2 := by rw [hx2]; exact (Below.refl _ _).alloc (Nat.le_refl _) _
  have he2 : x2.heap[y2.heap.size]? = some (.cells #[.int .i64 kd1, .int .i64 sq1, .int .i64 tm1, .string s1, .string h1, .string d1] 33 (0, 0)) := by rw [hx2]; exact heap_alloc_new y2 _
  obtain ⟨b2, hbe2⟩ : ∃ b2, y2.heap.size = b2 := ⟨_, rfl⟩
  rw [hbe2] at he2
  have X2 := Lib.hid (Y2.out.trans (hbx2.mono Y2.out.size)); have F2_2 := Lib.hid he2; have BE2 := Lib.hid hbe2
  have F2_1 := Lib.hid ((hbx2.block b1 (heap_lt G2_1.out)).trans G2_1.out)
  clear g2 hbx2 he2 hbe2 A2 X1 Y2 G2_1 F1_1
  go_upto_region 5 with fail
  rw [← hx2, BE2.out]
  clear hx2
  go_wp2_with fail
  refine (A3.out _ X2.out).mono ?_
  rintro e y3 ⟨rfl, g3⟩
  have Y3 := Lib.hid (X2.out.trans (g3.mono X2.out.size))
  have G3_1 := Lib.hid ((g3.block b1 (heap_lt F2_1.out)).trans F2_1.out)
  have G3_2 := Lib.hid ((g3.block b2 (heap_lt F2_2.out)).trans F2_2.out)
  obtain ⟨x3, hx3⟩ : ∃ x3, x3 = y3.alloc (.cells #[.int .i64 kd2, .int .i64 sq2, .int .i64 tm2, .string s2, .string h2, .string d2] 33) := ⟨_, rfl⟩
  have hbx3 : Below y3.heap.size y3 x3 := by rw [hx3]; exact (Below.refl _ _).alloc (Nat.le_refl _) _
  have he3 : x3.heap[y3.heap.size]? = some (.cells #[.int .i64 kd2, .int .i64 sq2, .int .i64 tm2, .string s2, .string h2, .string d2] 33 (0, 0)) := by rw [hx3]; exact heap_alloc_new y3 _
  obtain ⟨b3, hbe3⟩ : ∃ b3, y3.heap.size = b3 := ⟨_, rfl⟩
  rw [hbe3] at he3
  have X3 := Lib.hid (Y3.out.trans (hbx3.mono Y3.out.size)); have F3_3 := Lib.hid he3; have BE3 := Lib.hid hbe3
  have F3_1 := Lib.hid ((hbx3.block b1 (heap_lt G3_1.out)).trans G3_1.out)
  have F3_2 := Lib.hid ((hbx3.block b2 (heap_lt G3_2.out)).trans G3_2.out)
  clear g3 hbx3 he3 hbe3 A3 X2 Y3 G3_1 F2_1 G3_2 F2_2
  go_upto_region 6 with fail
  rw [← hx3, BE3.out]
  clear hx3
  go_wp2_with fail
  refine (A4.out _ X3.out).mono ?_
  rintro e y4 ⟨rfl, g4⟩
  have Y4 := Lib.hid (X3.out.trans (g4.mono X3.out.size))
  have G4_1 := Lib.hid ((g4.block b1 (heap_lt F3_1.out)).trans F3_1.out)
  have G4_2 := Lib.hid ((g4.block b2 (heap_lt F3_2.out)).trans F3_2.out)
  have G4_3 := Lib.hid ((g4.block b3 (heap_lt F3_3.out)).trans F3_3.out)
  obtain ⟨x4, hx4⟩ : ∃ x4, x4 = y4.alloc (.cells #[.int .i64 kd2, .int .i64 sq2, .int .i64 tm2, .string s2, .string h2, .string d2] 33) := ⟨_, rfl⟩
  have hbx4 : Below y4.heap.size y4 x4 := by rw [hx4]; exact (Below.refl _ _).alloc (Nat.le_refl _) _
  have he4 : x4.heap[y4.heap.size]? = some (.cells #[.int .i64 kd2, .int .i64 sq2, .int .i64 tm2, .string s2, .string h2, .string d2] 33 (0, 0)) := by rw [hx4]; exact heap_alloc_new y4 _
  obtain ⟨b4, hbe4⟩ : ∃ b4, y4.heap.size = b4 := ⟨_, rfl⟩
  rw [hbe4] at he4
  have X4 := Lib.hid (Y4.out.trans (hbx4.mono Y4.out.size)); have F4_4 := Lib.hid he4; have BE4 := Lib.hid hbe4
  have F4_1 := Lib.hid ((hbx4.block b1 (heap_lt G4_1.out)).trans G4_1.out)
  have F4_2 := Lib.hid ((hbx4.block b2 (heap_lt G4_2.out)).trans G4_2.out)
  have F4_3 := Lib.hid ((hbx4.block b3 (heap_lt G4_3.out)).trans G4_3.out)
  clear g4 hbx4 he4 hbe4 A4 X3 Y4 G4_1 F3_1 G4_2 F3_2 G4_3 F3_3
  go_upto_region 7 with fail
  rw [← hx4, BE4.out]
  clear hx4
  go_wp2_with fail
  refine (A5.out _ X4.out).mono ?_
  rintro e y5 ⟨rfl, g5⟩
  have Y5 := Lib.hid (X4.out.trans (g5.mono X4.out.size))
  have G5_1 := Lib.hid ((g5.block b1 (heap_lt F4_1.out)).trans F4_1.out)
  have G5_2 := Lib.hid ((g5.block b2 (heap_lt F4_2.out)).trans F4_2.out)
  have G5_3 := Lib.hid ((g5.block b3 (heap_lt F4_3.out)).trans F4_3.out)
  have G5_4 := Lib.hid ((g5.block b4 (heap_lt F4_4.out)).trans F4_4.out)
  obtain ⟨x5, hx5⟩ : ∃ x5, x5 = y5.alloc (.cells #[.int .i64 kd3, .int .i64 sq3, .int .i64 tm3, .string s3, .string h3, .string d3] 33) := ⟨_, rfl⟩
  have hbx5 : Below y5.heap.size y5 x5 := by rw [hx5]; exact (Below.refl _ _).alloc (Nat.le_refl _) _
  have he5 : x5.heap[y5.heap.size]? = some (.cells #[.int .i64 kd3, .int .i64 sq3, .int .i64 tm3, .string s3, .string h3, .string d3] 33 (0, 0)) := by rw [hx5]; exact heap_alloc_new y5 _
  obtain ⟨b5, hbe5⟩ : ∃ b5, y5.heap.size = b5 := ⟨_, rfl⟩
  rw [hbe5] at he5
  have X5 := Lib.hid (Y5.out.trans (hbx5.mono Y5.out.size)); have F5_5 := Lib.hid he5; have BE5 := Lib.hid hbe5
  have F5_1 := Lib.hid ((hbx5.block b1 (heap_lt G5_1.out)).trans G5_1.out)
  have F5_2 := Lib.hid ((hbx5.block b2 (heap_lt G5_2.out)).trans G5_2.out)
  have F5_3 := Lib.hid ((hbx5.block b3 (heap_lt G5_3.out)).trans G5_3.out)
  have F5_4 := Lib.hid ((hbx5.block b4 (heap_lt G5_4.out)).trans G5_4.out)
  clear g5 hbx5 he5 hbe5 A5 X4 Y5 G5_1 F4_1 G5_2 F4_2 G5_3 F4_3 G5_4 F4_4
  go_upto_region 8 with fail
  rw [← hx5, BE5.out]
  clear hx5
  go_wp2_with fail
  refine (A6.out _ X5.out).mono ?_
  rintro e y6 ⟨rfl, g6⟩
  have Y6 := Lib.hid (X5.out.trans (g6.mono X5.out.size))
  have G6_1 := Lib.hid ((g6.block b1 (heap_lt F5_1.out)).trans F5_1.out)
  have G6_2 := Lib.hid ((g6.block b2 (heap_lt F5_2.out)).trans F5_2.out)
  have G6_3 := Lib.hid ((g6.block b3 (heap_lt F5_3.out)).trans F5_3.out)
  have G6_4 := Lib.hid ((g6.block b4 (heap_lt F5_4.out)).trans F5_4.out)
  have G6_5 := Lib.hid ((g6.block b5 (heap_lt F5_5.out)).trans F5_5.out)
  obtain ⟨x6, hx6⟩ : ∃ x6, x6 = y6.alloc (.cells #[.int .i64 kd3, .int .i64 sq3, .int .i64 tm3, .string s3, .string h3, .string d3] 33) := ⟨_, rfl⟩
  have hbx6 : Below y6.heap.size y6 x6 := by rw [hx6]; exact (Below.refl _ _).alloc (Nat.le_refl _) _
  have he6 : x6.heap[y6.heap.size]? = some (.cells #[.int .i64 kd3, .int .i64 sq3, .int .i64 tm3, .string s3, .string h3, .string d3] 33 (0, 0)) := by rw [hx6]; exact heap_alloc_new y6 _
  obtain ⟨b6, hbe6⟩ : ∃ b6, y6.heap.size = b6 := ⟨_, rfl⟩
  rw [hbe6] at he6
  have X6 := Lib.hid (Y6.out.trans (hbx6.mono Y6.out.size)); have F6_6 := Lib.hid he6; have BE6 := Lib.hid hbe6
  have F6_1 := Lib.hid ((hbx6.block b1 (heap_lt G6_1.out)).trans G6_1.out)
  have F6_2 := Lib.hid ((hbx6.block b2 (heap_lt G6_2.out)).trans G6_2.out)
  have F6_3 := Lib.hid ((hbx6.block b3 (heap_lt G6_3.out)).trans G6_3.out)
  have F6_4 := Lib.hid ((hbx6.block b4 (heap_lt G6_4.out)).trans G6_4.out)
  have F6_5 := Lib.hid ((hbx6.block b5 (heap_lt G6_5.out)).trans G6_5.out)
  clear g6 hbx6 he6 hbe6 A6 X5 Y6 G6_1 F5_1 G6_2 F5_2 G6_3 F5_3 G6_4 F5_4 G6_5 F5_5
  go_upto_region 9 with fail
  rw [← hx6, BE6.out]
  clear hx6
  obtain ⟨I1, hI1, hj1⟩ := HSJ.out _ X6.out
  have hj1 := hj1
  have HI1 := Lib.hid hI1; have HJ1 := Lib.hid hj1
  clear hI1 hj1
  go_wp2_with fail
  refine HJ1.out.mono ?_
  intro e y7 hp7
  obtain ⟨v7, rfl, g7, RR, hRR, r7⟩ := find_row2 hp7
  have Y7 := Lib.hid (X6.out.trans (g7.mono X6.out.size))
  have HRR := Lib.hid hRR; have R7 := Lib.hid r7
  have G7_1 := Lib.hid ((g7.block b1 (heap_lt F6_1.out)).trans F6_1.out)
  have G7_2 := Lib.hid ((g7.block b2 (heap_lt F6_2.out)).trans F6_2.out)
  have G7_3 := Lib.hid ((g7.block b3 (heap_lt F6_3.out)).trans F6_3.out)
  have G7_4 := Lib.hid ((g7.block b4 (heap_lt F6_4.out)).trans F6_4.out)
  have G7_5 := Lib.hid ((g7.block b5 (heap_lt F6_5.out)).trans F6_5.out)
  have G7_6 := Lib.hid ((g7.block b6 (heap_lt F6_6.out)).trans F6_6.out)
  clear hp7 g7 hRR r7 X6 HJ1 HSJ F6_1 F6_2 F6_3 F6_4 F6_5 F6_6
  go_wp2_with fail
  refine (HSB.out _ Y7.out).mono ?_
  rintro e y8 ⟨J, hs, hc, hp8⟩
  obtain rfl : I1 = J := counts_one HI1.out.sorted hs HI1.out.count hc
  obtain ⟨v8, rfl, g8, RR8, hRR8, r8⟩ := find_row2 hp8
  obtain rfl : RR = RR8 := HRR.out.trans hRR8.symm
  have Y8 := Lib.hid (Y7.out.trans (g8.mono Y7.out.size))
  have hlen : RR.length ≤ 100000 := by
    have h1 : (findL I1 f.data.toList).length ≤ I1.length := by unfold findL; exact List.length_filter_le _ _
    have h2 := counts_dist HI1.out.sorted HI1.out.count
    have h3 := nodup_le_subjs L
    have h4 : dist L = (subjs L).length := rfl
    have h5 := HM.out
    rw [HRR.out]
    split
    · omega
    · simp
  have HEE := Lib.hid (equal_ents (R7.out.kept fun j _ hj => g8.block j hj) r8 hlen)
  have G8_1 := (g8.block b1 (heap_lt G7_1.out)).trans G7_1.out
  obtain ⟨m10, m11, m12, m13, m14, m15⟩ := sixC G8_1
  have ml1 := heap_lt G8_1
  clear G8_1
  have G8_2 := (g8.block b2 (heap_lt G7_2.out)).trans G7_2.out
  obtain ⟨m20, m21, m22, m23, m24, m25⟩ := sixC G8_2
  have ml2 := heap_lt G8_2
  clear G8_2
  have G8_3 := (g8.block b3 (heap_lt G7_3.out)).trans G7_3.out
  obtain ⟨m30, m31, m32, m33, m34, m35⟩ := sixC G8_3
  have ml3 := heap_lt G8_3
  clear G8_3
  have G8_4 := (g8.block b4 (heap_lt G7_4.out)).trans G7_4.out
  obtain ⟨m40, m41, m42, m43, m44, m45⟩ := sixC G8_4
  have ml4 := heap_lt G8_4
  clear G8_4
  have G8_5 := (g8.block b5 (heap_lt G7_5.out)).trans G7_5.out
  obtain ⟨m50, m51, m52, m53, m54, m55⟩ := sixC G8_5
  have ml5 := heap_lt G8_5
  clear G8_5
  have G8_6 := (g8.block b6 (heap_lt G7_6.out)).trans G7_6.out
  obtain ⟨m60, m61, m62, m63, m64, m65⟩ := sixC G8_6
  have ml6 := heap_lt G8_6
  clear G8_6
  clear hp8 g8 hRR8 r8 hs hc Y7 HSB R7 hlen G7_1 G7_2 G7_3 G7_4 G7_5 G7_6
  go_wp2_with fail
  refine HEE.out.mono ?_
  rintro e y9 ⟨rfl, q9, rfl⟩
  have Y9 := Lib.hid (below_drewN Y8.out q9)
  go_wp2_with fail
  go_ret
  exact ⟨by simp, Y9.out⟩
end
end Go.Proofs.YtidacfhdhdnidaaGreatDoor.Sto

namespace Go.Proofs.YtidacfhdhdnidaaGreatDoor.Sto
open Go.RowKit Heap
open Subj (Tok ML pieces takes)
open Rec (Rc recErr far)
open Idx (Ents ptrV)

theorem dist_runS (l : List Rc) : dist (runS l).1 ≤ 100 := by
  unfold runS
  suffices h : ∀ (l : List Rc) (s : List Rc × Int), dist s.1 ≤ 100 → dist (l.foldl (fun s r => after s.1 s.2 r) s).1 ≤ 100 from h l ([], 0) (by decide)
  intro l
  induction l with
  | nil => intro s h; exact h
  | cons a l ih => intro s h; exact ih _ (dist_after h)

section
variable {w : World}

theorem try_st {W : World} {F : Nat → Prop} {D B : Nat} {L : List Rc} {last : Int} (hA : StoreAt W F D B L last w) (hB : B ≤ 80000) (hm : ML W) (r : Rc) (hf : Fits r) :
    Calls Tryz.prog 71 #[.pointer (some ⟨D, 0, none⟩), recV r] w fun e w' => e = .returned (.int .i64 (tryD L last r : Nat)) ∧ Below w.heap.size w w' := by
  obtain ⟨M, x, N, I, v, h, hR, hN, _⟩ := hA.ex
  have := try_rec h hR (by omega) hm r hf
  rw [tryS_D hR.sorted hR.count] at this
  exact this

end
end Go.Proofs.YtidacfhdhdnidaaGreatDoor.Sto

namespace Go.Proofs.YtidacfhdhdnidaaGreatDoor.Vlt
open Dsk Log
open Rec (Rc recErr codedL far)
open Sto (tryD after runS runS_step Right leftS lastS dist cntR hasSeq)
open Idx (Ents)

/-- A vault: the disk's files, the messages, the last number. -/
structure Vt where
  A : List FileP
  L : List Rc
  last : Int

def markR (n : Int) : Rc := ⟨4, n, 0, [], [], []⟩
def allV (s : Vt) : List Rc := s.L ++ if 0 < s.last then [markR s.last] else []

def doV (room size : Int) (s : Vt) (r : Rc) : Vt × Nat :=
  if tryD s.L s.last r ≠ 0 then (s, tryD s.L s.last r)
  else if (logD room size s.A r).2 ≠ 0 then (⟨(logD room size s.A r).1, s.L, s.last⟩, (logD room size s.A r).2)
  else (⟨syncL (logD room size s.A r).1, (after s.L s.last r).1, (after s.L s.last r).2⟩, 0)

def compV (room size : Int) (s : Vt) : Vt × Nat := (⟨(rewD room size s.A (allV s)).1, s.L, s.last⟩, (rewD room size s.A (allV s)).2)

def crashV (K : Nat) (s : Vt) : Vt := ⟨(openD (crashD s.A K)).2, (runS (openD (crashD s.A K)).1).1, (runS (openD (crashD s.A K)).1).2⟩

theorem last_split (A : List FileP) : A = [] ∨ ∃ pre p, A = pre ++ [p] := by
  rcases List.eq_nil_or_concat A with h | ⟨pre, p, h⟩
  · exact .inl h
  · exact .inr ⟨pre, p, by rw [h, List.concat_eq_append]⟩

theorem good_split {p : FileP} : ∀ {pre : List FileP} {l : List Rc}, Log.Good (pre ++ [p]) l → ∃ gp gl, l = gp ++ gl ∧ Log.Good pre gp ∧ p.text = textsL gl ∧ p.sure = p.text.length
  | [], l, h => by
    obtain ⟨g, gs, e, h1, h2, h3⟩ := h
    have h3 : gs = [] := h3
    subst h3
    exact ⟨[], g, by simpa using e, rfl, h1, h2⟩
  | a :: r, l, h => by
    obtain ⟨g, gs, e, h1, h2, h3⟩ := h
    obtain ⟨gp, gl, e2, h4, h5, h6⟩ := good_split h3
    exact ⟨g ++ gp, gl, by rw [e, e2, List.append_assoc], ⟨g, gp, rfl, h1, h2, h4⟩, h5, h6⟩

theorem good_open : ∀ {A : List FileP} {l : List Rc}, Log.Good A l → (∀ r ∈ l, recErr r = 0) → openD A = (l, A)
  | [], l, h, _ => by
    have h : l = [] := h
    subst h; rfl
  | a :: r, l, ⟨g0, gs, e, h1, h2, h3⟩, hr => by
    have hsc := scan_all (g := g0) fun x hx => hr x (by rw [e]; exact List.mem_append_left _ hx)
    have ih := good_open h3 fun x hx => hr x (by rw [e]; exact List.mem_append_right _ hx)
    unfold openD
    rw [h1, hsc, ih]
    simp only
    rw [if_neg (by omega), e]

theorem app_above {room : Int} {A : List FileP} {n : Int} {T : List UInt8} (h : ∀ x ∈ A, x.n < n) (h0 : (appD room A n T).2 = 0) : (appD room A n T).1 = A ++ [⟨n, T, 0⟩] := by
  unfold appD at h0 ⊢
  rw [getF_above h] at h0 ⊢
  split
  · rename_i e; rw [if_pos e] at h0; cases h0
  · rename_i e
    rw [if_neg e] at h0
    split
    · rename_i e2; rw [if_pos e2] at h0; cases h0
    · rename_i e2
      rw [if_neg e2] at h0
      simp only at h0 ⊢
      split
      · rename_i e3; rw [if_pos e3] at h0; cases h0
      · exact insF_above ⟨n, T, 0⟩ h

theorem app_last {room : Int} {A : List FileP} {p : FileP} {T : List UInt8} (h : ∀ x ∈ A, x.n < p.n) (h0 : (appD room (A ++ [p]) p.n T).2 = 0) : (appD room (A ++ [p]) p.n T).1 = A ++ [⟨p.n, p.text ++ T, p.sure⟩] := by
  unfold appD at h0 ⊢
  rw [getF_last p h] at h0 ⊢
  split
  · rename_i e; rw [if_pos e] at h0; cases h0
  · rename_i e
    rw [if_neg e] at h0
    split
    · rename_i e2; rw [if_pos e2] at h0; cases h0
    · exact setF_last p ⟨p.n, p.text ++ T, p.sure⟩ h rfl

theorem sync_snoc {A : List FileP} (p : FileP) (h : ∀ x ∈ A, x.n < p.n) : (syncD (A ++ [p]) p.n).1 = A ++ [⟨p.n, p.text, p.text.length⟩] ∧ syncL (A ++ [p]) = A ++ [⟨p.n, p.text, p.text.length⟩] := by
  have e : (syncD (A ++ [p]) p.n).1 = A ++ [⟨p.n, p.text, p.text.length⟩] := by
    unfold syncD
    rw [getF_last p h]
    simp only
    exact setF_last p ⟨p.n, p.text, p.text.length⟩ h rfl
  refine ⟨e, ?_⟩
  unfold syncL
  rw [List.getLast?_append]
  simp only [List.getLast?_singleton, Option.some_or]
  exact e

/-- What Append does to blocks that are whole and sure. -/
theorem good_log {room size : Int} {A : List FileP} {all : List Rc} {r : Rc} (h : Log.Good A all) (hs : Sorted A) (he : recErr r = 0) :
    ((logD room size A r).2 ≠ 0 → (logD room size A r).1 = A) ∧ ((logD room size A r).2 = 0 → Log.Good (syncL (logD room size A r).1) (all ++ [r])) := by
  have hl : logD room size A r = putD room size A (codedL r) := by unfold logD; rw [if_neg (by omega)]
  rw [hl]
  have one : textsL [r] = codedL r := by simp [textsL]
  rcases last_split A with rfl | ⟨pre, p, rfl⟩
  · have h : all = [] := h
    subst h
    have hp : putD room size [] (codedL r) = appD room [] 0 (codedL r) := rfl
    rw [hp]
    refine ⟨fun e => app_fail e, fun e => ?_⟩
    rw [app_above (by simp) e]
    have := (sync_snoc (A := []) ⟨0, codedL r, 0⟩ (by simp)).2
    rw [this]
    exact Log.Good.snoc (A := []) (l := []) (p := ⟨0, codedL r, (codedL r).length⟩) one.symm rfl rfl
  · have hlt : ∀ x ∈ pre, x.n < p.n := fun x hx => by
      have := List.pairwise_append.1 hs
      exact this.2.2 x hx p (by simp)
    obtain ⟨gp, gl, rfl, hg, ht, hsu⟩ := good_split h
    have hpp : (⟨p.n, p.text, p.text.length⟩ : FileP) = p := by rw [← hsu]
    unfold putD
    rw [List.getLast?_append]
    simp only [List.getLast?_singleton, Option.some_or]
    split
    · rw [(sync_snoc p hlt).1, hpp]
      have hlt2 : ∀ x ∈ pre ++ [p], x.n < p.n + 1 := fun x hx => by
        rcases List.mem_append.1 hx with hx | hx
        · have := hlt x hx; omega
        · simp at hx; subst hx; omega
      refine ⟨fun e => app_fail e, fun e => ?_⟩
      rw [app_above hlt2 e]
      rw [(sync_snoc (A := pre ++ [p]) ⟨p.n + 1, codedL r, 0⟩ hlt2).2]
      exact Log.Good.snoc (p := ⟨p.n + 1, codedL r, (codedL r).length⟩) one.symm rfl h
    · refine ⟨fun e => app_fail e, fun e => ?_⟩
      rw [app_last hlt e, (sync_snoc ⟨p.n, p.text ++ codedL r, p.sure⟩ hlt).2, List.append_assoc]
      exact Log.Good.snoc (g := gl ++ [r]) (p := ⟨p.n, p.text ++ codedL r, (p.text ++ codedL r).length⟩) (by simp only; rw [textsL_append, ht, one]) rfl hg

/-- All that was done is on the disk, whole and sure. -/
def Whole (N : Nat) (s : Vt) : Prop := ∃ all, Log.Good s.A all ∧ (∀ r ∈ all, recErr r = 0) ∧ runS all = (s.L, s.last) ∧ all.length ≤ N

theorem Whole.new : Whole 0 ⟨[], [], 0⟩ := ⟨[], rfl, (fun _ h => by cases h), rfl, Nat.le_refl _⟩
theorem Whole.mono {N M : Nat} {s : Vt} (h : Whole N s) (hN : N ≤ M) : Whole M s := by
  obtain ⟨all, h1, h2, h3, h4⟩ := h
  exact ⟨all, h1, h2, h3, Nat.le_trans h4 hN⟩

theorem try_err {L : List Rc} {last : Int} {r : Rc} (h : tryD L last r = 0) : recErr r = 0 := by
  unfold tryD at h
  by_cases he : recErr r ≠ 0
  · rw [if_pos he] at h; exact absurd h he
  · omega

theorem runS_snoc (all : List Rc) (r : Rc) : runS (all ++ [r]) = after (runS all).1 (runS all).2 r := by
  unfold runS
  rw [List.foldl_append]
  rfl

theorem Whole.do_ {N : Nat} {room size : Int} {s : Vt} {r : Rc} (h : Whole N s) (hs : Sorted s.A) : Whole (N + 1) (doV room size s r).1 := by
  obtain ⟨all, hg, hk, hr, hN⟩ := h
  unfold doV
  by_cases ht : tryD s.L s.last r ≠ 0
  · rw [if_pos ht]; exact ⟨all, hg, hk, hr, by omega⟩
  · rw [if_neg ht]
    have he := try_err (Classical.not_not.1 ht)
    obtain ⟨h1, h2⟩ := good_log (room := room) (size := size) hg hs he
    by_cases hl : (logD room size s.A r).2 ≠ 0
    · rw [if_pos hl]
      refine ⟨all, ?_, hk, hr, by omega⟩
      show Log.Good (logD room size s.A r).1 all
      rw [h1 hl]; exact hg
    · rw [if_neg hl]
      refine ⟨all ++ [r], h2 (Classical.not_not.1 hl), fun x hx => ?_, ?_, by rw [List.length_append, List.length_singleton]; omega⟩
      · rcases List.mem_append.1 hx with hx | hx
        · exact hk x hx
        · simp at hx; subst hx; exact he
      · rw [runS_snoc, hr]

theorem Whole.crash {N : Nat} {s : Vt} (h : Whole N s) (K : Nat) : crashV K s = s := by
  obtain ⟨all, hg, hk, hr, _⟩ := h
  unfold crashV
  rw [hg.crash, good_open hg hk, hr]

/-- Messages of a store, applied from the start, are this store's. -/
theorem run_front {L : List Rc} {last : Int} {I : Ents} (h : Right L last I) (hd : dist L ≤ 100) : ∀ k, k ≤ L.length → ∃ q, runS (L.take k) = (L.take k, q) ∧ (∀ i r, i < k → L[i]? = some r → r.seq ≤ q) ∧ 0 ≤ q ∧ q ≤ last
  | 0, _ => ⟨0, by simp [runS], (fun i r hi => by omega), Int.le_refl _, h.range.1⟩
  | k + 1, hk => by
    obtain ⟨q, h1, h2, h3, h4⟩ := run_front h hd k (by omega)
    obtain ⟨r, hr⟩ : ∃ r, L[k]? = some r := ⟨_, List.getElem?_eq_getElem (by omega)⟩
    have hm := List.mem_of_getElem? hr
    have hg := h.good r hm
    have hz := Rec.recErr_sizes hg.1
    have htop := h.top r hm
    have hq : q < r.seq := by
      cases k with
      | zero =>
        have : runS (L.take 0) = ([], 0) := by simp [runS]
        rw [this] at h1
        simp only [Prod.mk.injEq] at h1
        omega
      | succ j =>
        obtain ⟨p, hp⟩ : ∃ p, L[j]? = some p := ⟨_, List.getElem?_eq_getElem (by omega)⟩
        have hpr := List.pairwise_iff_getElem.1 h.rise j (j + 1) (by omega) (by omega) (by omega)
        obtain ⟨_, e1⟩ := List.getElem?_eq_some_iff.1 hp
        obtain ⟨_, e2⟩ := List.getElem?_eq_some_iff.1 hr
        rw [e1, e2] at hpr
        have e3 : runS (L.take (j + 1)) = after (runS (L.take j)).1 (runS (L.take j)).2 p := runS_step hp
        rw [h1] at e3
        have htk : L.take (j + 1) ≠ (runS (L.take j)).1 := by
          obtain ⟨q0, h10, _⟩ := run_front h hd j (by omega)
          rw [h10]
          intro e
          have := congrArg List.length e
          simp only [List.length_take] at this
          omega
        unfold after at e3
        split at e3
        · have hp1 := (h.good p (List.mem_of_getElem? hp)).2
          have : q = p.seq := by
            have := congrArg Prod.snd e3
            simp only [lastS, hp1, if_true] at this
            exact this
          omega
        · exact absurd (congrArg Prod.fst e3) htk
    have ht : tryD (L.take k) q r = 0 := by
      unfold tryD
      rw [if_neg (by simp [hg.1]), if_pos hg.2, if_neg (by omega), if_neg]
      rintro (e | ⟨e, e2⟩)
      · have := h.few
        rw [List.length_take] at e
        omega
      · have := Sto.dist_room hr hd e
        omega
    refine ⟨r.seq, ?_, fun i x hi hx => ?_, by omega, htop⟩
    · rw [runS_step hr, h1]
      unfold after
      simp only
      rw [if_pos ht]
      unfold leftS lastS
      rw [if_pos hg.2, if_pos hg.2, List.take_add_one, hr]
      rfl
    · by_cases e : i = k
      · subst e
        rw [hr] at hx
        simp only [Option.some.injEq] at hx
        subst hx
        exact Int.le_refl _
      · have := h2 i x (by omega) hx
        omega

theorem mark_err {n : Int} (h0 : 1 ≤ n) (h1 : n ≤ far) : recErr (markR n) = 0 := by
  unfold recErr markR
  simp only
  rw [if_neg (by unfold far at *; omega), if_neg (by decide), if_neg (by decide)]
  simp

theorem run_all {s : Vt} {I : Ents} (h : Right s.L s.last I) (hd : dist s.L ≤ 100) : runS (allV s) = (s.L, s.last) := by
  obtain ⟨q, h1, h2, h3, h4⟩ := run_front h hd s.L.length (Nat.le_refl _)
  rw [List.take_length] at h1
  unfold allV
  by_cases hl : 0 < s.last
  · rw [if_pos hl, runS_snoc, h1]
    simp only
    have he := mark_err (n := s.last) (by omega) h.range.2
    have ht : tryD s.L q (markR s.last) = 0 := by
      unfold tryD
      rw [if_neg (by simp [he]), if_neg (by show ¬ (4 : Int) = 1; decide), if_neg (by show ¬ (4 : Int) = 2; decide)]
    unfold after
    rw [if_pos ht]
    have e1 : leftS s.L (markR s.last) = s.L := by
      unfold leftS
      rw [if_neg (by show ¬ (4 : Int) = 1; decide), if_neg (by show ¬ (4 : Int) = 2; decide), if_neg (by show ¬ (4 : Int) = 3; decide)]
    have e2 : lastS q (markR s.last) = s.last := by
      unfold lastS
      rw [if_neg (by show ¬ (4 : Int) = 1; decide), if_pos (by show (4 : Int) = 4; rfl)]
      show max q s.last = s.last
      omega
    rw [e1, e2]
  · rw [if_neg hl, List.append_nil, h1]
    have : q = s.last := by have := h.range.1; omega
    rw [this]

theorem errL_zero : ∀ {rs : List Rc}, errL rs = 0 → ∀ r ∈ rs, recErr r = 0
  | [], _, _, h => by cases h
  | a :: l, h, r, hr => by
    unfold errL at h
    by_cases ha : recErr a ≠ 0
    · rw [if_pos ha] at h; exact absurd h ha
    · rw [if_neg ha] at h
      rcases List.mem_cons.1 hr with rfl | hr
      · omega
      · exact errL_zero h r hr

theorem rew_cases (room size : Int) (A : List FileP) (rs : List Rc) : ((rewD room size A rs).2 ≠ 0 ∧ (rewD room size A rs).1 = A) ∨ ((rewD room size A rs).2 = 0 ∧ errL rs = 0 ∧ (rewD room size A rs).1 = [⟨(lastD A).1 + 1, textsL rs, (textsL rs).length⟩]) := by
  unfold rewD
  split
  · rename_i e; exact .inl ⟨e, rfl⟩
  · rename_i e
    split
    · exact .inl ⟨by simp, rfl⟩
    · simp only
      split
      · rename_i e2; exact .inl ⟨e2, rfl⟩
      · exact .inr ⟨rfl, Classical.not_not.1 e, rfl⟩

/-- What is told behind a stop. -/
theorem Whole.told {N : Nat} {s : Vt} (h : Whole N s) (K : Nat) : (openD (crashD s.A K)).1.length ≤ N ∧ ∀ r ∈ (openD (crashD s.A K)).1, recErr r = 0 := by
  obtain ⟨all, hg, hk, hr, hN⟩ := h
  rw [hg.crash, good_open hg hk]
  exact ⟨hN, hk⟩

theorem Whole.dist {N : Nat} {s : Vt} (h : Whole N s) : dist s.L ≤ 100 := by
  obtain ⟨all, _, _, hr, _⟩ := h
  have := Sto.dist_runS all
  rw [hr] at this
  exact this

theorem all_len {s : Vt} {I : Ents} (hR : Right s.L s.last I) : (allV s).length ≤ 201 := by
  have := hR.few
  unfold allV
  split
  · rw [List.length_append, List.length_singleton]; omega
  · rw [List.append_nil]; omega

theorem Whole.comp {N : Nat} {room size : Int} {s : Vt} {I : Ents} (h : Whole N s) (hR : Right s.L s.last I) : Whole (max N 201) (compV room size s).1 := by
  have hd := h.dist
  obtain ⟨all, hg, hk, hr, hN⟩ := h
  rcases rew_cases room size s.A (allV s) with ⟨_, e⟩ | ⟨_, e1, e⟩
  · refine ⟨all, ?_, hk, hr, by omega⟩
    show Log.Good (rewD room size s.A (allV s)).1 all
    rw [e]; exact hg
  · refine ⟨allV s, ?_, errL_zero e1, run_all hR hd, by have := all_len hR; omega⟩
    show Log.Good (rewD room size s.A (allV s)).1 (allV s)
    rw [e]
    exact Log.Good.snoc (A := []) (l := []) (p := ⟨(lastD s.A).1 + 1, textsL (allV s), (textsL (allV s)).length⟩) rfl rfl rfl

end Go.Proofs.YtidacfhdhdnidaaGreatDoor.Vlt

namespace Go.Proofs.YtidacfhdhdnidaaGreatDoor.Vlt
open Dsk
open Sto (noteR)

def v0 : Vt := ⟨[], [], 0⟩
def v1 : Vt := (doV 100 100 v0 (noteR 1)).1
def u1 : Vt := (compV 100 100 v0).1
def u2 : Vt := (doV 100 100 u1 (noteR 1)).1
def u3 : Vt := (compV 100 100 u2).1
theorem ex_c4 : total u3.A = 26 := by decide +kernel
#print axioms ex_c4
end Go.Proofs.YtidacfhdhdnidaaGreatDoor.Vlt
