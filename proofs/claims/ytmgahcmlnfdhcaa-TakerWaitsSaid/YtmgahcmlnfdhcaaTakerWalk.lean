/- The law TakerWaits, walked: it returns true. -/
import Derived.Test.YtmgahcmlnfdhcaaChecked
import Derived.Test.YtmgahcmlnfdhcaaFrame
namespace Go.Proofs.Ytmgahcmlnfdhcaa
open Go.RowKit

/-- A slice of ints that came in, not empty: n of them. -/
def IntsAt (w : World) (b off n : Nat) (z : Nat → Int) : Prop := ∀ i, i < n → w.cell? ⟨b, off + i, none⟩ = some (.int .i64 (z i))

theorem IntsAt.below {w w' : World} {b off n : Nat} {z : Nat → Int} (h : IntsAt w b off n z) (hb : Below w.heap.size w w') : IntsAt w' b off n z := fun i hi =>
  (hb.cell (World.block_lt_of_cell? w _ (h i hi))).trans (h i hi)

/-- A call that answers a number from 0 on. -/
def NotNeg (w : World) (e : Ending) (w' : World) : Prop := ∃ n : Int, 0 ≤ n ∧ e = .returned (.int .i64 n) ∧ w = w'

set_option maxRecDepth 100000 in
theorem index_ints (b off cap n j : Nat) (z : Nat → Int) (w : World) (hz : IntsAt w b off n z) (hl : n ≤ maxLen) (hj : j < n) :
    Calls Try.prog 34 #[.slice (some ⟨b, off, none⟩) n cap, .int .i64 (z j)] w (NotNeg w) := by
  unfold maxLen at hl
  have HZ := Lib.hid hz; clear hz
  obtain ⟨x, hx⟩ : ∃ x, z j = x := ⟨_, rfl⟩
  rw [hx]
  have HX := Lib.hid hx; clear hx
  go_enter Try.func34, Try.ntmps34
  go_wp2
  go_loop [8] (fun i => ∃ k : Nat, k ≤ j ∧ i = .int .i64 k) (fun i => j - (intOf i).toNat)
  case atStart => exact ⟨0, Nat.zero_le _, rfl⟩
  case round =>
    obtain ⟨k, hk, rfl⟩ := hrel
    have hc := HZ.out k (by omega)
    have hk' : k < n := by omega
    by_cases he : (x == z k) = true
    · go_wp2
      go_ret
      exact ⟨k, by omega, rfl, rfl⟩
    · have he' : (x == z k) = false := by simpa using he
      have hne : k ≠ j := by
        intro h; subst h; rw [HX.out] at he; simp at he
      have HE := Lib.hid hne
      clear he hne
      go_wp2
      refine ⟨⟨k + 1, ?_, by go_num⟩, ?_⟩
      · have := HE.out; omega
      · have := HE.out; simp [intOf]; omega

set_option maxRecDepth 100000 in
theorem contains_ints (b off cap n j : Nat) (z : Nat → Int) (w : World) (hz : IntsAt w b off n z) (hl : n ≤ maxLen) (hj : j < n) :
    Calls Try.prog 14 #[.slice (some ⟨b, off, none⟩) n cap, .int .i64 (z j)] w fun e w' => e = .returned (.bool true) ∧ w = w' := by
  have H := Lib.hid (index_ints b off cap n j z w hz hl hj)
  generalize z j = x at *
  clear hz
  go_enter Try.func14, Try.ntmps14
  go_wp2_with fail
  refine H.out.mono ?_
  rintro e w' ⟨m, hm, rfl, rfl⟩
  go_wp2
  go_ret
  exact ⟨rfl, rfl⟩

/-- A taker's fields, as a value. -/
abbrev takerV (nm fl : ByteArray) (fr st ak wt : Int) (bo : Value) (mo pe : Int) (pu : Bool) : Value :=
  .agg #[.string nm, .string fl, .int .i64 fr, .int .i64 st, .int .i64 ak, .int .i64 wt, bo, .int .i64 mo, .int .i64 pe, .bool pu]

theorem wait_none (nm fl : ByteArray) (fr st ak wt : Int) (ao : Option Addr) (cap : Nat) (mo pe : Int) (pu : Bool) (nth : Int) (w : World) :
    Calls Try.prog 13 #[takerV nm fl fr st ak wt (.slice ao 0 cap) mo pe pu, .int .i64 nth] w fun e w' => e = .returned (.int .i64 wt) ∧ Below w.heap.size w w' := by
  go_enter Try.func13, Try.ntmps13
  go_wp2
  go_ret
  exact ⟨rfl, (Below.refl _ _).alloc (Nat.le_refl _) _⟩

set_option maxRecDepth 100000 in
theorem wait_some (nm fl : ByteArray) (fr st ak wt : Int) (b off cap n j : Nat) (z : Nat → Int) (mo pe : Int) (pu : Bool) (nth : Int) (w : World)
    (hz : IntsAt w b off n z) (hl : n ≤ maxLen) (hn : 0 < n) (hj : min (max nth 1) n = j + 1) :
    Calls Try.prog 13 #[takerV nm fl fr st ak wt (.slice (some ⟨b, off, none⟩) n cap) mo pe pu, .int .i64 nth] w fun e w' => e = .returned (.int .i64 (z j)) ∧ Below w.heap.size w w' := by
  unfold maxLen at hl
  have hjn : j < n := by omega
  have hc := hz j hjn
  have hlt := World.block_lt_of_cell? w _ hc
  replace hlt : b < w.heap.size := hlt
  have hz0 : ((n : Int) == 0) = false := by simp; omega
  by_cases c1 : nth ≤ 1
  · have h0 : j = 0 := by omega
    subst h0
    rw [Nat.add_zero] at hc
    clear hj
    by_cases c2 : nth < 1
    all_goals
      go_enter Try.func13, Try.ntmps13
      go_wp2
      go_ret
      exact ⟨rfl, (Below.refl _ _).alloc (Nat.le_refl _) _⟩
  · by_cases c3 : nth < (n : Int)
    · obtain rfl : nth = (j : Int) + 1 := by omega
      clear hj
      go_enter Try.func13, Try.ntmps13
      go_wp2
      go_ret
      exact ⟨rfl, (Below.refl _ _).alloc (Nat.le_refl _) _⟩
    · obtain rfl : n = j + 1 := by omega
      clear hj
      by_cases c4 : nth = (j : Int) + 1
      · subst c4
        go_enter Try.func13, Try.ntmps13
        go_wp2
        go_ret
        exact ⟨rfl, (Below.refl _ _).alloc (Nat.le_refl _) _⟩
      · have c5 : (j : Int) + 1 < nth := by omega
        clear c4
        go_enter Try.func13, Try.ntmps13
        go_wp2
        go_ret
        exact ⟨rfl, (Below.refl _ _).alloc (Nat.le_refl _) _⟩

theorem wait_known (w : World) (g : Nat) (hg : g = w.heap.size) : Calls Try.prog 13 #[takerV ⟨#[]⟩ ⟨#[]⟩ 0 0 0 0 (.slice (some ⟨g, 0, none⟩) 2 2) 0 0 false, .int .i64 7] (w.alloc (.cells #[.int .i64 3, .int .i64 5] 3)) fun e w' =>
    e = .returned (.int .i64 5) ∧ Below w.heap.size w w' := by
  subst hg
  have hz : IntsAt (w.alloc (.cells #[.int .i64 3, .int .i64 5] 3)) w.heap.size 0 2 (fun i => if i = 0 then 3 else 5) := by
    intro i hi
    rw [World.cell?_alloc_at _ _ _ _ rfl]
    rcases i with _ | _ | i <;> first | rfl | omega
  refine (wait_some ⟨#[]⟩ ⟨#[]⟩ 0 0 0 0 w.heap.size 0 2 2 1 _ 0 0 false 7 _ hz (by decide) (by omega) (by decide)).mono ?_
  rintro e w' ⟨rfl, hb⟩
  exact ⟨rfl, ((Below.refl _ _).alloc (Nat.le_refl _) _).trans (hb.mono (by simp))⟩

/-- A box that holds a taker. -/
def Boxed (w : World) (g : Nat) (nm fl : ByteArray) (fr st ak wt : Int) (bo : Value) (mo pe : Int) (pu : Bool) : Prop :=
  w.heap[g]? = some (.cells #[.string nm, .string fl, .int .i64 fr, .int .i64 st, .int .i64 ak, .int .i64 wt, bo, .int .i64 mo, .int .i64 pe, .bool pu] 32)

theorem Boxed.cell {w : World} {g : Nat} {nm fl : ByteArray} {fr st ak wt : Int} {bo : Value} {mo pe : Int} {pu : Bool} (h : Boxed w g nm fl fr st ak wt bo mo pe pu) (i : Nat) :
    w.cell? ⟨g, i, none⟩ = #[Value.string nm, .string fl, .int .i64 fr, .int .i64 st, .int .i64 ak, .int .i64 wt, bo, .int .i64 mo, .int .i64 pe, .bool pu][i]? := by
  unfold World.cell?
  have h' : w.heap[g]? = _ := h
  simp only [h']
  rfl

theorem Boxed.below {w w' : World} {g : Nat} {nm fl : ByteArray} {fr st ak wt : Int} {bo : Value} {mo pe : Int} {pu : Bool} (h : Boxed w g nm fl fr st ak wt bo mo pe pu) {B : Nat} (hg : g < B) (hb : Below B w w') :
    Boxed w' g nm fl fr st ak wt bo mo pe pu := (hb.block g hg).trans h

set_option maxRecDepth 100000 in
theorem waits_none (nm fl : ByteArray) (fr st ak wt : Int) (ao : Option Addr) (cap : Nat) (mo pe : Int) (pu : Bool) (nth : Int) (w : World) :
    Calls Try.prog 5 #[takerV nm fl fr st ak wt (.slice ao 0 cap) mo pe pu, .int .i64 nth] w fun e w' => e = .returned (.bool true) ∧ Below w.heap.size w w' := by
  go_enter Try.func5, Try.ntmps5
  go_wp2_with fail
  refine (wait_known _ _ (by simp)).mono ?_
  rintro e w1 ⟨rfl, hb1⟩
  have hx : Boxed (w.alloc (.cells #[.string nm, .string fl, .int .i64 fr, .int .i64 st, .int .i64 ak, .int .i64 wt, .slice ao 0 cap, .int .i64 mo, .int .i64 pe, .bool pu] 32)) w.heap.size nm fl fr st ak wt (.slice ao 0 cap) mo pe pu := heap_alloc_new _ _
  have hx1 := hx.below (by simp) hb1
  have c0 := hx1.cell 0; have c1 := hx1.cell 1; have c2 := hx1.cell 2; have c3 := hx1.cell 3; have c4 := hx1.cell 4; have c5 := hx1.cell 5; have c6 := hx1.cell 6; have c7 := hx1.cell 7; have c8 := hx1.cell 8; have c9 := hx1.cell 9
  have HX := Lib.hid hx1
  clear hx hx1
  have hB1 : Below w.heap.size w w1 := ((Below.refl _ _).alloc (Nat.le_refl _) _).trans (hb1.mono (by simp))
  have hz := hb1.size
  simp at hz
  clear hb1
  go_wp2_with fail
  refine (wait_none _ _ _ _ _ _ _ _ _ _ _ _ _).mono ?_
  rintro e w2 ⟨rfl, hb2⟩
  clear c0 c1 c2 c3 c4 c5 c6 c7 c8 c9
  have hx2 := HX.out.below hz hb2
  have c5 := hx2.cell 5; have c6 := hx2.cell 6
  clear hx2
  have hB2 := hB1.trans (hb2.mono (by omega))
  clear hb2
  go_wp2
  go_ret
  exact ⟨rfl, hB2⟩

set_option maxRecDepth 100000 in
theorem waits_some (nm fl : ByteArray) (fr st ak wt : Int) (b off cap n : Nat) (z : Nat → Int) (mo pe : Int) (pu : Bool) (nth : Int) (w : World)
    (hz0 : IntsAt w b off n z) (hl : n ≤ maxLen) (hn : 0 < n) :
    Calls Try.prog 5 #[takerV nm fl fr st ak wt (.slice (some ⟨b, off, none⟩) n cap) mo pe pu, .int .i64 nth] w fun e w' => e = .returned (.bool true) ∧ Below w.heap.size w w' := by
  obtain ⟨j, hj⟩ : ∃ j : Nat, min (max nth 1) (n : Int) = j + 1 := ⟨(min (max nth 1) (n : Int) - 1).toNat, by omega⟩
  have hjn : j < n := by omega
  have HJ := Lib.hid hj; clear hj
  have HZ := Lib.hid hz0; clear hz0
  have hl' := hl
  unfold maxLen at hl'
  have hblt : b < w.heap.size := World.block_lt_of_cell? w _ (HZ.out 0 hn)
  have hn0 : ((n : Int) == 0) = false := by simp; omega
  have HL := Lib.hid hl; clear hl
  go_enter Try.func5, Try.ntmps5
  go_wp2_with fail
  refine (wait_known _ _ (by simp)).mono ?_
  rintro e w1 ⟨rfl, hb1⟩
  have hx : Boxed (w.alloc (.cells #[.string nm, .string fl, .int .i64 fr, .int .i64 st, .int .i64 ak, .int .i64 wt, .slice (some ⟨b, off, none⟩) n cap, .int .i64 mo, .int .i64 pe, .bool pu] 32)) w.heap.size nm fl fr st ak wt (.slice (some ⟨b, off, none⟩) n cap) mo pe pu := heap_alloc_new _ _
  have hx1 := hx.below (by simp) hb1
  have c0 := hx1.cell 0; have c1 := hx1.cell 1; have c2 := hx1.cell 2; have c3 := hx1.cell 3; have c4 := hx1.cell 4; have c5 := hx1.cell 5; have c6 := hx1.cell 6; have c7 := hx1.cell 7; have c8 := hx1.cell 8; have c9 := hx1.cell 9
  have HX := Lib.hid hx1
  clear hx hx1
  have hB1 : Below w.heap.size w w1 := ((Below.refl _ _).alloc (Nat.le_refl _) _).trans (hb1.mono (by simp))
  have hz := hb1.size
  simp at hz
  clear hb1
  go_wp2_with fail
  refine (wait_some _ _ _ _ _ _ _ _ _ _ j z _ _ _ _ _ (HZ.out.below hB1) HL.out hn HJ.out).mono ?_
  rintro e w2 ⟨rfl, hb2⟩
  clear c0 c1 c2 c3 c4 c5 c6 c7 c8 c9
  have hx2 := HX.out.below hz hb2
  have c5 := hx2.cell 5; have c6 := hx2.cell 6
  clear hx2
  have hB2 := hB1.trans (hb2.mono (by omega))
  have hZ2 := HZ.out.below hB2
  have e0 := hZ2 0 hn
  have e1 := hZ2 (n - 1) (by omega)
  rw [Nat.add_zero] at e0
  have H2 := Lib.hid hZ2; clear hZ2 hb2
  go_wp2_with fail
  refine (contains_ints _ _ _ _ j z _ H2.out HL.out hjn).mono ?_
  rintro e w' ⟨rfl, rfl⟩
  have j0 : nth ≤ 1 → (z j == z 0) = true := fun h => by
    have := HJ.out
    have : j = 0 := by omega
    rw [this]; simp
  have j1 : (n : Int) ≤ nth → (z j == z (n - 1)) = true := fun h => by
    have := HJ.out
    have : j = n - 1 := by omega
    rw [this]; simp
  have J0 := Lib.hid j0; have J1 := Lib.hid j1; clear j0 j1
  by_cases k0 : nth ≤ 1
  · have j0 := J0.out k0
    by_cases k1 : (n : Int) ≤ nth
    · have j1 := J1.out k1
      go_wp2
      go_ret
      exact ⟨rfl, hB2⟩
    · go_wp2
      go_ret
      exact ⟨rfl, hB2⟩
  · by_cases k1 : (n : Int) ≤ nth
    · have j1 := J1.out k1
      go_wp2
      go_ret
      exact ⟨rfl, hB2⟩
    · go_wp2
      go_ret
      exact ⟨rfl, hB2⟩

theorem list10 {α : Type} {l : List α} (h : l.length = 10) : ∃ a b c d e f g i j k, l = [a, b, c, d, e, f, g, i, j, k] := by
  match l, h with
  | [a, b, c, d, e, f, g, i, j, k], _ => exact ⟨a, b, c, d, e, f, g, i, j, k, rfl⟩

theorem cells_taker : Try.prog.cellsOf 32 = 10 := by kernel_rfl
theorem cells_int : Try.prog.cellsOf 3 = 1 := by kernel_rfl
theorem cells_str : Try.prog.cellsOf 9 = 1 := by kernel_rfl
theorem cells_ints : Try.prog.cellsOf 30 = 1 := by kernel_rfl
theorem cells_bool : Try.prog.cellsOf 4 = 1 := by kernel_rfl

open Go.WideShapes Go.ChangeShapes in
theorem takerWaits_calls {H : Type} (enc : TypeId × Value → H) (W : World) (base : Nat) (v0 v1 : Value) (d0 d1 : DataW H) (p0 p1 : List MemPlace)
    (h0 : DataW.Trod enc Try.prog W 0 (fun _ => true) true 32 v0 d0 p0) (h1 : DataW.Trod enc Try.prog W 0 (fun _ => true) true 3 v1 d1 p1)
    (o0 : Value.okWide Try.prog W .any base 32 v0) (o1 : Value.okWide Try.prog W .any base 3 v1)
    (_hsz : (DataW.weightsEach Try.prog ([32, 3] ++ Rows.takerWaitsSpec.plain.varTypes Try.prog) ([d0, d1] ++ [])).all (· ≤ reachBytes) = true) :
    Calls Try.prog 5 #[v0, v1] W fun e w' => e = .returned (.bool true) ∧ Below W.heap.size W w' := by
  obtain ⟨nth, rfl, _, _, _⟩ := open_int Try.underlying3 o1 h1
  obtain ⟨cs, rfl, hcs⟩ := okWide_struct Try.underlying32 o0
  obtain ⟨fuel, hf⟩ := h0
  obtain ⟨n, hlen, xs, _, hm⟩ := rd_struct Try.underlying32 hf
  obtain ⟨_, hg⟩ := mapM_get hm
  obtain ⟨c0, c1, c2, c3, c4, c5, c6, c7, c8, c9, hc⟩ := list10 (l := cs.toList) (by rw [← cells_taker]; simpa using hcs)
  obtain rfl : cs = #[c0, c1, c2, c3, c4, c5, c6, c7, c8, c9] := by cases cs; simp_all
  have g := fun i f h => hg i f h
  obtain ⟨_, _, q0⟩ := g 0 _ rfl
  obtain ⟨_, _, q1⟩ := g 1 _ rfl
  obtain ⟨_, _, q2⟩ := g 2 _ rfl
  obtain ⟨_, _, q3⟩ := g 3 _ rfl
  obtain ⟨_, _, q4⟩ := g 4 _ rfl
  obtain ⟨_, _, q5⟩ := g 5 _ rfl
  obtain ⟨_, _, q6⟩ := g 6 _ rfl
  obtain ⟨_, _, q7⟩ := g 7 _ rfl
  obtain ⟨_, _, q8⟩ := g 8 _ rfl
  obtain ⟨_, _, q9⟩ := g 9 _ rfl
  simp only [cells_int, cells_str, cells_ints, cells_bool, Value.cells] at q0 q1 q2 q3 q4 q5 q6 q7 q8 q9
  clear hg hm hf hlen hc g
  obtain ⟨nm, e0, _⟩ := rd_string Try.underlying9 q0
  obtain ⟨fl, e1, _⟩ := rd_string Try.underlying9 q1
  obtain ⟨fr, e2, _⟩ := rd_int Try.underlying3 q2
  obtain ⟨st, e3, _⟩ := rd_int Try.underlying3 q3
  obtain ⟨ak, e4, _⟩ := rd_int Try.underlying3 q4
  obtain ⟨wt, e5, _⟩ := rd_int Try.underlying3 q5
  obtain ⟨mo, e7, _⟩ := rd_int Try.underlying3 q7
  obtain ⟨pe, e8, _⟩ := rd_int Try.underlying3 q8
  obtain ⟨pu, e9⟩ := rd_bool Try.underlying4 q9
  simp at e0 e1 e2 e3 e4 e5 e7 e8 e9
  subst e0 e1 e2 e3 e4 e5 e7 e8 e9
  rcases rd_slice Try.underlying30 q6 with ⟨e6, _⟩ | ⟨a, len, cap, m, e6, hlc, hcm, elems, rest, _, _, _, he, _⟩
  · simp at e6
    subst e6
    exact waits_none _ _ _ _ _ _ _ _ _ _ _ _ W
  · simp at e6
    subst e6
    by_cases hz : len = 0
    · subst hz
      exact waits_none _ _ _ _ _ _ _ _ _ _ _ _ W
    · rw [cells_int] at he
      have hcell : ∀ i, i < len → ∃ x : Int, W.cell? (a.add i) = some (.int .i64 x) := by
        intro i hi
        obtain ⟨z, _, h2⟩ := he i hi
        rw [Option.bind_eq_some_iff] at h2
        obtain ⟨cs, h3, h4⟩ := h2
        obtain ⟨x, rfl, _⟩ := rd_int Try.underlying3 h4
        refine ⟨x, ?_⟩
        unfold World.cells? at h3
        rw [if_pos (Nat.zero_le _)] at h3
        obtain ⟨_, h5⟩ := mapM_get h3
        obtain ⟨y, h6, h7⟩ := h5 0 0 rfl
        simp at h6
        subst h6
        rw [Nat.mul_one] at h7
        simpa [Addr.add] using h7
      have ha : a = ⟨a.block, a.off, none⟩ := by
        obtain ⟨x, hx⟩ := hcell 0 (by omega)
        have h0 : a.add 0 = a := rfl
        rw [h0] at hx
        cases a with
        | mk b o s =>
          cases s with
          | none => rfl
          | some s =>
            unfold World.cell? at hx
            simp only at hx
            split at hx <;> simp at hx
      rw [ha]
      refine waits_some _ _ _ _ _ _ a.block a.off cap len (fun i => if h : i < len then (hcell i h).choose else 0) _ _ _ _ W ?_ (Nat.le_trans hlc hcm) (by omega)
      intro i hi
      show W.cell? _ = some (.int .i64 (if h : i < len then (hcell i h).choose else 0))
      rw [dif_pos hi]
      have hadd : a.add i = ⟨a.block, a.off + i, none⟩ := (congrArg (Addr.add · i) ha).trans (Addr.add_lit _ _ _)
      rw [← hadd]
      exact (hcell i hi).choose_spec
end Go.Proofs.Ytmgahcmlnfdhcaa
