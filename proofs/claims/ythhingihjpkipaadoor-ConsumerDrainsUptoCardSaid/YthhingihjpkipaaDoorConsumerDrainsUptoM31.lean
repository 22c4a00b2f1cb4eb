/- Parts of the proof, joined: A plan among the parameters, opened.; A consumer's plan among the parameters, opened: a TakerP.; A slice of records among the parameters, opened.; ConsumerDrains, from what it is handed. -/
import Derived.Test.YthhingihjpkipaaDoorConsumerDrainsUptoM30
import Derived.ChangeSlices
import Derived.ChangeMaps5
namespace Go.Proofs.YthhingihjpkipaaDoor.Subj
open Go.RowKit

theorem list10 {α : Type} {l : List α} (h : l.length = 10) : ∃ a b c d e f g i j k, l = [a, b, c, d, e, f, g, i, j, k] := by
  match l, h with
  | [a, b, c, d, e, f, g, i, j, k], _ => exact ⟨a, b, c, d, e, f, g, i, j, k, rfl⟩

theorem cells_ints : Tryd.prog.cellsOf 3 = 1 := by kernel_rfl
theorem cells_strs : Tryd.prog.cellsOf 9 = 1 := by kernel_rfl
theorem cells_slice : Tryd.prog.cellsOf 125 = 1 := by kernel_rfl

theorem addr_flat {w : World} {a : Addr} {v : Value} (h : w.cell? a = some v) : a = ⟨a.block, a.off, none⟩ := by
  cases a with
  | mk b o s =>
    cases s with
    | none => rfl
    | some s =>
      unfold World.cell? at h
      simp only at h
      split at h <;> simp at h

/-- Cells side by side, one by one. -/
theorem cells_at {w : World} {base : Nat} {a : Addr} {n : Nat} {cs : List Value} (h : w.cells? base a n = some cs) : cs.length = n ∧ ∀ i, i < n → w.cell? (a.add i) = cs[i]? := by
  unfold World.cells? at h
  split at h
  · obtain ⟨h1, h2⟩ := mapM_get h
    refine ⟨by simpa using h1, fun i hi => ?_⟩
    obtain ⟨y, h3, h4⟩ := h2 i i (by simp [hi])
    rw [h3]
    exact h4
  · cases h

theorem bulk_all {H : Type} : ∀ {l : List (DataW H)}, (∀ d ∈ l, 1 ≤ Rows.uptoBulk d) → l.length ≤ Rows.uptoBulkAll l
  | [], _ => Nat.zero_le _
  | d :: l, h => by
    have h1 := h d (by simp)
    have h2 := bulk_all (l := l) fun x hx => h x (List.mem_cons_of_mem _ hx)
    simp only [Rows.uptoBulkAll, List.length_cons]; omega

theorem bulk_text {H : Type} (s : ByteArray) : Rows.uptoBulk (DataW.lit (H := H) (.string s.data.toList)) = s.size + 1 := by
  simp only [Rows.uptoBulk, Array.length_toList]; rfl

set_option maxRecDepth 100000 in
open Go.WideShapes Go.ChangeShapes in
/-- A slice of texts, opened. -/
theorem open_texts {H : Type} {enc : TypeId × Value → H} {W : World} {fuel : Nat} {held : Bool} {cs : List Value} {y : DataW H × List MemPlace}
    (h : DataW.trod enc Tryd.prog W 0 (fun _ => true) held fuel 125 cs = some y) :
    ∃ ao n cap fs, cs = [.slice ao n cap] ∧ fs.length = n ∧ Strs W (.slice ao n cap) fs ∧ (∀ f ∈ fs, f.length ≤ Rows.uptoBulk y.1) ∧ n ≤ Rows.uptoBulk y.1 := by
  rcases rd_slice Tryd.underlying125 h with ⟨e0, ey⟩ | ⟨a, n, cap, m, e0, hlc, hcm, elems, rest, ey, hel, _, he, _⟩
  · exact ⟨none, 0, 0, [], e0, rfl, ⟨none, 0, rfl, Nat.le_refl _, fun h => absurd rfl h⟩, by simp, Nat.zero_le _⟩
  · rw [cells_strs] at he
    have hall : ∀ d ∈ elems.map (·.1), Rows.uptoBulk d ≤ Rows.uptoBulk y.1 := by
      intro d hd
      rw [ey]
      have := bulk_part hd
      simp only [Rows.uptoBulk]; omega
    have hcell : ∀ i, i < n → ∃ s : ByteArray, W.cell? (a.add (i * 1)) = some (.string s) ∧ s.size + 1 ≤ Rows.uptoBulk y.1 ∧ (elems[i]?.map (·.1)) = some (.lit (.string s.data.toList)) := by
      intro i hi
      obtain ⟨z, hz, h2⟩ := he i hi
      rw [Option.bind_eq_some_iff] at h2
      obtain ⟨cs, h3, h4⟩ := h2
      obtain ⟨s, rfl, _, h5⟩ := rd_string Tryd.underlying9 h4
      obtain ⟨_, h6⟩ := cells_at h3
      refine ⟨s, h6 0 (by omega), ?_, by rw [hz, ← h5]; rfl⟩
      have h7 := hall z.1 (List.mem_map.2 ⟨z, List.mem_of_getElem? hz, rfl⟩)
      rw [h5, bulk_text] at h7
      exact h7
    have hpos : ∀ d ∈ elems.map (·.1), 1 ≤ Rows.uptoBulk d := by
      intro d hd
      obtain ⟨z, hz, rfl⟩ := List.mem_map.1 hd
      obtain ⟨i, hi, rfl⟩ := List.getElem_of_mem hz
      obtain ⟨s, _, _, h3⟩ := hcell i (by omega)
      rw [List.getElem?_eq_getElem hi] at h3
      simp only [Option.map_some, Option.some.injEq] at h3
      rw [h3, bulk_text]; omega
    have hn : n ≤ Rows.uptoBulk y.1 := by
      have h1 := bulk_all hpos
      rw [List.length_map, hel] at h1
      rw [ey]
      simp only [Rows.uptoBulk]; omega
    refine ⟨some a, n, cap, (List.range n).map (fun i => if h : i < n then (hcell i h).choose.data.toList else []), e0, by simp, ⟨some a, cap, by simp, by simpa using hlc, fun hne => ?_⟩, ?_, hn⟩
    · have hnp : 0 < n := by
        rcases Nat.eq_zero_or_pos n with e | e
        · exact absurd (by simp [e]) hne
        · exact e
      have ha : a = ⟨a.block, a.off, none⟩ := by
        obtain ⟨s, hs, _⟩ := hcell 0 hnp
        have h0 : a.add (0 * 1) = a := by rw [Nat.zero_mul]; rfl
        rw [h0] at hs
        exact addr_flat hs
      refine ⟨a.block, a.off, by rw [← ha], fun i hi => ?_⟩
      have hi' : i < n := by simpa using hi
      have h1 := (hcell i hi').choose_spec.1
      have h2 : strAt ((List.range n).map (fun i => if h : i < n then (hcell i h).choose.data.toList else [])) i = (hcell i hi').choose := by
        unfold strAt
        simp [List.getD, hi']
      rw [h2]
      generalize (hcell i hi').choose = z at h1 ⊢
      rw [ha, Nat.mul_one, Addr.add_lit] at h1
      exact h1
    · intro f hf
      obtain ⟨i, hi, rfl⟩ := List.mem_map.1 hf
      have hi' : i < n := by simpa using hi
      have h2 := (hcell i hi').choose_spec.2.1
      rw [dif_pos hi']
      simp only [Array.length_toList]
      show (hcell i hi').choose.size ≤ _
      omega

/-- A plan, opened. -/
def PlanArg (W : World) (v0 : Value) (name : ByteArray) (ao : Option Addr) (n cap : Nat) (fs : List Tok) (x0 x1 x2 x3 x4 x5 x6 x7 : Int) : Prop :=
  v0 = .agg #[.string name, .slice ao n cap, .int .i64 x0, .int .i64 x1, .int .i64 x2, .int .i64 x3, .int .i64 x4, .int .i64 x5, .int .i64 x6, .int .i64 x7] ∧ fs.length = n ∧ Strs W (.slice ao n cap) fs ∧ Small fs ∧ n ≤ 1048576 ∧ name.size ≤ 1048576

end Go.Proofs.YthhingihjpkipaaDoor.Subj

namespace Go.Proofs.YthhingihjpkipaaDoor.Con
open Go.RowKit Go.ChangeMaps Go.ChangeAt Subj

theorem cells_taker : Tryd.prog.cellsOf 36 = 10 := by kernel_rfl
theorem cells_sliceI : Tryd.prog.cellsOf 34 = 1 := by kernel_rfl
theorem cells_boolT : Tryd.prog.cellsOf 4 = 1 := by kernel_rfl

theorem bulk_int {H : Type} (k : IntKind) (n : Int) : Rows.uptoBulk (DataW.lit (H := H) (.int k n)) = 1 := by simp only [Rows.uptoBulk]

set_option maxRecDepth 100000 in
open Go.WideShapes Go.ChangeShapes in
theorem open_intsT {H : Type} {enc : TypeId × Value → H} {W : World} {fuel : Nat} {cs : List Value} {y : DataW H × List MemPlace}
    (h : DataW.trod enc Tryd.prog W 0 (fun _ => true) true fuel 34 cs = some y) (hk : Rows.uptoBulk y.1 ≤ 1048576) :
    ∃ ao n cap zs, cs = [.slice ao n cap] ∧ zs.length = n ∧ Ints W (.slice ao n cap) zs ∧ n ≤ 1048576 := by
  rcases rd_slice Tryd.underlying34 h with ⟨e0, ey⟩ | ⟨a, n, cap, m, e0, hlc, hcm, elems, rest, ey, hel, _, he, _⟩
  · exact ⟨none, 0, 0, [], e0, rfl, ⟨none, 0, rfl, Nat.le_refl _, fun h => absurd rfl h⟩, by omega⟩
  · rw [cells_ints] at he
    have hcell : ∀ i, i < n → ∃ z : Int, W.cell? (a.add (i * 1)) = some (.int .i64 z) ∧ ∃ d, elems[i]? = some d ∧ 1 ≤ Rows.uptoBulk d.1 := by
      intro i hi
      obtain ⟨z, hz, h2⟩ := he i hi
      rw [Option.bind_eq_some_iff] at h2
      obtain ⟨cs, h3, h4⟩ := h2
      have h7 : 1 ≤ Rows.uptoBulk z.1 := by
        cases z.1 with
        | lit l => cases l <;> simp only [Rows.uptoBulk] <;> omega
        | _ => simp only [Rows.uptoBulk] <;> omega
      obtain ⟨v, rfl, _⟩ := rd_int Tryd.underlying3 h4
      obtain ⟨_, h6⟩ := cells_at h3
      exact ⟨v, h6 0 (by omega), z, hz, h7⟩
    have hpos : ∀ d ∈ elems.map (·.1), 1 ≤ Rows.uptoBulk d := by
      intro d hd
      obtain ⟨z, hz, rfl⟩ := List.mem_map.1 hd
      obtain ⟨i, hi, rfl⟩ := List.getElem_of_mem hz
      obtain ⟨_, _, d, h3, h4⟩ := hcell i (by omega)
      rw [List.getElem?_eq_getElem hi, Option.some.injEq] at h3
      rw [h3]; exact h4
    have hn : n ≤ 1048576 := by
      have h1 := bulk_all hpos
      rw [List.length_map, hel] at h1
      rw [ey] at hk
      simp only [Rows.uptoBulk] at hk; omega
    refine ⟨some a, n, cap, (List.range n).map (fun i => if h : i < n then (hcell i h).choose else 0), e0, by simp, ⟨some a, cap, by simp, by simpa using hlc, fun hne => ?_⟩, hn⟩
    have hnp : 0 < n := by
      rcases Nat.eq_zero_or_pos n with e | e
      · exact absurd (by simp [e]) hne
      · exact e
    have ha : a = ⟨a.block, a.off, none⟩ := by
      obtain ⟨s, hs, _⟩ := hcell 0 hnp
      have h0 : a.add (0 * 1) = a := by rw [Nat.zero_mul]; rfl
      rw [h0] at hs
      exact addr_flat hs
    refine ⟨a.block, a.off, by rw [← ha], fun i hi => ?_⟩
    have hi' : i < n := by simpa using hi
    have h1 := (hcell i hi').choose_spec.1
    have h2 : ((List.range n).map (fun i => if h : i < n then (hcell i h).choose else 0)).getD i 0 = (hcell i hi').choose := by
      simp [List.getD, hi']
    rw [h2]
    generalize (hcell i hi').choose = z at h1 ⊢
    rw [ha, Nat.mul_one, Addr.add_lit] at h1
    exact h1

set_option maxRecDepth 100000 in
open Go.WideShapes Go.ChangeShapes in
theorem open_takerT {H : Type} {enc : TypeId × Value → H} {W : World} {base : Nat} {v0 : Value} {d0 : DataW H} {p0 : List MemPlace}
    (h0 : DataW.Trod enc Tryd.prog W 0 (fun _ => true) true 36 v0 d0 p0) (o0 : Value.okWide Tryd.prog W .any base 36 v0) (hk : Rows.uptoBulk d0 ≤ 1048576) :
    ∃ (name filt : ByteArray) (src start ack wait most pend : Int) (push : Bool) (ao : Option Addr) (n cap : Nat) (back : List Int), v0 = .agg #[.string name, .string filt, .int .i64 src, .int .i64 start, .int .i64 ack, .int .i64 wait, .slice ao n cap, .int .i64 most, .int .i64 pend, .bool push] ∧ name.size ≤ 1048576 ∧ filt.size ≤ 1048576 ∧ back.length = n ∧ n ≤ 1048576 ∧ Ints W (.slice ao n cap) back := by
  obtain ⟨cs, rfl, hcs⟩ := okWide_struct Tryd.underlying36 o0
  obtain ⟨fuel, hf⟩ := h0
  obtain ⟨n, hlen, xs, hd, hm⟩ := rd_struct Tryd.underlying36 hf
  obtain ⟨hl, hg⟩ := mapM_get hm
  obtain ⟨c0, c1, c2, c3, c4, c5, c6, c7, c8, c9, hc⟩ := list10 (l := cs.toList) (by rw [← cells_taker]; simpa using hcs)
  obtain rfl : cs = #[c0, c1, c2, c3, c4, c5, c6, c7, c8, c9] := by cases cs; simp_all
  obtain ⟨z0, w0, q0⟩ := hg 0 _ rfl
  obtain ⟨z1, w1, q1⟩ := hg 1 _ rfl
  obtain ⟨z2, w2, q2⟩ := hg 2 _ rfl
  obtain ⟨z3, w3, q3⟩ := hg 3 _ rfl
  obtain ⟨z4, w4, q4⟩ := hg 4 _ rfl
  obtain ⟨z5, w5, q5⟩ := hg 5 _ rfl
  obtain ⟨z6, w6, q6⟩ := hg 6 _ rfl
  obtain ⟨z7, w7, q7⟩ := hg 7 _ rfl
  obtain ⟨z8, w8, q8⟩ := hg 8 _ rfl
  obtain ⟨z9, w9, q9⟩ := hg 9 _ rfl
  clear hg hm w2 w3 w4 w5 w7 w8 w9
  simp only [cells_ints, cells_strs, cells_sliceI, cells_boolT, Value.cells] at q0 q1 q2 q3 q4 q5 q6 q7 q8 q9
  have hd : d0 = _ := hd
  have hb : ∀ z ∈ xs, Rows.uptoBulk z.1 ≤ 1048576 := by
    intro z hz
    have := bulk_part (d := z.1) (l := xs.map (·.1)) (List.mem_map.2 ⟨z, hz, rfl⟩)
    rw [hd] at hk
    simp only [Rows.uptoBulk] at hk
    omega
  have b0 := hb _ (List.mem_of_getElem? w0)
  have b1 := hb _ (List.mem_of_getElem? w1)
  have b6 := hb _ (List.mem_of_getElem? w6)
  obtain ⟨name, e0, _, f0⟩ := rd_string Tryd.underlying9 q0
  obtain ⟨filt, e1, _, f1⟩ := rd_string Tryd.underlying9 q1
  obtain ⟨src, e2, _⟩ := rd_int Tryd.underlying3 q2
  obtain ⟨start, e3, _⟩ := rd_int Tryd.underlying3 q3
  obtain ⟨ack, e4, _⟩ := rd_int Tryd.underlying3 q4
  obtain ⟨wait, e5, _⟩ := rd_int Tryd.underlying3 q5
  obtain ⟨ao, k, cap, zs, e6, f6, g6, j6⟩ := open_intsT q6 b6
  obtain ⟨most, e7, _⟩ := rd_int Tryd.underlying3 q7
  obtain ⟨pend, e8, _⟩ := rd_int Tryd.underlying3 q8
  obtain ⟨push, e9⟩ := rd_bool Tryd.underlying4 q9
  simp at e0 e1 e2 e3 e4 e5 e6 e7 e8 e9
  subst e0 e1 e2 e3 e4 e5 e6 e7 e8 e9
  rw [f0, bulk_text] at b0
  rw [f1, bulk_text] at b1
  exact ⟨name, filt, src, start, ack, wait, most, pend, push, ao, k, cap, zs, rfl, by omega, by omega, f6, j6, g6⟩

set_option maxRecDepth 100000 in
open Go.WideShapes Go.ChangeShapes in
/-- The plan as a whole. -/
theorem open_takerP {H : Type} {enc : TypeId × Value → H} {W : World} {base : Nat} {v0 : Value} {d0 : DataW H} {p0 : List MemPlace}
    (h0 : DataW.Trod enc Tryd.prog W 0 (fun _ => true) true 36 v0 d0 p0) (o0 : Value.okWide Tryd.prog W .any base 36 v0) (hk : Rows.uptoBulk d0 ≤ 1048576) :
    ∃ (t : TakerP) (vb : Value), v0 = takerV t vb ∧ t.name.length ≤ 1048576 ∧ t.filt.length ≤ 1048576 ∧ Ints W vb t.back := by
  obtain ⟨name, filt, src, start, ack, wait, most, pend, push, ao, n, cap, back, rfl, hnm, hfl, hn, hnl, hB⟩ := open_takerT h0 o0 hk
  have e1 : (⟨name.data.toList.toArray⟩ : ByteArray) = name := by cases name; rfl
  have e2 : (⟨filt.data.toList.toArray⟩ : ByteArray) = filt := by cases filt; rfl
  have l1 : name.data.toList.length = name.size := Array.length_toList
  have l2 : filt.data.toList.length = filt.size := Array.length_toList
  refine ⟨⟨name.data.toList, filt.data.toList, src, start, ack, wait, back, most, pend, push⟩, .slice ao n cap, ?_, by rw [l1]; exact hnm, by rw [l2]; exact hfl, hB⟩
  unfold takerV
  simp only [e1, e2]
end Go.Proofs.YthhingihjpkipaaDoor.Con

namespace Go.Proofs.YthhingihjpkipaaDoor.Sto
open Go.RowKit
open Rec (Rc)

theorem cells_recO : Tryd.prog.cellsOf 29 = 6 := by kernel_rfl
theorem cells_intO : Tryd.prog.cellsOf 3 = 1 := by kernel_rfl
theorem cells_strO : Tryd.prog.cellsOf 9 = 1 := by kernel_rfl

theorem addr_flatO {w : World} {a : Addr} {v : Value} (h : w.cell? a = some v) : a = ⟨a.block, a.off, none⟩ := by
  cases a with
  | mk b o s =>
    cases s with
    | none => rfl
    | some s =>
      unfold World.cell? at h
      simp only at h
      split at h <;> simp at h

/-- Cells side by side, one by one. -/
theorem cells_atO {w : World} {base : Nat} {a : Addr} {n : Nat} {cs : List Value} (h : w.cells? base a n = some cs) : cs.length = n ∧ ∀ i, i < n → w.cell? (a.add i) = cs[i]? := by
  unfold World.cells? at h
  split at h
  · obtain ⟨h1, h2⟩ := mapM_get h
    refine ⟨by simpa using h1, fun i hi => ?_⟩
    obtain ⟨y, h3, h4⟩ := h2 i i (by simp [hi])
    rw [h3]
    exact h4
  · cases h

theorem bulk_textO {H : Type} (s : ByteArray) : Rows.uptoBulk (DataW.lit (H := H) (.string s.data.toList)) = s.size + 1 := by
  simp only [Rows.uptoBulk, Array.length_toList]; rfl

theorem list6O {α : Type} {l : List α} (h : l.length = 6) : ∃ a b c d e f, l = [a, b, c, d, e, f] := by
  match l, h with
  | [a, b, c, d, e, f], _ => exact ⟨a, b, c, d, e, f, rfl⟩

theorem str_back (s : ByteArray) : (⟨s.data.toList.toArray⟩ : ByteArray) = s := by cases s; simp

set_option maxRecDepth 100000 in
open Go.WideShapes Go.ChangeShapes in
/-- One record among what was read. -/
theorem open_rec {H : Type} {enc : TypeId × Value → H} {W : World} {base fuel : Nat} {held : Bool} {cs : List Value} {y : DataW H × List MemPlace}
    (h : DataW.trod enc Tryd.prog W base (fun _ => true) held fuel 29 cs = some y) (hk : Rows.uptoBulk y.1 ≤ 1048576) :
    ∃ p : Rc, cs = recC p ∧ Fits p := by
  obtain ⟨n, hlen, xs, hd, hm⟩ := rd_struct Tryd.underlying29 h
  obtain ⟨hl, hg⟩ := mapM_get hm
  rw [cells_recO] at hlen
  obtain ⟨c0, c1, c2, c3, c4, c5, rfl⟩ := list6O hlen
  obtain ⟨z0, w0, q0⟩ := hg 0 _ rfl
  obtain ⟨z1, w1, q1⟩ := hg 1 _ rfl
  obtain ⟨z2, w2, q2⟩ := hg 2 _ rfl
  obtain ⟨z3, w3, q3⟩ := hg 3 _ rfl
  obtain ⟨z4, w4, q4⟩ := hg 4 _ rfl
  obtain ⟨z5, w5, q5⟩ := hg 5 _ rfl
  clear hg hm
  simp only [cells_intO, cells_strO] at q0 q1 q2 q3 q4 q5
  obtain ⟨a0, e0, _⟩ := rd_int Tryd.underlying3 q0
  obtain ⟨a1, e1, _⟩ := rd_int Tryd.underlying3 q1
  obtain ⟨a2, e2, _⟩ := rd_int Tryd.underlying3 q2
  obtain ⟨a3, e3, _, f3⟩ := rd_string Tryd.underlying9 q3
  obtain ⟨a4, e4, _, f4⟩ := rd_string Tryd.underlying9 q4
  obtain ⟨a5, e5, _, f5⟩ := rd_string Tryd.underlying9 q5
  simp at e0 e1 e2 e3 e4 e5
  subst e0 e1 e2 e3 e4 e5
  rw [hd] at hk
  simp only [Rows.uptoBulk] at hk
  have hb : ∀ z ∈ xs, Rows.uptoBulk z.1 ≤ 1048576 := fun z hz => by
    have := bulk_part (d := z.1) (l := xs.map (·.1)) (List.mem_map.2 ⟨z, hz, rfl⟩)
    omega
  have b3 := hb _ (List.mem_of_getElem? w3)
  have b4 := hb _ (List.mem_of_getElem? w4)
  have b5 := hb _ (List.mem_of_getElem? w5)
  rw [f3, bulk_textO] at b3
  rw [f4, bulk_textO] at b4
  rw [f5, bulk_textO] at b5
  refine ⟨⟨a0, a1, a2, a3.data.toList, a4.data.toList, a5.data.toList⟩, by simp only [recC, str_back], ?_, ?_, ?_⟩
  · show a3.data.toList.length ≤ _
    rw [show a3.data.toList.length = a3.size by simp]; omega
  · show a4.data.toList.length ≤ _
    rw [show a4.data.toList.length = a4.size by simp]; omega
  · show a5.data.toList.length ≤ _
    rw [show a5.data.toList.length = a5.size by simp]; omega

set_option maxRecDepth 100000 in
open Go.WideShapes Go.ChangeShapes in
theorem open_recs {H : Type} {enc : TypeId × Value → H} {W : World} {fuel : Nat} {held : Bool} {cs : List Value} {y : DataW H × List MemPlace}
    (h : DataW.trod enc Tryd.prog W 0 (fun _ => true) held fuel 22 cs = some y) (hk : Rows.uptoBulk y.1 ≤ 1048576) :
    ∃ ao n cap l, cs = [.slice ao n cap] ∧ RecsAt W (.slice ao n cap) l ∧ ∀ r ∈ l, Fits r := by
  rcases rd_slice Tryd.underlying22 h with ⟨e0, ey⟩ | ⟨a, n, cap, m, e0, hlc, hcm, elems, rest, ey, hel, _, he, _⟩
  · exact ⟨none, 0, 0, [], e0, ⟨none, 0, rfl, fun h => absurd rfl h⟩, (fun _ h => by cases h)⟩
  · rw [cells_recO] at he
    have hall : ∀ d ∈ elems.map (·.1), Rows.uptoBulk d ≤ 1048576 := by
      intro d hd
      rw [ey] at hk
      have := bulk_part hd
      simp only [Rows.uptoBulk] at hk; omega
    have hcell : ∀ i, i < n → ∃ p : Rc, (∀ j, j < 6 → W.cell? ((a.add (i * 6)).add j) = (recC p)[j]?) ∧ Fits p := by
      intro i hi
      obtain ⟨z, hz, h2⟩ := he i hi
      rw [Option.bind_eq_some_iff] at h2
      obtain ⟨cs, h3, h4⟩ := h2
      obtain ⟨_, h6⟩ := cells_atO h3
      obtain ⟨p, rfl, r1⟩ := open_rec h4 (hall _ (List.mem_map.2 ⟨z, List.mem_of_getElem? hz, rfl⟩))
      exact ⟨p, h6, r1⟩
    refine ⟨some a, n, cap, (List.range n).map (fun i => if h : i < n then (hcell i h).choose else ⟨0, 0, 0, [], [], []⟩), e0, ⟨some a, cap, by simp, fun hne => ?_⟩, fun r hr => ?_⟩
    · have hnp : 0 < n := by
        rcases Nat.eq_zero_or_pos n with e | e
        · exact absurd (by simp [e]) hne
        · exact e
      have ha : a = ⟨a.block, a.off, none⟩ := by
        obtain ⟨p, hs, _⟩ := hcell 0 hnp
        have h0 := hs 0 (by omega)
        have h1 : (a.add (0 * 6)).add 0 = a := by rw [Nat.zero_mul]; rfl
        rw [h1] at h0
        exact addr_flatO h0
      refine ⟨a.block, a.off, by rw [← ha], fun i p hp => ?_⟩
      have hi : i < n := by
        have := (List.getElem?_eq_some_iff.1 hp).1
        simpa using this
      have hpp : (hcell i hi).choose = p := by
        simp [hi] at hp
        exact hp
      have h1 := (hcell i hi).choose_spec.1
      rw [hpp] at h1
      have h2 : ∀ j, j < 6 → W.cell? ⟨a.block, a.off + i * 6 + j, none⟩ = (recC p)[j]? := fun j hj => by
        have := h1 j hj
        rw [ha] at this
        simpa only [Addr.add_lit] using this
      exact ⟨h2 0 (by omega), h2 1 (by omega), h2 2 (by omega), h2 3 (by omega), h2 4 (by omega), h2 5 (by omega)⟩
    · obtain ⟨i, hi, rfl⟩ := List.mem_map.1 hr
      have hi' : i < n := by simpa using hi
      rw [dif_pos hi']
      exact (hcell i hi').choose_spec.2
end Go.Proofs.YthhingihjpkipaaDoor.Sto

namespace Go.Proofs.YthhingihjpkipaaDoor.Con
open Go.RowKit Go.ChangeMaps Go.ChangeAt
open Subj (ML)

set_option maxRecDepth 100000 in
open Go.WideShapes Go.ChangeShapes in
theorem consumerDrains_calls {H : Type} (enc : TypeId × Value → H) (W : World) (base : Nat) (v0 v1 v2 : Value) (d0 d1 d2 : DataW H) (p0 p1 p2 : List MemPlace)
    (h0 : DataW.Trod enc Tryd.prog W 0 (fun _ => true) true 36 v0 d0 p0) (h1 : DataW.Trod enc Tryd.prog W 0 (fun _ => true) true 22 v1 d1 p1) (h2 : DataW.Trod enc Tryd.prog W 0 (fun _ => true) true 3 v2 d2 p2)
    (o0 : Value.okWide Tryd.prog W .any base 36 v0) (o1 : Value.okWide Tryd.prog W .any base 22 v1) (o2 : Value.okWide Tryd.prog W .any base 3 v2)
    (hk : Rows.uptoSmall H ([d0, d1, d2] ++ []) = true) (hM : ML W) :
    Calls Tryd.prog 5 #[v0, v1, v2] W fun e w' => e = .returned (.bool true) ∧ Below W.heap.size W w' := by
  have hb0 : Rows.uptoBulk d0 ≤ 1048576 := by
    have h1 := bulk_bound hk
    have h2 := bulk_part (d := d0) (l := [d0, d1, d2] ++ []) (by simp)
    omega
  have hb1 : Rows.uptoBulk d1 ≤ 1048576 := by
    have h1 := bulk_bound hk
    have h2 := bulk_part (d := d1) (l := [d0, d1, d2] ++ []) (by simp)
    omega
  obtain ⟨t, vb, rfl, hnm, hfl, hB⟩ := open_takerP h0 o0 hb0
  obtain ⟨num, rfl, _, _, _⟩ := open_int Tryd.underlying3 o2 h2
  obtain ⟨a, n, cap, rfl⟩ := okWide_slice Tryd.underlying22 o1
  obtain ⟨fuel, hf⟩ := h1
  obtain ⟨ao, n', cap', l, hcs, hl, hfits⟩ := Sto.open_recs hf hb1
  simp [Value.cells] at hcs
  obtain ⟨rfl, rfl, rfl⟩ := hcs
  exact consumerDrains_walk hM t hB hnm hfl hl hfits num
end Go.Proofs.YthhingihjpkipaaDoor.Con
