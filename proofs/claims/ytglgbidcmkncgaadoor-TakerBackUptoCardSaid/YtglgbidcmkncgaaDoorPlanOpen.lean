/- A plan among the parameters, opened. -/
import Derived.Test.YtglgbidcmkncgaaDoorPlanMem
import Derived.Test.YtglgbidcmkncgaaDoorCard
import Derived.ChangeSlices
namespace Go.Proofs.YtglgbidcmkncgaaDoor.Subj
open Go.RowKit

theorem list10 {α : Type} {l : List α} (h : l.length = 10) : ∃ a b c d e f g i j k, l = [a, b, c, d, e, f, g, i, j, k] := by
  match l, h with
  | [a, b, c, d, e, f, g, i, j, k], _ => exact ⟨a, b, c, d, e, f, g, i, j, k, rfl⟩

theorem cells_plan : Tryd.prog.cellsOf 29 = 10 := by kernel_rfl
theorem cells_ints : Tryd.prog.cellsOf 3 = 1 := by kernel_rfl
theorem cells_strs : Tryd.prog.cellsOf 9 = 1 := by kernel_rfl
theorem cells_slice : Tryd.prog.cellsOf 27 = 1 := by kernel_rfl

theorem addr_flat {w : World} {a : Addr} {v : Value} (h : w.cell? a = some v) : a = ⟨a.block, a.off, none⟩ := by
  cases a with
  | mk b o s =>
    cases s with
    | none => rfl
    | some s =>
      unfold World.cell? at h
      simp only at h
      split at h <;> simp at h

/-- Cells side by side, one by one. -/
theorem cells_at {w : World} {base : Nat} {a : Addr} {n : Nat} {cs : List Value} (h : w.cells? base a n = some cs) : cs.length = n ∧ ∀ i, i < n → w.cell? (a.add i) = cs[i]? := by
  unfold World.cells? at h
  split at h
  · obtain ⟨h1, h2⟩ := mapM_get h
    refine ⟨by simpa using h1, fun i hi => ?_⟩
    obtain ⟨y, h3, h4⟩ := h2 i i (by simp [hi])
    rw [h3]
    exact h4
  · cases h

theorem bulk_all {H : Type} : ∀ {l : List (DataW H)}, (∀ d ∈ l, 1 ≤ Rows.uptoBulk d) → l.length ≤ Rows.uptoBulkAll l
  | [], _ => Nat.zero_le _
  | d :: l, h => by
    have h1 := h d (by simp)
    have h2 := bulk_all (l := l) fun x hx => h x (List.mem_cons_of_mem _ hx)
    simp only [Rows.uptoBulkAll, List.length_cons]; omega

theorem bulk_text {H : Type} (s : ByteArray) : Rows.uptoBulk (DataW.lit (H := H) (.string s.data.toList)) = s.size + 1 := by
  simp only [Rows.uptoBulk, Array.length_toList]; rfl

set_option maxRecDepth 100000 in
open Go.WideShapes Go.ChangeShapes in
/-- A slice of texts, opened. -/
theorem open_texts {H : Type} {enc : TypeId × Value → H} {W : World} {fuel : Nat} {held : Bool} {cs : List Value} {y : DataW H × List MemPlace}
    (h : DataW.trod enc Tryd.prog W 0 (fun _ => true) held fuel 27 cs = some y) :
    ∃ ao n cap fs, cs = [.slice ao n cap] ∧ fs.length = n ∧ Strs W (.slice ao n cap) fs ∧ (∀ f ∈ fs, f.length ≤ Rows.uptoBulk y.1) ∧ n ≤ Rows.uptoBulk y.1 := by
  rcases rd_slice Tryd.underlying27 h with ⟨e0, ey⟩ | ⟨a, n, cap, m, e0, hlc, hcm, elems, rest, ey, hel, _, he, _⟩
  · exact ⟨none, 0, 0, [], e0, rfl, ⟨none, 0, rfl, Nat.le_refl _, fun h => absurd rfl h⟩, by simp, Nat.zero_le _⟩
  · rw [cells_strs] at he
    have hall : ∀ d ∈ elems.map (·.1), Rows.uptoBulk d ≤ Rows.uptoBulk y.1 := by
      intro d hd
      rw [ey]
      have := bulk_part hd
      simp only [Rows.uptoBulk]; omega
    have hcell : ∀ i, i < n → ∃ s : ByteArray, W.cell? (a.add (i * 1)) = some (.string s) ∧ s.size + 1 ≤ Rows.uptoBulk y.1 ∧ (elems[i]?.map (·.1)) = some (.lit (.string s.data.toList)) := by
      intro i hi
      obtain ⟨z, hz, h2⟩ := he i hi
      rw [Option.bind_eq_some_iff] at h2
      obtain ⟨cs, h3, h4⟩ := h2
      obtain ⟨s, rfl, _, h5⟩ := rd_string Tryd.underlying9 h4
      obtain ⟨_, h6⟩ := cells_at h3
      refine ⟨s, h6 0 (by omega), ?_, by rw [hz, ← h5]; rfl⟩
      have h7 := hall z.1 (List.mem_map.2 ⟨z, List.mem_of_getElem? hz, rfl⟩)
      rw [h5, bulk_text] at h7
      exact h7
    have hpos : ∀ d ∈ elems.map (·.1), 1 ≤ Rows.uptoBulk d := by
      intro d hd
      obtain ⟨z, hz, rfl⟩ := List.mem_map.1 hd
      obtain ⟨i, hi, rfl⟩ := List.getElem_of_mem hz
      obtain ⟨s, _, _, h3⟩ := hcell i (by omega)
      rw [List.getElem?_eq_getElem hi] at h3
      simp only [Option.map_some, Option.some.injEq] at h3
      rw [h3, bulk_text]; omega
    have hn : n ≤ Rows.uptoBulk y.1 := by
      have h1 := bulk_all hpos
      rw [List.length_map, hel] at h1
      rw [ey]
      simp only [Rows.uptoBulk]; omega
    refine ⟨some a, n, cap, (List.range n).map (fun i => if h : i < n then (hcell i h).choose.data.toList else []), e0, by simp, ⟨some a, cap, by simp, by simpa using hlc, fun hne => ?_⟩, ?_, hn⟩
    · have hnp : 0 < n := by
        rcases Nat.eq_zero_or_pos n with e | e
        · exact absurd (by simp [e]) hne
        · exact e
      have ha : a = ⟨a.block, a.off, none⟩ := by
        obtain ⟨s, hs, _⟩ := hcell 0 hnp
        have h0 : a.add (0 * 1) = a := by rw [Nat.zero_mul]; rfl
        rw [h0] at hs
        exact addr_flat hs
      refine ⟨a.block, a.off, by rw [← ha], fun i hi => ?_⟩
      have hi' : i < n := by simpa using hi
      have h1 := (hcell i hi').choose_spec.1
      have h2 : strAt ((List.range n).map (fun i => if h : i < n then (hcell i h).choose.data.toList else [])) i = (hcell i hi').choose := by
        unfold strAt
        simp [List.getD, hi']
      rw [h2]
      generalize (hcell i hi').choose = z at h1 ⊢
      rw [ha, Nat.mul_one, Addr.add_lit] at h1
      exact h1
    · intro f hf
      obtain ⟨i, hi, rfl⟩ := List.mem_map.1 hf
      have hi' : i < n := by simpa using hi
      have h2 := (hcell i hi').choose_spec.2.1
      rw [dif_pos hi']
      simp only [Array.length_toList]
      show (hcell i hi').choose.size ≤ _
      omega

/-- A plan, opened. -/
def PlanArg (W : World) (v0 : Value) (name : ByteArray) (ao : Option Addr) (n cap : Nat) (fs : List Tok) (x0 x1 x2 x3 x4 x5 x6 x7 : Int) : Prop :=
  v0 = .agg #[.string name, .slice ao n cap, .int .i64 x0, .int .i64 x1, .int .i64 x2, .int .i64 x3, .int .i64 x4, .int .i64 x5, .int .i64 x6, .int .i64 x7] ∧ fs.length = n ∧ Strs W (.slice ao n cap) fs ∧ Small fs ∧ n ≤ 1048576 ∧ name.size ≤ 1048576

set_option maxRecDepth 100000 in
open Go.WideShapes Go.ChangeShapes in
theorem open_plan {H : Type} {enc : TypeId × Value → H} {W : World} {base : Nat} {v0 : Value} {d0 : DataW H} {p0 : List MemPlace}
    (h0 : DataW.Trod enc Tryd.prog W 0 (fun _ => true) true 29 v0 d0 p0) (o0 : Value.okWide Tryd.prog W .any base 29 v0) (hk : Rows.uptoBulk d0 ≤ 1048576) :
    ∃ name ao n cap fs x0 x1 x2 x3 x4 x5 x6 x7, PlanArg W v0 name ao n cap fs x0 x1 x2 x3 x4 x5 x6 x7 := by
  obtain ⟨cs, rfl, hcs⟩ := okWide_struct Tryd.underlying29 o0
  obtain ⟨fuel, hf⟩ := h0
  obtain ⟨n, hlen, xs, hd, hm⟩ := rd_struct Tryd.underlying29 hf
  obtain ⟨hl, hg⟩ := mapM_get hm
  obtain ⟨c0, c1, c2, c3, c4, c5, c6, c7, c8, c9, hc⟩ := list10 (l := cs.toList) (by rw [← cells_plan]; simpa using hcs)
  obtain rfl : cs = #[c0, c1, c2, c3, c4, c5, c6, c7, c8, c9] := by cases cs; simp_all
  obtain ⟨z0, w0, q0⟩ := hg 0 _ rfl
  obtain ⟨z1, w1, q1⟩ := hg 1 _ rfl
  obtain ⟨z2, w2, q2⟩ := hg 2 _ rfl
  obtain ⟨z3, w3, q3⟩ := hg 3 _ rfl
  obtain ⟨z4, w4, q4⟩ := hg 4 _ rfl
  obtain ⟨z5, w5, q5⟩ := hg 5 _ rfl
  obtain ⟨z6, w6, q6⟩ := hg 6 _ rfl
  obtain ⟨z7, w7, q7⟩ := hg 7 _ rfl
  obtain ⟨z8, w8, q8⟩ := hg 8 _ rfl
  obtain ⟨z9, w9, q9⟩ := hg 9 _ rfl
  clear hg hm w2 w3 w4 w5 w6 w7 w8 w9
  simp only [cells_ints, cells_strs, cells_slice, Value.cells] at q0 q1 q2 q3 q4 q5 q6 q7 q8 q9
  obtain ⟨name, e0, _, f0⟩ := rd_string Tryd.underlying9 q0
  obtain ⟨ao, k, cap, fs, e1, f1, g1, i1, j1⟩ := open_texts q1
  obtain ⟨x0, e2, _⟩ := rd_int Tryd.underlying3 q2
  obtain ⟨x1, e3, _⟩ := rd_int Tryd.underlying3 q3
  obtain ⟨x2, e4, _⟩ := rd_int Tryd.underlying3 q4
  obtain ⟨x3, e5, _⟩ := rd_int Tryd.underlying3 q5
  obtain ⟨x4, e6, _⟩ := rd_int Tryd.underlying3 q6
  obtain ⟨x5, e7, _⟩ := rd_int Tryd.underlying3 q7
  obtain ⟨x6, e8, _⟩ := rd_int Tryd.underlying3 q8
  obtain ⟨x7, e9, _⟩ := rd_int Tryd.underlying3 q9
  simp at e0 e1 e2 e3 e4 e5 e6 e7 e8 e9
  subst e0 e1 e2 e3 e4 e5 e6 e7 e8 e9
  have hd : d0 = _ := hd
  have hb : ∀ z ∈ xs, Rows.uptoBulk z.1 ≤ 1048576 := by
    intro z hz
    have := bulk_part (d := z.1) (l := xs.map (·.1)) (List.mem_map.2 ⟨z, hz, rfl⟩)
    rw [hd] at hk
    simp only [Rows.uptoBulk] at hk
    omega
  have b0 := hb _ (List.mem_of_getElem? w0)
  have b1 := hb _ (List.mem_of_getElem? w1)
  rw [f0, bulk_text] at b0
  refine ⟨name, ao, k, cap, fs, x0, x1, x2, x3, x4, x5, x6, x7, rfl, f1, g1, fun i => ?_, by omega, by omega⟩
  by_cases hi : i < fs.length
  · have := i1 (fs.getD i []) (by simp [List.getD, hi])
    omega
  · simp [List.getD, show fs.length ≤ i by omega]
end Go.Proofs.YtglgbidcmkncgaaDoor.Subj
