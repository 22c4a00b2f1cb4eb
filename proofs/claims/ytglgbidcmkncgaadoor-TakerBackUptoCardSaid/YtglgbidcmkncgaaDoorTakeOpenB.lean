/- A consumer's plan among the parameters, opened. -/
import Derived.Test.YtglgbidcmkncgaaDoorTakePrint2
import Derived.Test.YtglgbidcmkncgaaDoorPlanOpen
import Derived.ChangeSlices
import Derived.OpenShut
import Derived.ChangeMaps5
namespace Go.Proofs.YtglgbidcmkncgaaDoor.Subj
open Go.RowKit Go.ChangeMaps Go.ChangeAt

theorem cells_taker : Tryd.prog.cellsOf 37 = 10 := by kernel_rfl
theorem cells_sliceI : Tryd.prog.cellsOf 35 = 1 := by kernel_rfl
theorem cells_boolT : Tryd.prog.cellsOf 4 = 1 := by kernel_rfl

theorem bulk_int {H : Type} (k : IntKind) (n : Int) : Rows.uptoBulk (DataW.lit (H := H) (.int k n)) = 1 := by simp only [Rows.uptoBulk]

set_option maxRecDepth 100000 in
open Go.WideShapes Go.ChangeShapes in
theorem open_intsT {H : Type} {enc : TypeId × Value → H} {W : World} {fuel : Nat} {cs : List Value} {y : DataW H × List MemPlace}
    (h : DataW.trod enc Tryd.prog W 0 (fun _ => true) true fuel 35 cs = some y) (hk : Rows.uptoBulk y.1 ≤ 1048576) :
    ∃ ao n cap zs, cs = [.slice ao n cap] ∧ zs.length = n ∧ Ints W (.slice ao n cap) zs ∧ n ≤ 1048576 := by
  rcases rd_slice Tryd.underlying35 h with ⟨e0, ey⟩ | ⟨a, n, cap, m, e0, hlc, hcm, elems, rest, ey, hel, _, he, _⟩
  · exact ⟨none, 0, 0, [], e0, rfl, ⟨none, 0, rfl, Nat.le_refl _, fun h => absurd rfl h⟩, by omega⟩
  · rw [cells_ints] at he
    have hcell : ∀ i, i < n → ∃ z : Int, W.cell? (a.add (i * 1)) = some (.int .i64 z) ∧ ∃ d, elems[i]? = some d ∧ 1 ≤ Rows.uptoBulk d.1 := by
      intro i hi
      obtain ⟨z, hz, h2⟩ := he i hi
      rw [Option.bind_eq_some_iff] at h2
      obtain ⟨cs, h3, h4⟩ := h2
      have h7 : 1 ≤ Rows.uptoBulk z.1 := by
        cases z.1 with
        | lit l => cases l <;> simp only [Rows.uptoBulk] <;> omega
        | _ => simp only [Rows.uptoBulk] <;> omega
      obtain ⟨v, rfl, _⟩ := rd_int Tryd.underlying3 h4
      obtain ⟨_, h6⟩ := cells_at h3
      exact ⟨v, h6 0 (by omega), z, hz, h7⟩
    have hpos : ∀ d ∈ elems.map (·.1), 1 ≤ Rows.uptoBulk d := by
      intro d hd
      obtain ⟨z, hz, rfl⟩ := List.mem_map.1 hd
      obtain ⟨i, hi, rfl⟩ := List.getElem_of_mem hz
      obtain ⟨_, _, d, h3, h4⟩ := hcell i (by omega)
      rw [List.getElem?_eq_getElem hi, Option.some.injEq] at h3
      rw [h3]; exact h4
    have hn : n ≤ 1048576 := by
      have h1 := bulk_all hpos
      rw [List.length_map, hel] at h1
      rw [ey] at hk
      simp only [Rows.uptoBulk] at hk; omega
    refine ⟨some a, n, cap, (List.range n).map (fun i => if h : i < n then (hcell i h).choose else 0), e0, by simp, ⟨some a, cap, by simp, by simpa using hlc, fun hne => ?_⟩, hn⟩
    have hnp : 0 < n := by
      rcases Nat.eq_zero_or_pos n with e | e
      · exact absurd (by simp [e]) hne
      · exact e
    have ha : a = ⟨a.block, a.off, none⟩ := by
      obtain ⟨s, hs, _⟩ := hcell 0 hnp
      have h0 : a.add (0 * 1) = a := by rw [Nat.zero_mul]; rfl
      rw [h0] at hs
      exact addr_flat hs
    refine ⟨a.block, a.off, by rw [← ha], fun i hi => ?_⟩
    have hi' : i < n := by simpa using hi
    have h1 := (hcell i hi').choose_spec.1
    have h2 : ((List.range n).map (fun i => if h : i < n then (hcell i h).choose else 0)).getD i 0 = (hcell i hi').choose := by
      simp [List.getD, hi']
    rw [h2]
    generalize (hcell i hi').choose = z at h1 ⊢
    rw [ha, Nat.mul_one, Addr.add_lit] at h1
    exact h1

set_option maxRecDepth 100000 in
open Go.WideShapes Go.ChangeShapes in
theorem open_takerT {H : Type} {enc : TypeId × Value → H} {W : World} {base : Nat} {v0 : Value} {d0 : DataW H} {p0 : List MemPlace}
    (h0 : DataW.Trod enc Tryd.prog W 0 (fun _ => true) true 37 v0 d0 p0) (o0 : Value.okWide Tryd.prog W .any base 37 v0) (hk : Rows.uptoBulk d0 ≤ 1048576) :
    ∃ (name filt : ByteArray) (src start ack wait most pend : Int) (push : Bool) (ao : Option Addr) (n cap : Nat) (back : List Int), v0 = .agg (tCells name filt src start ack wait (.slice ao n cap) most pend push) ∧ name.size ≤ 1048576 ∧ filt.size ≤ 1048576 ∧ back.length = n ∧ n ≤ 1048576 ∧ Ints W (.slice ao n cap) back := by
  obtain ⟨cs, rfl, hcs⟩ := okWide_struct Tryd.underlying37 o0
  obtain ⟨fuel, hf⟩ := h0
  obtain ⟨n, hlen, xs, hd, hm⟩ := rd_struct Tryd.underlying37 hf
  obtain ⟨hl, hg⟩ := mapM_get hm
  obtain ⟨c0, c1, c2, c3, c4, c5, c6, c7, c8, c9, hc⟩ := list10 (l := cs.toList) (by rw [← cells_taker]; simpa using hcs)
  obtain rfl : cs = #[c0, c1, c2, c3, c4, c5, c6, c7, c8, c9] := by cases cs; simp_all
  obtain ⟨z0, w0, q0⟩ := hg 0 _ rfl
  obtain ⟨z1, w1, q1⟩ := hg 1 _ rfl
  obtain ⟨z2, w2, q2⟩ := hg 2 _ rfl
  obtain ⟨z3, w3, q3⟩ := hg 3 _ rfl
  obtain ⟨z4, w4, q4⟩ := hg 4 _ rfl
  obtain ⟨z5, w5, q5⟩ := hg 5 _ rfl
  obtain ⟨z6, w6, q6⟩ := hg 6 _ rfl
  obtain ⟨z7, w7, q7⟩ := hg 7 _ rfl
  obtain ⟨z8, w8, q8⟩ := hg 8 _ rfl
  obtain ⟨z9, w9, q9⟩ := hg 9 _ rfl
  clear hg hm w2 w3 w4 w5 w7 w8 w9
  simp only [cells_ints, cells_strs, cells_sliceI, cells_boolT, Value.cells] at q0 q1 q2 q3 q4 q5 q6 q7 q8 q9
  have hd : d0 = _ := hd
  have hb : ∀ z ∈ xs, Rows.uptoBulk z.1 ≤ 1048576 := by
    intro z hz
    have := bulk_part (d := z.1) (l := xs.map (·.1)) (List.mem_map.2 ⟨z, hz, rfl⟩)
    rw [hd] at hk
    simp only [Rows.uptoBulk] at hk
    omega
  have b0 := hb _ (List.mem_of_getElem? w0)
  have b1 := hb _ (List.mem_of_getElem? w1)
  have b6 := hb _ (List.mem_of_getElem? w6)
  obtain ⟨name, e0, _, f0⟩ := rd_string Tryd.underlying9 q0
  obtain ⟨filt, e1, _, f1⟩ := rd_string Tryd.underlying9 q1
  obtain ⟨src, e2, _⟩ := rd_int Tryd.underlying3 q2
  obtain ⟨start, e3, _⟩ := rd_int Tryd.underlying3 q3
  obtain ⟨ack, e4, _⟩ := rd_int Tryd.underlying3 q4
  obtain ⟨wait, e5, _⟩ := rd_int Tryd.underlying3 q5
  obtain ⟨ao, k, cap, zs, e6, f6, g6, j6⟩ := open_intsT q6 b6
  obtain ⟨most, e7, _⟩ := rd_int Tryd.underlying3 q7
  obtain ⟨pend, e8, _⟩ := rd_int Tryd.underlying3 q8
  obtain ⟨push, e9⟩ := rd_bool Tryd.underlying4 q9
  simp at e0 e1 e2 e3 e4 e5 e6 e7 e8 e9
  subst e0 e1 e2 e3 e4 e5 e6 e7 e8 e9
  rw [f0, bulk_text] at b0
  rw [f1, bulk_text] at b1
  exact ⟨name, filt, src, start, ack, wait, most, pend, push, ao, k, cap, zs, rfl, by omega, by omega, f6, j6, g6⟩
end Go.Proofs.YtglgbidcmkncgaaDoor.Subj
