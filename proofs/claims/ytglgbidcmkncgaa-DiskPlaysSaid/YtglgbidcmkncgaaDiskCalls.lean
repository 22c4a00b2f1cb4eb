/- DiskSure, from what it is handed. -/
import Derived.Test.YtglgbidcmkncgaaDiskSureW
import Derived.Test.YtglgbidcmkncgaaFrame
import Derived.ChangeSlices
namespace Go.Proofs.Ytglgbidcmkncgaa.Dsk
open Go.RowKit Heap

theorem cells_strD : Try.prog.cellsOf 9 = 1 := by kernel_rfl

theorem addr_flatD {w : World} {a : Addr} {v : Value} (h : w.cell? a = some v) : a = ⟨a.block, a.off, none⟩ := by
  cases a with
  | mk b o s =>
    cases s with
    | none => rfl
    | some s =>
      unfold World.cell? at h
      simp only at h
      split at h <;> simp at h

theorem cells_atD {w : World} {base : Nat} {a : Addr} {n : Nat} {cs : List Value} (h : w.cells? base a n = some cs) : cs.length = n ∧ ∀ i, i < n → w.cell? (a.add i) = cs[i]? := by
  unfold World.cells? at h
  split at h
  · obtain ⟨h1, h2⟩ := mapM_get h
    refine ⟨by simpa using h1, fun i hi => ?_⟩
    obtain ⟨y, h3, h4⟩ := h2 i i (by simp [hi])
    rw [h3]
    exact h4
  · cases h

set_option maxRecDepth 100000 in
open Go.WideShapes Go.ChangeShapes in
theorem open_textsD {H : Type} {enc : TypeId × Value → H} {W : World} {fuel : Nat} {cs : List Value} {y : DataW H × List MemPlace}
    (h : DataW.trod enc Try.prog W 0 (fun _ => true) true fuel 43 cs = some y) :
    ∃ ao n cap ss, cs = [.slice ao n cap] ∧ TextsAt W ao n ss ∧ n ≤ 9223372036854775807 := by
  rcases rd_slice Try.underlying43 h with ⟨e0, ey⟩ | ⟨a, n, cap, m, e0, hlc, hcm, elems, rest, ey, hel, _, he, _⟩
  · exact ⟨none, 0, 0, [], e0, ⟨rfl, fun h => by omega⟩, by omega⟩
  · rw [cells_strD] at he
    have hcell : ∀ i, i < n → ∃ s : ByteArray, W.cell? (a.add (i * 1)) = some (.string s) := by
      intro i hi
      obtain ⟨z, hz, h2⟩ := he i hi
      rw [Option.bind_eq_some_iff] at h2
      obtain ⟨cs, h3, h4⟩ := h2
      obtain ⟨v, rfl, _⟩ := rd_string Try.underlying9 h4
      obtain ⟨_, h6⟩ := cells_atD h3
      exact ⟨v, h6 0 (by omega)⟩
    refine ⟨some a, n, cap, (List.range n).map (fun i => if h : i < n then (hcell i h).choose.data.toList else []), e0, ⟨by simp, fun hnp => ?_⟩, ?_⟩
    · have ha : a = ⟨a.block, a.off, none⟩ := by
        obtain ⟨s, hs⟩ := hcell 0 hnp
        have h0 : a.add (0 * 1) = a := by rw [Nat.zero_mul]; rfl
        rw [h0] at hs
        exact addr_flatD hs
      refine ⟨a.block, a.off, by rw [← ha], fun i hi => ?_⟩
      have h1 := (hcell i hi).choose_spec
      have h2 : ((List.range n).map (fun i => if h : i < n then (hcell i h).choose.data.toList else [])).getD i [] = (hcell i hi).choose.data.toList := by
        simp [List.getD, hi]
      rw [h2]
      generalize (hcell i hi).choose = z at h1 ⊢
      rw [ha, Nat.mul_one, Addr.add_lit] at h1
      exact h1
    · have : maxLen ≤ 9223372036854775807 := by unfold maxLen; omega
      omega

set_option maxRecDepth 100000 in
open Go.WideShapes Go.ChangeShapes in
theorem diskSure_calls {H : Type} (enc : TypeId × Value → H) (W : World) (base : Nat) (v0 v1 v2 : Value) (d0 d1 d2 : DataW H) (p0 p1 p2 : List MemPlace)
    (h0 : DataW.Trod enc Try.prog W 0 (fun _ => true) true 43 v0 d0 p0) (h1 : DataW.Trod enc Try.prog W 0 (fun _ => true) true 3 v1 d1 p1) (h2 : DataW.Trod enc Try.prog W 0 (fun _ => true) true 3 v2 d2 p2)
    (o0 : Value.okWide Try.prog W .any base 43 v0) (o1 : Value.okWide Try.prog W .any base 3 v1) (o2 : Value.okWide Try.prog W .any base 3 v2)
    (_hsz : (DataW.weightsEach Try.prog ([43, 3, 3] ++ Rows.diskSureSpec.plain.varTypes Try.prog) ([d0, d1, d2] ++ [])).all (· ≤ reachBytes) = true) :
    Calls Try.prog 5 #[v0, v1, v2] W fun e w' => e = .returned (.bool true) ∧ Below W.heap.size W w' := by
  obtain ⟨sync, rfl, _, _, _⟩ := open_int Try.underlying3 o1 h1
  obtain ⟨keep, rfl, _, _, _⟩ := open_int Try.underlying3 o2 h2
  obtain ⟨a, n, cap, rfl⟩ := okWide_slice Try.underlying43 o0
  obtain ⟨fuel, hf⟩ := h0
  obtain ⟨ao, n', cap', ss, hcs, hS, hn⟩ := open_textsD hf
  simp [Value.cells] at hcs
  obtain ⟨rfl, rfl, rfl⟩ := hcs
  exact diskSure_walk a n cap sync keep ss W hn hS
end Go.Proofs.Ytglgbidcmkncgaa.Dsk
