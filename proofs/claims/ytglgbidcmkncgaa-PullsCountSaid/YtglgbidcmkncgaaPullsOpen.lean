/- PullsCount, from what it is handed. -/
import Derived.Test.YtglgbidcmkncgaaPullCount
import Derived.Test.YtglgbidcmkncgaaChecked
import Derived.Test.YtglgbidcmkncgaaRows
import Derived.Test.YtglgbidcmkncgaaFrame
import Derived.ChangeSlices
namespace Go.Proofs.Ytglgbidcmkncgaa.Pull
open Go.RowKit Heap

theorem cells_int : Try.prog.cellsOf 3 = 1 := by kernel_rfl

theorem addr_plain {w : World} {a : Addr} {v : Value} (h : w.cell? a = some v) : a = ⟨a.block, a.off, none⟩ := by
  cases a with
  | mk b o s =>
    cases s with
    | none => rfl
    | some s =>
      unfold World.cell? at h
      simp only at h
      split at h <;> simp at h

set_option maxRecDepth 100000 in
open Go.WideShapes Go.ChangeShapes in
theorem pullsCount_calls {H : Type} (enc : TypeId × Value → H) (W : World) (base : Nat) (v0 v1 : Value) (d0 d1 : DataW H) (p0 p1 : List MemPlace)
    (h0 : DataW.Trod enc Try.prog W 0 (fun _ => true) true 22 v0 d0 p0) (h1 : DataW.Trod enc Try.prog W 0 (fun _ => true) true 3 v1 d1 p1)
    (o0 : Value.okWide Try.prog W .any base 22 v0) (o1 : Value.okWide Try.prog W .any base 3 v1)
    (_hsz : (DataW.weightsEach Try.prog ([22, 3] ++ Rows.pullsCountSpec.plain.varTypes Try.prog) ([d0, d1] ++ [])).all (· ≤ reachBytes) = true) :
    Calls Try.prog 3 #[v0, v1] W fun e w' => e = .returned (.bool true) ∧ Below W.heap.size W w' := by
  obtain ⟨now, rfl, _, _, _⟩ := open_int Try.underlying3 o1 h1
  obtain ⟨a, n, cap, rfl⟩ := okWide_slice Try.underlying22 o0
  obtain ⟨fuel, hf⟩ := h0
  rcases open_ints Try.underlying22 Try.underlying3 cells_int hf with ⟨e0, _⟩ | ⟨a', len', cap', zs, e0, _, hlc, _, hzl, _, hz, _⟩
  · simp [Value.cells] at e0
    obtain ⟨rfl, rfl, rfl⟩ := e0
    exact pullsCount_walk none 0 0 (fun _ => 0) now W (Nat.le_refl _) (fun h => absurd rfl h)
  · simp [Value.cells] at e0
    obtain ⟨rfl, rfl, rfl⟩ := e0
    rw [if_pos rfl] at hzl
    refine pullsCount_walk (some a') n cap (fun i => zs.getD i 0) now W hlc (fun hn => ?_)
    have ha : a' = ⟨a'.block, a'.off, none⟩ := by
      have := hz 0 (by omega)
      exact addr_plain (a := a') this
    refine ⟨a'.block, a'.off, by rw [← ha], fun i hi => ?_⟩
    have := hz i (by omega)
    rw [ha, Addr.add_lit] at this
    exact this

end Go.Proofs.Ytglgbidcmkncgaa.Pull
