/- PullsPlay, from what it is handed. -/
import Derived.Test.YtglgbidcmkncgaaPullPlay
import Derived.Test.YtglgbidcmkncgaaChecked
import Derived.Test.YtglgbidcmkncgaaRows
import Derived.Test.YtglgbidcmkncgaaFrame
import Derived.ChangeSlices
namespace Go.Proofs.Ytglgbidcmkncgaa.Pull
open Go.RowKit Heap

theorem cells_i : Try.prog.cellsOf 3 = 1 := by kernel_rfl
theorem cells_b : Try.prog.cellsOf 4 = 1 := by kernel_rfl
theorem cells_p : Try.prog.cellsOf 28 = 3 := by kernel_rfl
theorem cells_w : Try.prog.cellsOf 41 = 5 := by kernel_rfl

theorem addr_flat {w : World} {a : Addr} {v : Value} (h : w.cell? a = some v) : a = ⟨a.block, a.off, none⟩ := by
  cases a with
  | mk b o s =>
    cases s with
    | none => rfl
    | some s =>
      unfold World.cell? at h
      simp only at h
      split at h <;> simp at h

/-- Cells side by side, one by one. -/
theorem cells_at {w : World} {base : Nat} {a : Addr} {n : Nat} {cs : List Value} (h : w.cells? base a n = some cs) : cs.length = n ∧ ∀ i, i < n → w.cell? (a.add i) = cs[i]? := by
  unfold World.cells? at h
  split at h
  · obtain ⟨h1, h2⟩ := mapM_get h
    refine ⟨by simpa using h1, fun i hi => ?_⟩
    obtain ⟨y, h3, h4⟩ := h2 i i (by simp [hi])
    rw [h3]
    exact h4
  · cases h

theorem list5 {α : Type} {l : List α} (h : l.length = 5) : ∃ a b c d e, l = [a, b, c, d, e] := by
  rcases l with _ | ⟨a, _ | ⟨b, _ | ⟨c, _ | ⟨d, _ | ⟨e, _ | ⟨f, l⟩⟩⟩⟩⟩⟩ <;> simp at h
  exact ⟨a, b, c, d, e, rfl⟩

set_option maxRecDepth 100000 in
open Go.WideShapes Go.ChangeShapes in
theorem wish_reads {H : Type} {enc : TypeId × Value → H} {W : World} {sp : Nat → Bool} {held : Bool} {n : Nat} {cs : List Value} {z : DataW H × List MemPlace}
    (h : DataW.trod enc Try.prog W 0 sp held n 41 cs = some z) :
    ∃ y : Wish, cs = [.int .i64 y.kind, .int .i64 y.now, .int .i64 y.p.batch, .int .i64 y.p.till, .bool y.p.nowait] := by
  obtain ⟨n, hlen, xs, _, hm⟩ := rd_struct Try.underlying41 h
  obtain ⟨_, hg⟩ := mapM_get hm
  rw [cells_w] at hlen
  obtain ⟨c0, c1, c2, c3, c4, rfl⟩ := list5 hlen
  have g := fun i f h => hg i f h
  obtain ⟨_, _, q0⟩ := g 0 _ rfl
  obtain ⟨_, _, q1⟩ := g 1 _ rfl
  obtain ⟨_, _, q2⟩ := g 2 _ rfl
  simp only [cells_i, cells_p] at q0 q1 q2
  clear hg hm hlen g
  obtain ⟨k, e0, _⟩ := rd_int Try.underlying3 q0
  obtain ⟨t, e1, _⟩ := rd_int Try.underlying3 q1
  obtain ⟨n2, _, xs2, _, hm2⟩ := rd_struct Try.underlying28 q2
  obtain ⟨_, hg2⟩ := mapM_get hm2
  have g := fun i f h => hg2 i f h
  obtain ⟨_, _, p0⟩ := g 0 _ rfl
  obtain ⟨_, _, p1⟩ := g 1 _ rfl
  obtain ⟨_, _, p2⟩ := g 2 _ rfl
  simp only [cells_i, cells_b] at p0 p1 p2
  obtain ⟨b, e2, _⟩ := rd_int Try.underlying3 p0
  obtain ⟨l, e3, _⟩ := rd_int Try.underlying3 p1
  obtain ⟨o, e4⟩ := rd_bool Try.underlying4 p2
  simp at e0 e1 e2 e3 e4
  subst e0 e1 e2 e3 e4
  exact ⟨⟨k, t, ⟨b, l, o⟩⟩, rfl⟩

set_option maxRecDepth 100000 in
open Go.WideShapes Go.ChangeShapes in
theorem pullsPlay_calls {H : Type} (enc : TypeId × Value → H) (W : World) (base : Nat) (v0 : Value) (d0 : DataW H) (p0 : List MemPlace)
    (h0 : DataW.Trod enc Try.prog W 0 (fun _ => true) true 35 v0 d0 p0)
    (o0 : Value.okWide Try.prog W .any base 35 v0)
    (_hsz : (DataW.weightsEach Try.prog ([35] ++ Rows.pullsPlaySpec.plain.varTypes Try.prog) ([d0] ++ [])).all (· ≤ reachBytes) = true) :
    Calls Try.prog 4 #[v0] W fun e w' => e = .returned (.bool true) ∧ Below W.heap.size W w' := by
  obtain ⟨a, n, cap, rfl⟩ := okWide_slice Try.underlying35 o0
  obtain ⟨fuel, hf⟩ := h0
  rcases rd_slice Try.underlying35 hf with ⟨e0, _⟩ | ⟨a', len', cap', m, e0, hlc, hcm, elems, rest, _, _, _, he, _⟩
  · simp [Value.cells] at e0
    obtain ⟨rfl, rfl, rfl⟩ := e0
    exact pullsPlay_walk none 0 0 (fun _ => ⟨0, 0, ⟨0, 0, false⟩⟩) W (Nat.le_refl _) (fun h => absurd rfl h)
  · simp [Value.cells] at e0
    obtain ⟨rfl, rfl, rfl⟩ := e0
    rw [cells_w] at he
    have hcell : ∀ i, i < n → ∃ y : Wish, W.cell? (a'.add (i * 5)) = some (.int .i64 y.kind) ∧ W.cell? ((a'.add (i * 5)).add 1) = some (.int .i64 y.now) ∧ W.cell? ((a'.add (i * 5)).add 2) = some (.int .i64 y.p.batch) ∧ W.cell? ((a'.add (i * 5)).add 3) = some (.int .i64 y.p.till) ∧ W.cell? ((a'.add (i * 5)).add 4) = some (.bool y.p.nowait) := by
      intro i hi
      obtain ⟨z, _, h2⟩ := he i hi
      rw [Option.bind_eq_some_iff] at h2
      obtain ⟨cs, h3, h4⟩ := h2
      obtain ⟨y, rfl⟩ := wish_reads h4
      obtain ⟨_, h5⟩ := cells_at h3
      exact ⟨y, h5 0 (by omega), h5 1 (by omega), h5 2 (by omega), h5 3 (by omega), h5 4 (by omega)⟩
    refine pullsPlay_walk (some a') n cap (fun i => if h : i < n then (hcell i h).choose else ⟨0, 0, ⟨0, 0, false⟩⟩) W hlc (fun hn => ?_)
    have ha : a' = ⟨a'.block, a'.off, none⟩ := by
      obtain ⟨x, hx, _⟩ := hcell 0 (by omega)
      have h0 : a'.add (0 * 5) = a' := by rw [Nat.zero_mul]; rfl
      rw [h0] at hx
      exact addr_flat hx
    refine ⟨a'.block, a'.off, by rw [← ha], fun i hi => ?_⟩
    simp only [dif_pos hi]
    have h1 := (hcell i hi).choose_spec
    generalize (hcell i hi).choose = y at h1 ⊢
    rw [ha] at h1
    simp only [Addr.add_lit] at h1
    exact h1

end Go.Proofs.Ytglgbidcmkncgaa.Pull
