/- DiskPlays, from what it is handed. -/
import Derived.Test.YtglgbidcmkncgaaDrawPlays
import Derived.Test.YtglgbidcmkncgaaDiskCalls
namespace Go.Proofs.Ytglgbidcmkncgaa.Drw
open Go.RowKit Heap Dsk

theorem cells_act : Try.prog.cellsOf 61 = 4 := by kernel_rfl
theorem cells_intD : Try.prog.cellsOf 3 = 1 := by kernel_rfl

theorem wf_back {n : Int} (h : (Lit.int .i64 n).wf = true) : -9223372036854775808 ≤ n ∧ n ≤ 9223372036854775807 := by
  simp [Lit.wf] at h
  first | omega | exact h

theorem weightsAll_memD {H : Type} {P : Program} {e : TypeId} : ∀ {l : List (DataW H)} {d : DataW H}, d ∈ l → ∀ n ∈ d.weights P e, n ∈ DataW.weightsAll P e l
  | a :: r, d, h, n, hn => by
    simp only [DataW.weightsAll, List.mem_append]
    rcases List.mem_cons.1 h with rfl | h
    · exact .inl hn
    · exact .inr (weightsAll_memD h n hn)

theorem list4 {α : Type} {l : List α} (h : l.length = 4) : ∃ a b c d, l = [a, b, c, d] := by
  match l, h with
  | [a, b, c, d], _ => exact ⟨a, b, c, d, rfl⟩

set_option maxRecDepth 100000 in
open Go.WideShapes Go.ChangeShapes in
/-- One act among what was read. -/
theorem open_act {H : Type} {enc : TypeId × Value → H} {W : World} {base fuel : Nat} {held : Bool} {cs : List Value} {y : DataW H × List MemPlace}
    (h : DataW.trod enc Try.prog W base (fun _ => true) held fuel 61 cs = some y) (hw : ∀ x ∈ y.1.weights Try.prog 61, x ≤ reachBytes) :
    ∃ p : ActP, cs = [.int .i64 p.kind, .int .i64 p.file, .int .i64 p.num, .string p.text] ∧ (-9223372036854775808 ≤ p.file ∧ p.file ≤ 9223372036854775807) ∧ (-9223372036854775808 ≤ p.num ∧ p.num ≤ 9223372036854775807) ∧ p.text.size ≤ 4611686018427387904 := by
  obtain ⟨n, hlen, xs, hd, hm⟩ := rd_struct Try.underlying61 h
  obtain ⟨hl, hg⟩ := mapM_get hm
  rw [cells_act] at hlen
  obtain ⟨c0, c1, c2, c3, rfl⟩ := list4 hlen
  obtain ⟨z0, w0, q0⟩ := hg 0 _ rfl
  obtain ⟨z1, w1, q1⟩ := hg 1 _ rfl
  obtain ⟨z2, w2, q2⟩ := hg 2 _ rfl
  obtain ⟨z3, w3, q3⟩ := hg 3 _ rfl
  clear hg hm
  simp only [cells_intD, cells_strD] at q0 q1 q2 q3
  obtain ⟨a0, e0, _⟩ := rd_int Try.underlying3 q0
  obtain ⟨a1, e1, f1⟩ := rd_int Try.underlying3 q1
  obtain ⟨a2, e2, f2⟩ := rd_int Try.underlying3 q2
  obtain ⟨a3, e3, _, f3⟩ := rd_string Try.underlying9 q3
  simp at e0 e1 e2 e3
  subst e0 e1 e2 e3
  refine ⟨⟨a0, a1, a2, a3⟩, rfl, wf_back f1, wf_back f2, ?_⟩
  have hmem : a3.size ∈ y.1.weights Try.prog 61 := by
    rw [hd]
    have hxl : xs.length = 4 := by rw [hl]; rfl
    obtain ⟨x0, x1, x2, x3, rfl⟩ := list4 hxl
    simp only [List.getElem?_cons_succ, List.getElem?_cons_zero, Option.some.injEq] at w3
    rw [← w3] at f3
    simp only [DataW.weights, Try.underlying61, List.map_cons, List.map_nil, DataW.weightsEach, f3, List.mem_append]
    simp
  have := hw _ hmem
  unfold reachBytes at this
  show a3.size ≤ _
  omega

set_option maxRecDepth 100000 in
open Go.WideShapes Go.ChangeShapes in
theorem open_acts {H : Type} {enc : TypeId × Value → H} {W : World} {fuel : Nat} {cs : List Value} {y : DataW H × List MemPlace}
    (h : DataW.trod enc Try.prog W 0 (fun _ => true) true fuel 54 cs = some y) (hw : ∀ x ∈ y.1.weights Try.prog 54, x ≤ reachBytes) :
    ∃ ao n cap f, cs = [.slice ao n cap] ∧ ActsAt W ao n f ∧ n ≤ 9223372036854775807 := by
  rcases rd_slice Try.underlying54 h with ⟨e0, ey⟩ | ⟨a, n, cap, m, e0, hlc, hcm, elems, rest, ey, hel, _, he, _⟩
  · exact ⟨none, 0, 0, fun _ => ⟨0, 0, 0, ⟨#[]⟩⟩, e0, fun h => by omega, by omega⟩
  · rw [cells_act] at he
    have hcell : ∀ i, i < n → ∃ p : ActP, (W.cell? (a.add (i * 4)) = some (.int .i64 p.kind) ∧ W.cell? ((a.add (i * 4)).add 1) = some (.int .i64 p.file) ∧ W.cell? ((a.add (i * 4)).add 2) = some (.int .i64 p.num) ∧ W.cell? ((a.add (i * 4)).add 3) = some (.string p.text)) ∧ (-9223372036854775808 ≤ p.file ∧ p.file ≤ 9223372036854775807) ∧ (-9223372036854775808 ≤ p.num ∧ p.num ≤ 9223372036854775807) ∧ p.text.size ≤ 4611686018427387904 := by
      intro i hi
      obtain ⟨z, hz, h2⟩ := he i hi
      rw [Option.bind_eq_some_iff] at h2
      obtain ⟨cs, h3, h4⟩ := h2
      obtain ⟨_, h6⟩ := cells_atD h3
      obtain ⟨p, rfl, r1, r2, r3⟩ := open_act h4 (fun x hx => hw x (by
        rw [ey]
        simp only [DataW.weights, Try.underlying54, List.mem_cons, List.mem_append]
        exact .inr (.inl (weightsAll_memD (List.mem_map.2 ⟨z, List.mem_of_getElem? hz, rfl⟩) x hx))))
      refine ⟨p, ⟨?_, h6 1 (by omega), h6 2 (by omega), h6 3 (by omega)⟩, r1, r2, r3⟩
      have := h6 0 (by omega)
      exact this
    refine ⟨some a, n, cap, fun i => if h : i < n then (hcell i h).choose else ⟨0, 0, 0, ⟨#[]⟩⟩, e0, fun hnp => ?_, ?_⟩
    · have ha : a = ⟨a.block, a.off, none⟩ := by
        obtain ⟨p, ⟨hs, _⟩, _⟩ := hcell 0 hnp
        have h0 : a.add (0 * 4) = a := by rw [Nat.zero_mul]; rfl
        rw [h0] at hs
        exact addr_flatD hs
      refine ⟨a.block, a.off, by rw [← ha], fun i hi => ?_⟩
      have h1 := (hcell i hi).choose_spec
      simp only [hi, dif_pos]
      generalize (hcell i hi).choose = z at h1 ⊢
      rw [ha] at h1
      simp only [Addr.add_lit] at h1
      exact ⟨h1.1.1, h1.1.2.1, h1.1.2.2.1, h1.1.2.2.2, h1.2⟩
    · have : maxLen ≤ 9223372036854775807 := by unfold maxLen; omega
      omega

set_option maxRecDepth 100000 in
open Go.WideShapes Go.ChangeShapes in
theorem diskPlays_calls {H : Type} (enc : TypeId × Value → H) (W : World) (base : Nat) (v0 v1 v2 : Value) (d0 d1 d2 : DataW H) (p0 p1 p2 : List MemPlace)
    (h0 : DataW.Trod enc Try.prog W 0 (fun _ => true) true 3 v0 d0 p0) (h1 : DataW.Trod enc Try.prog W 0 (fun _ => true) true 54 v1 d1 p1) (h2 : DataW.Trod enc Try.prog W 0 (fun _ => true) true 3 v2 d2 p2)
    (o0 : Value.okWide Try.prog W .any base 3 v0) (o1 : Value.okWide Try.prog W .any base 54 v1) (o2 : Value.okWide Try.prog W .any base 3 v2)
    (hsz : (DataW.weightsEach Try.prog ([3, 54, 3] ++ Rows.diskPlaysSpec.plain.varTypes Try.prog) ([d0, d1, d2] ++ [])).all (· ≤ reachBytes) = true) :
    Calls Try.prog 6 #[v0, v1, v2] W fun e w' => e = .returned (.bool true) ∧ Below W.heap.size W w' := by
  obtain ⟨room, rfl, _, _, _⟩ := open_int Try.underlying3 o0 h0
  obtain ⟨num, rfl, _, _, wf2⟩ := open_int Try.underlying3 o2 h2
  obtain ⟨a, n, cap, rfl⟩ := okWide_slice Try.underlying54 o1
  obtain ⟨fuel, hf⟩ := h1
  obtain ⟨ao, n', cap', f, hcs, hS, hn⟩ := open_acts hf (fun x hx => by
    have := List.all_eq_true.1 hsz x (by
      simp only [List.cons_append, DataW.weightsEach, List.mem_append]
      exact .inr (.inl hx))
    simpa using this)
  simp [Value.cells] at hcs
  obtain ⟨rfl, rfl, rfl⟩ := hcs
  exact diskPlays_walk a n cap f room num (wf_back wf2) hn hS
end Go.Proofs.Ytglgbidcmkncgaa.Drw
