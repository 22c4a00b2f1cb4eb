/- A record among the parameters, opened; the law RecordSays as its card wants it. -/
import Derived.Test.YtmeaenmialaghaaDoorRecSays
import Derived.Test.YtmeaenmialaghaaDoorCard
namespace Go.Proofs.YtmeaenmialaghaaDoor.Rec
open Go.RowKit Subj

theorem list6 {α : Type} {l : List α} (h : l.length = 6) : ∃ a b c d e f, l = [a, b, c, d, e, f] := by
  match l, h with
  | [a, b, c, d, e, f], _ => exact ⟨a, b, c, d, e, f, rfl⟩

theorem cells_record : Tryd.prog.cellsOf 32 = 6 := by kernel_rfl
theorem cells_int : Tryd.prog.cellsOf 3 = 1 := by kernel_rfl
theorem cells_str : Tryd.prog.cellsOf 9 = 1 := by kernel_rfl

open Go.WideShapes Go.ChangeShapes in
theorem open_record {H : Type} {enc : TypeId × Value → H} {W : World} {base : Nat} {v0 : Value} {d0 : DataW H} {p0 : List MemPlace}
    (h0 : DataW.Trod enc Tryd.prog W 0 (fun _ => true) true 32 v0 d0 p0) (o0 : Value.okWide Tryd.prog W .any base 32 v0) :
    ∃ k q t s h d, v0 = .agg (recA k q t s h d) ∧ (Lit.int .i64 k).wf = true ∧ (Lit.int .i64 q).wf = true ∧ (Lit.int .i64 t).wf = true ∧
      ∃ x y z, d0 = .agg [x, y, z, .lit (.string s.data.toList), .lit (.string h.data.toList), .lit (.string d.data.toList)] := by
  obtain ⟨cs, rfl, hcs⟩ := okWide_struct Tryd.underlying32 o0
  obtain ⟨fuel, hf⟩ := h0
  obtain ⟨n, hlen, xs, hd, hm⟩ := rd_struct Tryd.underlying32 hf
  obtain ⟨hl, hg⟩ := mapM_get hm
  obtain ⟨c0, c1, c2, c3, c4, c5, hc⟩ := list6 (l := cs.toList) (by rw [← cells_record]; simpa using hcs)
  obtain rfl : cs = #[c0, c1, c2, c3, c4, c5] := by cases cs; simp_all
  obtain ⟨y0, y1, y2, y3, y4, y5, hx⟩ := list6 (l := xs) (by rw [hl]; rfl)
  subst hx
  obtain ⟨z0, w0, q0⟩ := hg 0 _ rfl
  obtain ⟨z1, w1, q1⟩ := hg 1 _ rfl
  obtain ⟨z2, w2, q2⟩ := hg 2 _ rfl
  obtain ⟨z3, w3, q3⟩ := hg 3 _ rfl
  obtain ⟨z4, w4, q4⟩ := hg 4 _ rfl
  obtain ⟨z5, w5, q5⟩ := hg 5 _ rfl
  simp at w0 w1 w2 w3 w4 w5
  subst w0 w1 w2 w3 w4 w5
  simp only [cells_int, cells_str, Value.cells] at q0 q1 q2 q3 q4 q5
  obtain ⟨k, e0, f0⟩ := rd_int Tryd.underlying3 q0
  obtain ⟨q, e1, f1⟩ := rd_int Tryd.underlying3 q1
  obtain ⟨t, e2, f2⟩ := rd_int Tryd.underlying3 q2
  obtain ⟨s, e3, _, f3⟩ := rd_string Tryd.underlying9 q3
  obtain ⟨h, e4, _, f4⟩ := rd_string Tryd.underlying9 q4
  obtain ⟨d, e5, _, f5⟩ := rd_string Tryd.underlying9 q5
  simp at e0 e1 e2 e3 e4 e5
  subst e0 e1 e2 e3 e4 e5
  have hd : d0 = _ := hd
  simp only [List.map_cons, List.map_nil, f3, f4, f5] at hd
  exact ⟨k, q, t, s, h, d, rfl, f0, f1, f2, _, _, _, hd⟩

/-- A part of a struct's bulk. -/
theorem agg_text {H : Type} {l : List (DataW H)} {parts : List (DataW H)} {s : ByteArray} (hk : Rows.uptoSmall H l = true) (h : DataW.agg parts ∈ l) (hs : DataW.lit (.string s.data.toList) ∈ parts) : s.size ≤ 1048576 := by
  have h1 := bulk_bound hk
  have h2 := bulk_part h
  have h3 := bulk_part hs
  have h4 : Rows.uptoBulk (DataW.lit (H := H) (.string s.data.toList)) = s.size + 1 := by simp only [Rows.uptoBulk, Array.length_toList]; rfl
  have h5 : Rows.uptoBulk (DataW.agg parts) = Rows.uptoBulkAll parts + 1 := by simp only [Rows.uptoBulk]
  omega

open Go.WideShapes Go.ChangeShapes in
theorem recordSays_calls {H : Type} (enc : TypeId × Value → H) (W : World) (base : Nat) (v0 : Value) (d0 : DataW H) (p0 : List MemPlace)
    (h0 : DataW.Trod enc Tryd.prog W 0 (fun _ => true) true 32 v0 d0 p0) (o0 : Value.okWide Tryd.prog W .any base 32 v0)
    (hk : Rows.uptoSmall H ([d0] ++ []) = true) (hM : ML W) :
    Calls Tryd.prog 7 #[v0] W fun e w' => e = .returned (.bool true) ∧ Below W.heap.size W w' := by
  obtain ⟨k, q, t, s, h, d, rfl, _, _, _, x, y, z, rfl⟩ := open_record h0 o0
  exact (recordSays_walk k q t s h d W (agg_text hk (List.mem_cons_self ..) (by simp)) (agg_text hk (List.mem_cons_self ..) (by simp)) (agg_text hk (List.mem_cons_self ..) (by simp)) hM).mono fun _ _ ⟨a, b⟩ => ⟨a, b.2⟩
end Go.Proofs.YtmeaenmialaghaaDoor.Rec
