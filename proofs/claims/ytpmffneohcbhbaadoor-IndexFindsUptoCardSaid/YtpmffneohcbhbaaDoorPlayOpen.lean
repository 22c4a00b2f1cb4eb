/- Slices of calls (rilllaw.Put) and of texts among the parameters, opened. -/
import Derived.Test.YtpmffneohcbhbaaDoorCard
import Derived.Test.YtpmffneohcbhbaaDoorRefTakes1
import Derived.ChangeSlices
namespace Go.Proofs.YtpmffneohcbhbaaDoor.Shf
open Go.RowKit
open Subj (Tok Strs strAt)

structure PutP where
  kind : Int
  text : ByteArray
  num : Int

/-- A slice of calls. -/
def PutsAt (w : World) (ao : Option Addr) (n : Nat) (f : Nat → PutP) : Prop :=
  0 < n → ∃ g off, ao = some ⟨g, off, none⟩ ∧ ∀ i, i < n →
    w.cell? ⟨g, off + i * 3, none⟩ = some (.int .i64 (f i).kind) ∧ w.cell? ⟨g, off + i * 3 + 1, none⟩ = some (.string (f i).text) ∧ w.cell? ⟨g, off + i * 3 + 2, none⟩ = some (.int .i64 (f i).num) ∧ (f i).text.size ≤ 1048576

theorem cells_put : Tryd.prog.cellsOf 30 = 3 := by kernel_rfl
theorem cells_intP : Tryd.prog.cellsOf 3 = 1 := by kernel_rfl
theorem cells_strP : Tryd.prog.cellsOf 9 = 1 := by kernel_rfl

theorem addr_flatP {w : World} {a : Addr} {v : Value} (h : w.cell? a = some v) : a = ⟨a.block, a.off, none⟩ := by
  cases a with
  | mk b o s =>
    cases s with
    | none => rfl
    | some s =>
      unfold World.cell? at h
      simp only at h
      split at h <;> simp at h

/-- Cells side by side, one by one. -/
theorem cells_atP {w : World} {base : Nat} {a : Addr} {n : Nat} {cs : List Value} (h : w.cells? base a n = some cs) : cs.length = n ∧ ∀ i, i < n → w.cell? (a.add i) = cs[i]? := by
  unfold World.cells? at h
  split at h
  · obtain ⟨h1, h2⟩ := mapM_get h
    refine ⟨by simpa using h1, fun i hi => ?_⟩
    obtain ⟨y, h3, h4⟩ := h2 i i (by simp [hi])
    rw [h3]
    exact h4
  · cases h

theorem bulk_textP {H : Type} (s : ByteArray) : Rows.uptoBulk (DataW.lit (H := H) (.string s.data.toList)) = s.size + 1 := by
  simp only [Rows.uptoBulk, Array.length_toList]; rfl

theorem list3 {α : Type} {l : List α} (h : l.length = 3) : ∃ a b c, l = [a, b, c] := by
  match l, h with
  | [a, b, c], _ => exact ⟨a, b, c, rfl⟩

set_option maxRecDepth 100000 in
open Go.WideShapes Go.ChangeShapes in
/-- One call among what was read. -/
theorem open_put {H : Type} {enc : TypeId × Value → H} {W : World} {base fuel : Nat} {held : Bool} {cs : List Value} {y : DataW H × List MemPlace}
    (h : DataW.trod enc Tryd.prog W base (fun _ => true) held fuel 30 cs = some y) (hk : Rows.uptoBulk y.1 ≤ 1048576) :
    ∃ p : PutP, cs = [.int .i64 p.kind, .string p.text, .int .i64 p.num] ∧ p.text.size ≤ 1048576 := by
  obtain ⟨n, hlen, xs, hd, hm⟩ := rd_struct Tryd.underlying30 h
  obtain ⟨hl, hg⟩ := mapM_get hm
  rw [cells_put] at hlen
  obtain ⟨c0, c1, c2, rfl⟩ := list3 hlen
  obtain ⟨z0, w0, q0⟩ := hg 0 _ rfl
  obtain ⟨z1, w1, q1⟩ := hg 1 _ rfl
  obtain ⟨z2, w2, q2⟩ := hg 2 _ rfl
  clear hg hm
  simp only [cells_intP, cells_strP] at q0 q1 q2
  obtain ⟨a0, e0, _⟩ := rd_int Tryd.underlying3 q0
  obtain ⟨a1, e1, _, f1⟩ := rd_string Tryd.underlying9 q1
  obtain ⟨a2, e2, _⟩ := rd_int Tryd.underlying3 q2
  simp at e0 e1 e2
  subst e0 e1 e2
  refine ⟨⟨a0, a1, a2⟩, rfl, ?_⟩
  have h1 := bulk_part (d := z1.1) (l := xs.map (·.1)) (List.mem_map.2 ⟨z1, List.mem_of_getElem? w1, rfl⟩)
  rw [hd] at hk
  simp only [Rows.uptoBulk] at hk
  rw [f1, bulk_textP] at h1
  show a1.size ≤ _
  omega

set_option maxRecDepth 100000 in
open Go.WideShapes Go.ChangeShapes in
theorem open_puts {H : Type} {enc : TypeId × Value → H} {W : World} {fuel : Nat} {held : Bool} {cs : List Value} {y : DataW H × List MemPlace}
    (h : DataW.trod enc Tryd.prog W 0 (fun _ => true) held fuel 22 cs = some y) (hk : Rows.uptoBulk y.1 ≤ 1048576) :
    ∃ ao n cap f, cs = [.slice ao n cap] ∧ PutsAt W ao n f ∧ n ≤ 9223372036854775807 := by
  rcases rd_slice Tryd.underlying22 h with ⟨e0, ey⟩ | ⟨a, n, cap, m, e0, hlc, hcm, elems, rest, ey, hel, _, he, _⟩
  · exact ⟨none, 0, 0, fun _ => ⟨0, ⟨#[]⟩, 0⟩, e0, fun h => by omega, by omega⟩
  · rw [cells_put] at he
    have hall : ∀ d ∈ elems.map (·.1), Rows.uptoBulk d ≤ 1048576 := by
      intro d hd
      rw [ey] at hk
      have := bulk_part hd
      simp only [Rows.uptoBulk] at hk; omega
    have hcell : ∀ i, i < n → ∃ p : PutP, (W.cell? (a.add (i * 3)) = some (.int .i64 p.kind) ∧ W.cell? ((a.add (i * 3)).add 1) = some (.string p.text) ∧ W.cell? ((a.add (i * 3)).add 2) = some (.int .i64 p.num)) ∧ p.text.size ≤ 1048576 := by
      intro i hi
      obtain ⟨z, hz, h2⟩ := he i hi
      rw [Option.bind_eq_some_iff] at h2
      obtain ⟨cs, h3, h4⟩ := h2
      obtain ⟨_, h6⟩ := cells_atP h3
      obtain ⟨p, rfl, r1⟩ := open_put h4 (hall _ (List.mem_map.2 ⟨z, List.mem_of_getElem? hz, rfl⟩))
      refine ⟨p, ⟨?_, h6 1 (by omega), h6 2 (by omega)⟩, r1⟩
      have := h6 0 (by omega)
      exact this
    refine ⟨some a, n, cap, fun i => if h : i < n then (hcell i h).choose else ⟨0, ⟨#[]⟩, 0⟩, e0, fun hnp => ?_, ?_⟩
    · have ha : a = ⟨a.block, a.off, none⟩ := by
        obtain ⟨p, ⟨hs, _⟩, _⟩ := hcell 0 hnp
        have h0 : a.add (0 * 3) = a := by rw [Nat.zero_mul]; rfl
        rw [h0] at hs
        exact addr_flatP hs
      refine ⟨a.block, a.off, by rw [← ha], fun i hi => ?_⟩
      have h1 := (hcell i hi).choose_spec
      simp only [hi, dif_pos]
      generalize (hcell i hi).choose = z at h1 ⊢
      rw [ha] at h1
      simp only [Addr.add_lit] at h1
      exact ⟨h1.1.1, h1.1.2.1, h1.1.2.2, h1.2⟩
    · have : maxLen ≤ 9223372036854775807 := by unfold maxLen; omega
      omega

set_option maxRecDepth 100000 in
open Go.WideShapes Go.ChangeShapes in
/-- A slice of texts, opened. -/
theorem open_names {H : Type} {enc : TypeId × Value → H} {W : World} {fuel : Nat} {held : Bool} {cs : List Value} {y : DataW H × List MemPlace}
    (h : DataW.trod enc Tryd.prog W 0 (fun _ => true) held fuel 43 cs = some y) (hk : Rows.uptoBulk y.1 ≤ 1048576) :
    ∃ ao n cap fs, cs = [.slice ao n cap] ∧ fs.length = n ∧ Strs W (.slice ao n cap) fs ∧ (∀ f ∈ fs, f.length ≤ 1048576) ∧ n ≤ 9223372036854775807 := by
  rcases rd_slice Tryd.underlying43 h with ⟨e0, ey⟩ | ⟨a, n, cap, m, e0, hlc, hcm, elems, rest, ey, hel, _, he, _⟩
  · exact ⟨none, 0, 0, [], e0, rfl, ⟨none, 0, rfl, Nat.le_refl _, fun h => absurd rfl h⟩, by simp, by omega⟩
  · rw [cells_strP] at he
    have hall : ∀ d ∈ elems.map (·.1), Rows.uptoBulk d ≤ 1048576 := by
      intro d hd
      rw [ey] at hk
      have := bulk_part hd
      simp only [Rows.uptoBulk] at hk; omega
    have hcell : ∀ i, i < n → ∃ s : ByteArray, W.cell? (a.add (i * 1)) = some (.string s) ∧ s.size ≤ 1048576 := by
      intro i hi
      obtain ⟨z, hz, h2⟩ := he i hi
      rw [Option.bind_eq_some_iff] at h2
      obtain ⟨cs, h3, h4⟩ := h2
      obtain ⟨s, rfl, _, h5⟩ := rd_string Tryd.underlying9 h4
      obtain ⟨_, h6⟩ := cells_atP h3
      refine ⟨s, h6 0 (by omega), ?_⟩
      have h7 := hall z.1 (List.mem_map.2 ⟨z, List.mem_of_getElem? hz, rfl⟩)
      rw [h5, bulk_textP] at h7
      omega
    refine ⟨some a, n, cap, (List.range n).map (fun i => if h : i < n then (hcell i h).choose.data.toList else []), e0, by simp, ⟨some a, cap, by simp, by simpa using hlc, fun hne => ?_⟩, ?_, ?_⟩
    · have hnp : 0 < n := by
        rcases Nat.eq_zero_or_pos n with e | e
        · exact absurd (by simp [e]) hne
        · exact e
      have ha : a = ⟨a.block, a.off, none⟩ := by
        obtain ⟨s, hs, _⟩ := hcell 0 hnp
        have h0 : a.add (0 * 1) = a := by rw [Nat.zero_mul]; rfl
        rw [h0] at hs
        exact addr_flatP hs
      refine ⟨a.block, a.off, by rw [← ha], fun i hi => ?_⟩
      have hi' : i < n := by simpa using hi
      have h1 := (hcell i hi').choose_spec.1
      have h2 : strAt ((List.range n).map (fun i => if h : i < n then (hcell i h).choose.data.toList else [])) i = (hcell i hi').choose := by
        unfold strAt
        simp [List.getD, hi']
      rw [h2]
      generalize (hcell i hi').choose = z at h1 ⊢
      rw [ha, Nat.mul_one, Addr.add_lit] at h1
      exact h1
    · intro f hf
      obtain ⟨i, hi, rfl⟩ := List.mem_map.1 hf
      have hi' : i < n := by simpa using hi
      have h2 := (hcell i hi').choose_spec.2
      rw [dif_pos hi']
      simp only [Array.length_toList]
      exact h2
    · have : maxLen ≤ 9223372036854775807 := by unfold maxLen; omega
      omega
end Go.Proofs.YtpmffneohcbhbaaDoor.Shf
