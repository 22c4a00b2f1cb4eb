/- Parts of the proof, joined: What the cards of this seat share: a world whose tables are laid; the bound of a text; the length's cell.; A slice of records among the parameters, opened.; VaultPlays, from what it is handed. -/
import Derived.Test.YtidacfhdhdnidaaGreatDoorVaultPlaysUptoM47
import Derived.Test.YtidacfhdhdnidaaGreatDoorTie
import Derived.Test.YtidacfhdhdnidaaGreatDoorCards
import Derived.Deep.DeepHandedRow
import Derived.Lib.LaidTab
import Derived.ChangeSlices
import Derived.ChangeMaps5
namespace Go.Proofs.YtidacfhdhdnidaaGreatDoor
open Go.ChangeShapes Go.WideShapes Go.ChangeAt Go.RowKit

def laidList : List (String × DataW Unit) := [("unicode/utf8.acceptRanges", Rows.laid_unicode_utf8_acceptRanges), ("unicode/utf8.first", Rows.laid_unicode_utf8_first)]

def acceptZ : List Nat := [128, 191, 160, 191, 128, 159, 144, 191, 128, 143] ++ List.replicate 22 0

/-- A world for the witness: the settled one, the tables holding what their initialisers lay. -/
noncomputable def laidWorld (os : Os) : World :=
  { World.holding Tryz.prog os ⟨#[], #[], []⟩ with heap := (((World.holding Tryz.prog os ⟨#[], #[], []⟩).heap.modify 1 (fun
      | .cells _ t frozen => .cells (Go.Pinned.utf8FirstZ.map fun (z : Nat) => Value.int .u8 z).toArray t frozen
      | o => o)).modify 2 (fun
      | .cells _ t frozen => .cells (acceptZ.map fun (z : Nat) => Value.int .u8 z).toArray t frozen
      | o => o)) }

set_option maxRecDepth 100000 in
theorem laid_met (os : Os) (args : Array Value) : laidMet Tryz.prog laidList ((laidWorld os).forCall (fun _ _ => 0) ⟨#[], args, []⟩).memory :=
  laidMet_of_run' 8 (by kernel_rfl) (by kernel_rfl)

theorem ml_shaped {W : World} (h : W.ShapedOpen Tryz.prog) : Subj.ML W := Tryz.laysM146.s1_3 W h

/-- A part's bulk is at most the whole's. -/
theorem bulk_part {H : Type} {d : DataW H} : ∀ {l : List (DataW H)}, d ∈ l → Rows.uptoBulk d ≤ Rows.uptoBulkAll l
  | [], h => by cases h
  | x :: r, h => by
    simp only [Rows.uptoBulkAll]
    cases List.mem_cons.1 h with
    | inl e => subst e; omega
    | inr e => have := bulk_part e; omega

theorem bulk_bound {H : Type} {l : List (DataW H)} (hk : Rows.uptoSmall H l = true) : Rows.uptoBulkAll l ≤ 1048576 := of_decide_eq_true hk

/-- A text that is a part of what came in: at most so long. -/
theorem text_bound {H : Type} {l : List (DataW H)} {s : ByteArray} (hk : Rows.uptoSmall H l = true) (h : DataW.lit (.string s.data.toList) ∈ l) : s.size ≤ 1048576 := by
  have h1 := bulk_bound hk
  have h2 := bulk_part h
  have h3 : Rows.uptoBulk (DataW.lit (H := H) (.string s.data.toList)) = s.size + 1 := by simp only [Rows.uptoBulk, Array.length_toList]; rfl
  omega

end Go.Proofs.YtidacfhdhdnidaaGreatDoor

namespace Go.Proofs.YtidacfhdhdnidaaGreatDoor.Sto
open Go.RowKit
open Rec (Rc)

theorem cells_recO : Tryz.prog.cellsOf 33 = 6 := by kernel_rfl
theorem cells_intO : Tryz.prog.cellsOf 3 = 1 := by kernel_rfl
theorem cells_strO : Tryz.prog.cellsOf 9 = 1 := by kernel_rfl

theorem addr_flatO {w : World} {a : Addr} {v : Value} (h : w.cell? a = some v) : a = ⟨a.block, a.off, none⟩ := by
  cases a with
  | mk b o s =>
    cases s with
    | none => rfl
    | some s =>
      unfold World.cell? at h
      simp only at h
      split at h <;> simp at h

/-- Cells side by side, one by one. -/
theorem cells_atO {w : World} {base : Nat} {a : Addr} {n : Nat} {cs : List Value} (h : w.cells? base a n = some cs) : cs.length = n ∧ ∀ i, i < n → w.cell? (a.add i) = cs[i]? := by
  unfold World.cells? at h
  split at h
  · obtain ⟨h1, h2⟩ := mapM_get h
    refine ⟨by simpa using h1, fun i hi => ?_⟩
    obtain ⟨y, h3, h4⟩ := h2 i i (by simp [hi])
    rw [h3]
    exact h4
  · cases h

theorem bulk_textO {H : Type} (s : ByteArray) : Rows.uptoBulk (DataW.lit (H := H) (.string s.data.toList)) = s.size + 1 := by
  simp only [Rows.uptoBulk, Array.length_toList]; rfl

theorem list6O {α : Type} {l : List α} (h : l.length = 6) : ∃ a b c d e f, l = [a, b, c, d, e, f] := by
  match l, h with
  | [a, b, c, d, e, f], _ => exact ⟨a, b, c, d, e, f, rfl⟩

theorem str_back (s : ByteArray) : (⟨s.data.toList.toArray⟩ : ByteArray) = s := by cases s; simp

set_option maxRecDepth 100000 in
open Go.WideShapes Go.ChangeShapes in
/-- One record among what was read. -/
theorem open_rec {H : Type} {enc : TypeId × Value → H} {W : World} {base fuel : Nat} {held : Bool} {cs : List Value} {y : DataW H × List MemPlace}
    (h : DataW.trod enc Tryz.prog W base (fun _ => true) held fuel 33 cs = some y) (hk : Rows.uptoBulk y.1 ≤ 1048576) :
    ∃ p : Rc, cs = recC p ∧ Fits p := by
  obtain ⟨n, hlen, xs, hd, hm⟩ := rd_struct Tryz.underlying33 h
  obtain ⟨hl, hg⟩ := mapM_get hm
  rw [cells_recO] at hlen
  obtain ⟨c0, c1, c2, c3, c4, c5, rfl⟩ := list6O hlen
  obtain ⟨z0, w0, q0⟩ := hg 0 _ rfl
  obtain ⟨z1, w1, q1⟩ := hg 1 _ rfl
  obtain ⟨z2, w2, q2⟩ := hg 2 _ rfl
  obtain ⟨z3, w3, q3⟩ := hg 3 _ rfl
  obtain ⟨z4, w4, q4⟩ := hg 4 _ rfl
  obtain ⟨z5, w5, q5⟩ := hg 5 _ rfl
  clear hg hm
  simp only [cells_intO, cells_strO] at q0 q1 q2 q3 q4 q5
  obtain ⟨a0, e0, _⟩ := rd_int Tryz.underlying3 q0
  obtain ⟨a1, e1, _⟩ := rd_int Tryz.underlying3 q1
  obtain ⟨a2, e2, _⟩ := rd_int Tryz.underlying3 q2
  obtain ⟨a3, e3, _, f3⟩ := rd_string Tryz.underlying9 q3
  obtain ⟨a4, e4, _, f4⟩ := rd_string Tryz.underlying9 q4
  obtain ⟨a5, e5, _, f5⟩ := rd_string Tryz.underlying9 q5
  simp at e0 e1 e2 e3 e4 e5
  subst e0 e1 e2 e3 e4 e5
  rw [hd] at hk
  simp only [Rows.uptoBulk] at hk
  have hb : ∀ z ∈ xs, Rows.uptoBulk z.1 ≤ 1048576 := fun z hz => by
    have := bulk_part (d := z.1) (l := xs.map (·.1)) (List.mem_map.2 ⟨z, hz, rfl⟩)
    omega
  have b3 := hb _ (List.mem_of_getElem? w3)
  have b4 := hb _ (List.mem_of_getElem? w4)
  have b5 := hb _ (List.mem_of_getElem? w5)
  rw [f3, bulk_textO] at b3
  rw [f4, bulk_textO] at b4
  rw [f5, bulk_textO] at b5
  refine ⟨⟨a0, a1, a2, a3.data.toList, a4.data.toList, a5.data.toList⟩, by simp only [recC, str_back], ?_, ?_, ?_⟩
  · show a3.data.toList.length ≤ _
    rw [show a3.data.toList.length = a3.size by simp]; omega
  · show a4.data.toList.length ≤ _
    rw [show a4.data.toList.length = a4.size by simp]; omega
  · show a5.data.toList.length ≤ _
    rw [show a5.data.toList.length = a5.size by simp]; omega

set_option maxRecDepth 100000 in
open Go.WideShapes Go.ChangeShapes in
theorem open_recs {H : Type} {enc : TypeId × Value → H} {W : World} {fuel : Nat} {held : Bool} {cs : List Value} {y : DataW H × List MemPlace}
    (h : DataW.trod enc Tryz.prog W 0 (fun _ => true) held fuel 25 cs = some y) (hk : Rows.uptoBulk y.1 ≤ 1048576) :
    ∃ ao n cap l, cs = [.slice ao n cap] ∧ RecsAt W (.slice ao n cap) l ∧ ∀ r ∈ l, Fits r := by
  rcases rd_slice Tryz.underlying25 h with ⟨e0, ey⟩ | ⟨a, n, cap, m, e0, hlc, hcm, elems, rest, ey, hel, _, he, _⟩
  · exact ⟨none, 0, 0, [], e0, ⟨none, 0, rfl, fun h => absurd rfl h⟩, (fun _ h => by cases h)⟩
  · rw [cells_recO] at he
    have hall : ∀ d ∈ elems.map (·.1), Rows.uptoBulk d ≤ 1048576 := by
      intro d hd
      rw [ey] at hk
      have := bulk_part hd
      simp only [Rows.uptoBulk] at hk; omega
    have hcell : ∀ i, i < n → ∃ p : Rc, (∀ j, j < 6 → W.cell? ((a.add (i * 6)).add j) = (recC p)[j]?) ∧ Fits p := by
      intro i hi
      obtain ⟨z, hz, h2⟩ := he i hi
      rw [Option.bind_eq_some_iff] at h2
      obtain ⟨cs, h3, h4⟩ := h2
      obtain ⟨_, h6⟩ := cells_atO h3
      obtain ⟨p, rfl, r1⟩ := open_rec h4 (hall _ (List.mem_map.2 ⟨z, List.mem_of_getElem? hz, rfl⟩))
      exact ⟨p, h6, r1⟩
    refine ⟨some a, n, cap, (List.range n).map (fun i => if h : i < n then (hcell i h).choose else ⟨0, 0, 0, [], [], []⟩), e0, ⟨some a, cap, by simp, fun hne => ?_⟩, fun r hr => ?_⟩
    · have hnp : 0 < n := by
        rcases Nat.eq_zero_or_pos n with e | e
        · exact absurd (by simp [e]) hne
        · exact e
      have ha : a = ⟨a.block, a.off, none⟩ := by
        obtain ⟨p, hs, _⟩ := hcell 0 hnp
        have h0 := hs 0 (by omega)
        have h1 : (a.add (0 * 6)).add 0 = a := by rw [Nat.zero_mul]; rfl
        rw [h1] at h0
        exact addr_flatO h0
      refine ⟨a.block, a.off, by rw [← ha], fun i p hp => ?_⟩
      have hi : i < n := by
        have := (List.getElem?_eq_some_iff.1 hp).1
        simpa using this
      have hpp : (hcell i hi).choose = p := by
        simp [hi] at hp
        exact hp
      have h1 := (hcell i hi).choose_spec.1
      rw [hpp] at h1
      have h2 : ∀ j, j < 6 → W.cell? ⟨a.block, a.off + i * 6 + j, none⟩ = (recC p)[j]? := fun j hj => by
        have := h1 j hj
        rw [ha] at this
        simpa only [Addr.add_lit] using this
      exact ⟨h2 0 (by omega), h2 1 (by omega), h2 2 (by omega), h2 3 (by omega), h2 4 (by omega), h2 5 (by omega)⟩
    · obtain ⟨i, hi, rfl⟩ := List.mem_map.1 hr
      have hi' : i < n := by simpa using hi
      rw [dif_pos hi']
      exact (hcell i hi').choose_spec.2
end Go.Proofs.YtidacfhdhdnidaaGreatDoor.Sto

namespace Go.Proofs.YtidacfhdhdnidaaGreatDoor.Vlt
open Go.RowKit Go.ChangeMaps Go.ChangeAt
open Subj (ML)

theorem wf_intV {n : Int} (h : (Lit.int .i64 n).wf = true) : -9223372036854775808 ≤ n ∧ n ≤ 9223372036854775807 := by
  simp [Lit.wf] at h
  first | omega | exact h

set_option maxRecDepth 100000 in
open Go.WideShapes Go.ChangeShapes in
theorem vaultPlays_calls {H : Type} (enc : TypeId × Value → H) (W : World) (base : Nat) (v0 v1 v2 v3 v4 : Value) (d0 d1 d2 d3 d4 : DataW H) (p0 p1 p2 p3 p4 : List MemPlace)
    (h0 : DataW.Trod enc Tryz.prog W 0 (fun _ => true) true 3 v0 d0 p0) (h1 : DataW.Trod enc Tryz.prog W 0 (fun _ => true) true 3 v1 d1 p1) (h2 : DataW.Trod enc Tryz.prog W 0 (fun _ => true) true 25 v2 d2 p2) (h3 : DataW.Trod enc Tryz.prog W 0 (fun _ => true) true 9 v3 d3 p3) (h4 : DataW.Trod enc Tryz.prog W 0 (fun _ => true) true 3 v4 d4 p4)
    (o0 : Value.okWide Tryz.prog W .any base 3 v0) (o1 : Value.okWide Tryz.prog W .any base 3 v1) (o2 : Value.okWide Tryz.prog W .any base 25 v2) (o3 : Value.okWide Tryz.prog W .any base 9 v3) (o4 : Value.okWide Tryz.prog W .any base 3 v4)
    (hk : Rows.uptoSmall H ([d0, d1, d2, d3, d4] ++ []) = true) (hM : ML W) :
    Calls Tryz.prog 8 #[v0, v1, v2, v3, v4] W fun e w' => e = .returned (.bool true) ∧ Below W.heap.size W w' := by
  have hb1 : Rows.uptoBulk d2 ≤ 1048576 := by
    have h1 := bulk_bound hk
    have h2 := bulk_part (d := d2) (l := [d0, d1, d2, d3, d4] ++ []) (by simp)
    omega
  obtain ⟨room, rfl, _, _, _⟩ := open_int Tryz.underlying3 o0 h0
  obtain ⟨size, rfl, _, _, _⟩ := open_int Tryz.underlying3 o1 h1
  obtain ⟨s, rfl, rfl, rfl, _⟩ := open_string Tryz.underlying9 o3 h3
  obtain ⟨num, rfl, _, _, wf2⟩ := open_int Tryz.underlying3 o4 h4
  obtain ⟨a, n, cap, rfl⟩ := okWide_slice Tryz.underlying25 o2
  obtain ⟨fuel, hf⟩ := h2
  obtain ⟨ao, n', cap', l, hcs, hl, hfits⟩ := Sto.open_recs hf hb1
  simp [Value.cells] at hcs
  obtain ⟨rfl, rfl, rfl⟩ := hcs
  exact vaultPlays_walk hM hl hfits room size s (text_bound hk (by simp)) num (wf_intV wf2)
end Go.Proofs.YtidacfhdhdnidaaGreatDoor.Vlt
