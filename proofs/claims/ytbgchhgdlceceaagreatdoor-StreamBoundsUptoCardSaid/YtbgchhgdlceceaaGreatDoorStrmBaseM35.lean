/- Parts of the proof, joined: A plan among the parameters, opened.; Posts and slices of steps among the parameters, opened. -/
import Derived.Test.YtbgchhgdlceceaaGreatDoorStrmBaseM34
namespace Go.Proofs.YtbgchhgdlceceaaGreatDoor.Subj
open Go.RowKit

theorem list10 {α : Type} {l : List α} (h : l.length = 10) : ∃ a b c d e f g i j k, l = [a, b, c, d, e, f, g, i, j, k] := by
  match l, h with
  | [a, b, c, d, e, f, g, i, j, k], _ => exact ⟨a, b, c, d, e, f, g, i, j, k, rfl⟩

theorem cells_plan : Tryz.prog.cellsOf 62 = 10 := by kernel_rfl
theorem cells_ints : Tryz.prog.cellsOf 3 = 1 := by kernel_rfl
theorem cells_strs : Tryz.prog.cellsOf 9 = 1 := by kernel_rfl
theorem cells_slice : Tryz.prog.cellsOf 60 = 1 := by kernel_rfl

theorem addr_flat {w : World} {a : Addr} {v : Value} (h : w.cell? a = some v) : a = ⟨a.block, a.off, none⟩ := by
  cases a with
  | mk b o s =>
    cases s with
    | none => rfl
    | some s =>
      unfold World.cell? at h
      simp only at h
      split at h <;> simp at h

/-- Cells side by side, one by one. -/
theorem cells_at {w : World} {base : Nat} {a : Addr} {n : Nat} {cs : List Value} (h : w.cells? base a n = some cs) : cs.length = n ∧ ∀ i, i < n → w.cell? (a.add i) = cs[i]? := by
  unfold World.cells? at h
  split at h
  · obtain ⟨h1, h2⟩ := mapM_get h
    refine ⟨by simpa using h1, fun i hi => ?_⟩
    obtain ⟨y, h3, h4⟩ := h2 i i (by simp [hi])
    rw [h3]
    exact h4
  · cases h

theorem bulk_all {H : Type} : ∀ {l : List (DataW H)}, (∀ d ∈ l, 1 ≤ Rows.uptoBulk d) → l.length ≤ Rows.uptoBulkAll l
  | [], _ => Nat.zero_le _
  | d :: l, h => by
    have h1 := h d (by simp)
    have h2 := bulk_all (l := l) fun x hx => h x (List.mem_cons_of_mem _ hx)
    simp only [Rows.uptoBulkAll, List.length_cons]; omega

theorem bulk_text {H : Type} (s : ByteArray) : Rows.uptoBulk (DataW.lit (H := H) (.string s.data.toList)) = s.size + 1 := by
  simp only [Rows.uptoBulk, Array.length_toList]; rfl

set_option maxRecDepth 100000 in
open Go.WideShapes Go.ChangeShapes in
/-- A slice of texts, opened. -/
theorem open_texts {H : Type} {enc : TypeId × Value → H} {W : World} {fuel : Nat} {held : Bool} {cs : List Value} {y : DataW H × List MemPlace}
    (h : DataW.trod enc Tryz.prog W 0 (fun _ => true) held fuel 60 cs = some y) :
    ∃ ao n cap fs, cs = [.slice ao n cap] ∧ fs.length = n ∧ Strs W (.slice ao n cap) fs ∧ (∀ f ∈ fs, f.length ≤ Rows.uptoBulk y.1) ∧ n ≤ Rows.uptoBulk y.1 := by
  rcases rd_slice Tryz.underlying60 h with ⟨e0, ey⟩ | ⟨a, n, cap, m, e0, hlc, hcm, elems, rest, ey, hel, _, he, _⟩
  · exact ⟨none, 0, 0, [], e0, rfl, ⟨none, 0, rfl, Nat.le_refl _, fun h => absurd rfl h⟩, by simp, Nat.zero_le _⟩
  · rw [cells_strs] at he
    have hall : ∀ d ∈ elems.map (·.1), Rows.uptoBulk d ≤ Rows.uptoBulk y.1 := by
      intro d hd
      rw [ey]
      have := bulk_part hd
      simp only [Rows.uptoBulk]; omega
    have hcell : ∀ i, i < n → ∃ s : ByteArray, W.cell? (a.add (i * 1)) = some (.string s) ∧ s.size + 1 ≤ Rows.uptoBulk y.1 ∧ (elems[i]?.map (·.1)) = some (.lit (.string s.data.toList)) := by
      intro i hi
      obtain ⟨z, hz, h2⟩ := he i hi
      rw [Option.bind_eq_some_iff] at h2
      obtain ⟨cs, h3, h4⟩ := h2
      obtain ⟨s, rfl, _, h5⟩ := rd_string Tryz.underlying9 h4
      obtain ⟨_, h6⟩ := cells_at h3
      refine ⟨s, h6 0 (by omega), ?_, by rw [hz, ← h5]; rfl⟩
      have h7 := hall z.1 (List.mem_map.2 ⟨z, List.mem_of_getElem? hz, rfl⟩)
      rw [h5, bulk_text] at h7
      exact h7
    have hpos : ∀ d ∈ elems.map (·.1), 1 ≤ Rows.uptoBulk d := by
      intro d hd
      obtain ⟨z, hz, rfl⟩ := List.mem_map.1 hd
      obtain ⟨i, hi, rfl⟩ := List.getElem_of_mem hz
      obtain ⟨s, _, _, h3⟩ := hcell i (by omega)
      rw [List.getElem?_eq_getElem hi] at h3
      simp only [Option.map_some, Option.some.injEq] at h3
      rw [h3, bulk_text]; omega
    have hn : n ≤ Rows.uptoBulk y.1 := by
      have h1 := bulk_all hpos
      rw [List.length_map, hel] at h1
      rw [ey]
      simp only [Rows.uptoBulk]; omega
    refine ⟨some a, n, cap, (List.range n).map (fun i => if h : i < n then (hcell i h).choose.data.toList else []), e0, by simp, ⟨some a, cap, by simp, by simpa using hlc, fun hne => ?_⟩, ?_, hn⟩
    · have hnp : 0 < n := by
        rcases Nat.eq_zero_or_pos n with e | e
        · exact absurd (by simp [e]) hne
        · exact e
      have ha : a = ⟨a.block, a.off, none⟩ := by
        obtain ⟨s, hs, _⟩ := hcell 0 hnp
        have h0 : a.add (0 * 1) = a := by rw [Nat.zero_mul]; rfl
        rw [h0] at hs
        exact addr_flat hs
      refine ⟨a.block, a.off, by rw [← ha], fun i hi => ?_⟩
      have hi' : i < n := by simpa using hi
      have h1 := (hcell i hi').choose_spec.1
      have h2 : strAt ((List.range n).map (fun i => if h : i < n then (hcell i h).choose.data.toList else [])) i = (hcell i hi').choose := by
        unfold strAt
        simp [List.getD, hi']
      rw [h2]
      generalize (hcell i hi').choose = z at h1 ⊢
      rw [ha, Nat.mul_one, Addr.add_lit] at h1
      exact h1
    · intro f hf
      obtain ⟨i, hi, rfl⟩ := List.mem_map.1 hf
      have hi' : i < n := by simpa using hi
      have h2 := (hcell i hi').choose_spec.2.1
      rw [dif_pos hi']
      simp only [Array.length_toList]
      show (hcell i hi').choose.size ≤ _
      omega

/-- A plan, opened. -/
def PlanArg (W : World) (v0 : Value) (name : ByteArray) (ao : Option Addr) (n cap : Nat) (fs : List Tok) (x0 x1 x2 x3 x4 x5 x6 x7 : Int) : Prop :=
  v0 = .agg #[.string name, .slice ao n cap, .int .i64 x0, .int .i64 x1, .int .i64 x2, .int .i64 x3, .int .i64 x4, .int .i64 x5, .int .i64 x6, .int .i64 x7] ∧ fs.length = n ∧ Strs W (.slice ao n cap) fs ∧ Small fs ∧ n ≤ 1048576 ∧ name.size ≤ 1048576

set_option maxRecDepth 100000 in
open Go.WideShapes Go.ChangeShapes in
theorem open_plan {H : Type} {enc : TypeId × Value → H} {W : World} {base : Nat} {v0 : Value} {d0 : DataW H} {p0 : List MemPlace}
    (h0 : DataW.Trod enc Tryz.prog W 0 (fun _ => true) true 62 v0 d0 p0) (o0 : Value.okWide Tryz.prog W .any base 62 v0) (hk : Rows.uptoBulk d0 ≤ 1048576) :
    ∃ name ao n cap fs x0 x1 x2 x3 x4 x5 x6 x7, PlanArg W v0 name ao n cap fs x0 x1 x2 x3 x4 x5 x6 x7 := by
  obtain ⟨cs, rfl, hcs⟩ := okWide_struct Tryz.underlying62 o0
  obtain ⟨fuel, hf⟩ := h0
  obtain ⟨n, hlen, xs, hd, hm⟩ := rd_struct Tryz.underlying62 hf
  obtain ⟨hl, hg⟩ := mapM_get hm
  obtain ⟨c0, c1, c2, c3, c4, c5, c6, c7, c8, c9, hc⟩ := list10 (l := cs.toList) (by rw [← cells_plan]; simpa using hcs)
  obtain rfl : cs = #[c0, c1, c2, c3, c4, c5, c6, c7, c8, c9] := by cases cs; simp_all
  obtain ⟨z0, w0, q0⟩ := hg 0 _ rfl
  obtain ⟨z1, w1, q1⟩ := hg 1 _ rfl
  obtain ⟨z2, w2, q2⟩ := hg 2 _ rfl
  obtain ⟨z3, w3, q3⟩ := hg 3 _ rfl
  obtain ⟨z4, w4, q4⟩ := hg 4 _ rfl
  obtain ⟨z5, w5, q5⟩ := hg 5 _ rfl
  obtain ⟨z6, w6, q6⟩ := hg 6 _ rfl
  obtain ⟨z7, w7, q7⟩ := hg 7 _ rfl
  obtain ⟨z8, w8, q8⟩ := hg 8 _ rfl
  obtain ⟨z9, w9, q9⟩ := hg 9 _ rfl
  clear hg hm w2 w3 w4 w5 w6 w7 w8 w9
  simp only [cells_ints, cells_strs, cells_slice, Value.cells] at q0 q1 q2 q3 q4 q5 q6 q7 q8 q9
  obtain ⟨name, e0, _, f0⟩ := rd_string Tryz.underlying9 q0
  obtain ⟨ao, k, cap, fs, e1, f1, g1, i1, j1⟩ := open_texts q1
  obtain ⟨x0, e2, _⟩ := rd_int Tryz.underlying3 q2
  obtain ⟨x1, e3, _⟩ := rd_int Tryz.underlying3 q3
  obtain ⟨x2, e4, _⟩ := rd_int Tryz.underlying3 q4
  obtain ⟨x3, e5, _⟩ := rd_int Tryz.underlying3 q5
  obtain ⟨x4, e6, _⟩ := rd_int Tryz.underlying3 q6
  obtain ⟨x5, e7, _⟩ := rd_int Tryz.underlying3 q7
  obtain ⟨x6, e8, _⟩ := rd_int Tryz.underlying3 q8
  obtain ⟨x7, e9, _⟩ := rd_int Tryz.underlying3 q9
  simp at e0 e1 e2 e3 e4 e5 e6 e7 e8 e9
  subst e0 e1 e2 e3 e4 e5 e6 e7 e8 e9
  have hd : d0 = _ := hd
  have hb : ∀ z ∈ xs, Rows.uptoBulk z.1 ≤ 1048576 := by
    intro z hz
    have := bulk_part (d := z.1) (l := xs.map (·.1)) (List.mem_map.2 ⟨z, hz, rfl⟩)
    rw [hd] at hk
    simp only [Rows.uptoBulk] at hk
    omega
  have b0 := hb _ (List.mem_of_getElem? w0)
  have b1 := hb _ (List.mem_of_getElem? w1)
  rw [f0, bulk_text] at b0
  refine ⟨name, ao, k, cap, fs, x0, x1, x2, x3, x4, x5, x6, x7, rfl, f1, g1, fun i => ?_, by omega, by omega⟩
  by_cases hi : i < fs.length
  · have := i1 (fs.getD i []) (by simp [List.getD, hi])
    omega
  · simp [List.getD, show fs.length ≤ i by omega]
end Go.Proofs.YtbgchhgdlceceaaGreatDoor.Subj

namespace Go.Proofs.YtbgchhgdlceceaaGreatDoor.Strm
open Go.RowKit
open Sto (addr_flatO cells_atO bulk_textO str_back list6O)
open Subj (list10)

theorem cells_postS : Tryz.prog.cellsOf 112 = 6 := by kernel_rfl
theorem cells_stepS : Tryz.prog.cellsOf 114 = 10 := by kernel_rfl
theorem cells_intS : Tryz.prog.cellsOf 3 = 1 := by kernel_rfl
theorem cells_strS : Tryz.prog.cellsOf 9 = 1 := by kernel_rfl

def poC (x : Po) : List Value := [.string ⟨x.subj.toArray⟩, .string ⟨x.id.toArray⟩, .string ⟨x.head.toArray⟩, .string ⟨x.data.toArray⟩, .int .i64 x.exp, .int .i64 x.roll]

set_option maxRecDepth 100000 in
open Go.WideShapes Go.ChangeShapes in
/-- A post among what was read. -/
theorem open_po {H : Type} {enc : TypeId × Value → H} {W : World} {base fuel : Nat} {held : Bool} {cs : List Value} {y : DataW H × List MemPlace}
    (h : DataW.trod enc Tryz.prog W base (fun _ => true) held fuel 112 cs = some y) (hk : Rows.uptoBulk y.1 ≤ 1048576) :
    ∃ x : Po, cs = poC x ∧ FitsP x := by
  obtain ⟨n, hlen, xs, hd, hm⟩ := rd_struct Tryz.underlying112 h
  obtain ⟨hl, hg⟩ := mapM_get hm
  rw [cells_postS] at hlen
  obtain ⟨c0, c1, c2, c3, c4, c5, rfl⟩ := list6O hlen
  obtain ⟨z0, w0, q0⟩ := hg 0 _ rfl
  obtain ⟨z1, w1, q1⟩ := hg 1 _ rfl
  obtain ⟨z2, w2, q2⟩ := hg 2 _ rfl
  obtain ⟨z3, w3, q3⟩ := hg 3 _ rfl
  obtain ⟨z4, w4, q4⟩ := hg 4 _ rfl
  obtain ⟨z5, w5, q5⟩ := hg 5 _ rfl
  clear hg hm
  simp only [cells_intS, cells_strS] at q0 q1 q2 q3 q4 q5
  obtain ⟨a0, e0, _, f0⟩ := rd_string Tryz.underlying9 q0
  obtain ⟨a1, e1, _, f1⟩ := rd_string Tryz.underlying9 q1
  obtain ⟨a2, e2, _, f2⟩ := rd_string Tryz.underlying9 q2
  obtain ⟨a3, e3, _, f3⟩ := rd_string Tryz.underlying9 q3
  obtain ⟨a4, e4, _⟩ := rd_int Tryz.underlying3 q4
  obtain ⟨a5, e5, _⟩ := rd_int Tryz.underlying3 q5
  simp at e0 e1 e2 e3 e4 e5
  subst e0 e1 e2 e3 e4 e5
  rw [hd] at hk
  simp only [Rows.uptoBulk] at hk
  have hb : ∀ z ∈ xs, Rows.uptoBulk z.1 ≤ 1048576 := fun z hz => by
    have := bulk_part (d := z.1) (l := xs.map (·.1)) (List.mem_map.2 ⟨z, hz, rfl⟩)
    omega
  have b0 := hb _ (List.mem_of_getElem? w0)
  have b1 := hb _ (List.mem_of_getElem? w1)
  have b2 := hb _ (List.mem_of_getElem? w2)
  have b3 := hb _ (List.mem_of_getElem? w3)
  rw [f0, bulk_textO] at b0
  rw [f1, bulk_textO] at b1
  rw [f2, bulk_textO] at b2
  rw [f3, bulk_textO] at b3
  have hz : ∀ s : ByteArray, s.data.toList.length = s.size := fun s => by simp
  refine ⟨⟨a0.data.toList, a1.data.toList, a2.data.toList, a3.data.toList, a4, a5⟩, by simp only [poC, str_back], ⟨?_, ?_, ?_, ?_⟩⟩
  · show a0.data.toList.length ≤ _
    rw [hz]; omega
  · show a1.data.toList.length ≤ _
    rw [hz]; omega
  · show a2.data.toList.length ≤ _
    rw [hz]; omega
  · show a3.data.toList.length ≤ _
    rw [hz]; omega

set_option maxRecDepth 100000 in
open Go.WideShapes Go.ChangeShapes in
/-- One step among what was read. -/
theorem open_step {H : Type} {enc : TypeId × Value → H} {W : World} {base fuel : Nat} {held : Bool} {cs : List Value} {y : DataW H × List MemPlace}
    (h : DataW.trod enc Tryz.prog W base (fun _ => true) held fuel 114 cs = some y) (hk : Rows.uptoBulk y.1 ≤ 1048576) :
    ∃ t : StP, cs = (stC t).toList ∧ FitsP t.x ∧ t.filt.length ≤ 1048576 := by
  obtain ⟨n, hlen, xs, hd, hm⟩ := rd_struct Tryz.underlying114 h
  obtain ⟨hl, hg⟩ := mapM_get hm
  rw [cells_stepS] at hlen
  obtain ⟨c0, c1, c2, c3, c4, c5, c6, c7, c8, c9, rfl⟩ := list10 hlen
  obtain ⟨z0, w0, q0⟩ := hg 0 _ rfl
  obtain ⟨z1, w1, q1⟩ := hg 1 _ rfl
  obtain ⟨z2, w2, q2⟩ := hg 2 _ rfl
  obtain ⟨z3, w3, q3⟩ := hg 3 _ rfl
  obtain ⟨z4, w4, q4⟩ := hg 4 _ rfl
  clear hg hm
  simp only [cells_intS, cells_strS, cells_postS] at q0 q1 q2 q3 q4
  rw [hd] at hk
  simp only [Rows.uptoBulk] at hk
  have hb : ∀ z ∈ xs, Rows.uptoBulk z.1 ≤ 1048576 := fun z hz => by
    have := bulk_part (d := z.1) (l := xs.map (·.1)) (List.mem_map.2 ⟨z, hz, rfl⟩)
    omega
  have b3 := hb _ (List.mem_of_getElem? w3)
  have b4 := hb _ (List.mem_of_getElem? w4)
  obtain ⟨a0, e0, _⟩ := rd_int Tryz.underlying3 q0
  obtain ⟨a1, e1, _⟩ := rd_int Tryz.underlying3 q1
  obtain ⟨a2, e2, _⟩ := rd_int Tryz.underlying3 q2
  obtain ⟨x, e3, hx⟩ := open_po q3 b3
  obtain ⟨a4, e4, _, f4⟩ := rd_string Tryz.underlying9 q4
  rw [f4, bulk_textO] at b4
  simp [poC] at e0 e1 e2 e3 e4
  obtain ⟨rfl, rfl, rfl, rfl, rfl, rfl⟩ := e3
  subst e0 e1 e2 e4
  refine ⟨⟨a0, a1, a2, x, a4.data.toList⟩, by simp [stC], hx, ?_⟩
  show a4.data.toList.length ≤ _
  have hz : ∀ s : ByteArray, s.data.toList.length = s.size := fun s => by simp
  rw [hz]; omega

def stZ : StP := ⟨0, 0, 0, ⟨[], [], [], [], 0, 0⟩, []⟩

set_option maxRecDepth 100000 in
open Go.WideShapes Go.ChangeShapes in
theorem open_steps {H : Type} {enc : TypeId × Value → H} {W : World} {fuel : Nat} {held : Bool} {cs : List Value} {y : DataW H × List MemPlace}
    (h : DataW.trod enc Tryz.prog W 0 (fun _ => true) held fuel 109 cs = some y) (hk : Rows.uptoBulk y.1 ≤ 1048576) :
    ∃ ao n cap l, cs = [.slice ao n cap] ∧ StepsAt W (.slice ao n cap) l ∧ ∀ t ∈ l, FitsP t.x ∧ t.filt.length ≤ 1048576 := by
  rcases rd_slice Tryz.underlying109 h with ⟨e0, ey⟩ | ⟨a, n, cap, m, e0, hlc, hcm, elems, rest, ey, hel, _, he, _⟩
  · exact ⟨none, 0, 0, [], e0, ⟨none, 0, rfl, fun h => absurd rfl h⟩, (fun _ h => by cases h)⟩
  · rw [cells_stepS] at he
    have hall : ∀ d ∈ elems.map (·.1), Rows.uptoBulk d ≤ 1048576 := by
      intro d hd
      rw [ey] at hk
      have := bulk_part hd
      simp only [Rows.uptoBulk] at hk; omega
    have hcell : ∀ i, i < n → ∃ t : StP, (∀ j, j < 10 → W.cell? ((a.add (i * 10)).add j) = (stC t).toList[j]?) ∧ FitsP t.x ∧ t.filt.length ≤ 1048576 := by
      intro i hi
      obtain ⟨z, hz, h2⟩ := he i hi
      rw [Option.bind_eq_some_iff] at h2
      obtain ⟨cs, h3, h4⟩ := h2
      obtain ⟨_, h6⟩ := cells_atO h3
      obtain ⟨p, rfl, r1⟩ := open_step h4 (hall _ (List.mem_map.2 ⟨z, List.mem_of_getElem? hz, rfl⟩))
      exact ⟨p, h6, r1⟩
    refine ⟨some a, n, cap, (List.range n).map (fun i => if h : i < n then (hcell i h).choose else stZ), e0, ⟨some a, cap, by simp, fun hne => ?_⟩, fun r hr => ?_⟩
    · have hnp : 0 < n := by
        rcases Nat.eq_zero_or_pos n with e | e
        · exact absurd (by simp [e]) hne
        · exact e
      have ha : a = ⟨a.block, a.off, none⟩ := by
        obtain ⟨p, hs, _⟩ := hcell 0 hnp
        have h0 := hs 0 (by omega)
        have h1 : (a.add (0 * 10)).add 0 = a := by rw [Nat.zero_mul]; rfl
        rw [h1] at h0
        exact addr_flatO h0
      refine ⟨a.block, a.off, by rw [← ha], fun i p hp j hj => ?_⟩
      have hi : i < n := by
        have := (List.getElem?_eq_some_iff.1 hp).1
        simpa using this
      have hpp : (hcell i hi).choose = p := by
        rw [List.getElem?_map, List.getElem?_range hi] at hp
        simp only [Option.map_some, Option.some.injEq] at hp
        rw [dif_pos hi] at hp
        exact hp
      have h1 := (hcell i hi).choose_spec.1
      rw [hpp] at h1
      have := h1 j hj
      rw [ha] at this
      simpa only [Addr.add_lit, Array.getElem?_toList] using this
    · obtain ⟨i, hi, rfl⟩ := List.mem_map.1 hr
      have hi' : i < n := by simpa using hi
      rw [dif_pos hi']
      exact (hcell i hi').choose_spec.2

set_option maxRecDepth 100000 in
open Go.WideShapes Go.ChangeShapes in
theorem open_post {H : Type} {enc : TypeId × Value → H} {W : World} {base : Nat} {v0 : Value} {d0 : DataW H} {p0 : List MemPlace}
    (h0 : DataW.Trod enc Tryz.prog W 0 (fun _ => true) true 112 v0 d0 p0) (o0 : Value.okWide Tryz.prog W .any base 112 v0) (hk : Rows.uptoBulk d0 ≤ 1048576) :
    ∃ x : Po, v0 = postV x ∧ FitsP x := by
  obtain ⟨cs, rfl, hcs⟩ := okWide_struct Tryz.underlying112 o0
  obtain ⟨fuel, hf⟩ := h0
  obtain ⟨x, e, hx⟩ := open_po hf hk
  refine ⟨x, ?_, hx⟩
  simp only [Value.cells] at e
  unfold postV
  congr 1
  cases cs
  simp_all [poC]
end Go.Proofs.YtbgchhgdlceceaaGreatDoor.Strm
