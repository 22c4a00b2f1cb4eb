/- Parts of the proof, joined: The frame of a law's row, whatever its parameters: a call that returns true and turns nothing below the heap's old size meets the row's post; and what a reading of an argument tells of the argument's cells. Over any program.; What the cards of this seat share: a world whose tables are laid; the bound of a text; the length's cell.; A plan among the parameters, opened.; A consumer's plan among the parameters, opened: a TakerP.; A slice of records among the parameters, opened.; PlansOwn, from what it is handed. -/
import Derived.Test.YtbgchhgdlceceaaGreatDoorPlansOwnUptoM46
import Derived.Test.YtbgchhgdlceceaaGreatDoorRows
import Derived.Carry
import Derived.WideKeyArgs
import Derived.SizedLaws
import Derived.OpenShut
import Derived.Test.YtbgchhgdlceceaaGreatDoorTie
import Derived.Test.YtbgchhgdlceceaaGreatDoorCards
import Derived.Deep.DeepHandedRow
import Derived.Lib.LaidTab
import Derived.ChangeSlices
import Derived.ChangeMaps5
namespace Go.Proofs.YtbgchhgdlceceaaGreatDoor
open Go.RowKit

section
open Go.WideShapes Go.ChangeShapes
variable {H : Type} {enc : TypeId × Value → H} {P : Program}

theorem trodAll_stays (hl : laidOutB P = true) {W W' : World} (hb : Below W.heap.size W W') {sp : Nat → Bool} :
    ∀ (ts : List TypeId) (vs : List Value) (ds : List (DataW H)) (ps : List MemPlace), (∀ t ∈ ts, P.readableRec t = true ∧ t < P.types.size) →
      DataW.TrodAll enc P W 0 (fun _ => true) true ts vs ds ps → (∀ x ∈ ps, x.block < W.heap.size) → (∀ x ∈ ps, sp x.block = true) →
      DataW.TrodAll enc P W' 0 sp true ts vs ds ps
  | [], [], [], _, _, h, _, _ => h
  | t :: ts, v :: vs, d :: ds, ps, hr, h, hlt, hsp => by
    obtain ⟨p, q, h1, h2, rfl⟩ := h
    obtain ⟨r1, r2⟩ := hr t (by simp)
    refine ⟨p, q, WideElems.Trod_stays hl r1 r2 h1 (fun x hx => hb.same (hlt x (by simp [hx]))) (fun x hx => hsp x (by simp [hx])), ?_, rfl⟩
    exact trodAll_stays hl hb ts vs ds q (fun t ht => hr t (by simp [ht])) h2 (fun x hx => hlt x (by simp [hx])) (fun x hx => hsp x (by simp [hx]))
  | [], [], _ :: _, _, _, h, _, _ => by cases h
  | [], _ :: _, _, _, _, h, _, _ => by cases h
  | _ :: _, [], _, _, _, h, _, _ => by cases h
  | _ :: _, _ :: _, [], _, _, h, _, _ => by cases h

/-- The law's post: it returned true, its arguments read as they did. -/
theorem post_true {f : Func} {s : ChangeSpec} {apart fresh handsOn again : Bool} {W W' : World} {args : Array Value} {ds gs : List (DataW H)} {before : List MemPlace} {tb : TypeId}
    (hl : laidOutB P = true) (hr : ∀ t ∈ f.params.toList, P.readableRec t = true ∧ t < P.types.size)
    (hres : f.resultTypes = #[tb]) (htb : P.underlying tb = some .bool) (hvars : s.vars = [])
    (hW : DataW.Whole enc P f.params.toList s.vars apart W args.toList ds gs before)
    (hs1 : (s.fn H (ds ++ gs)).results = [.lit (.bool true)]) (hs2 : (s.fn H (ds ++ gs)).args = ds) (hs3 : (s.fn H (ds ++ gs)).vars = [])
    (hb : Below W.heap.size W W') : s.post enc P f apart fresh handsOn again W args (.bool true) W' := by
  have hW0 := hW
  obtain ⟨p, q, hA, hV, rfl, hz, hn⟩ := hW
  rw [hvars] at hV
  obtain ⟨rfl, rfl⟩ := trodVars_none hV
  have hlt : ∀ x ∈ p, x.block < W.heap.size := fun x hx => hW0.lt x (by simp [hx])
  refine post_of_below (pa := p) (pv := []) hW0 (fun _ _ _ => ?_) (fun sp hsp => ?_) (fun _ _ => ?_) rfl hb ?_
  · rw [hs1, hres]
    exact trodAll_cons_mk (shut_bool htb _) trodAll_mk0
  · rw [hs2]
    exact trodAll_stays hl hb _ _ _ _ hr hA hlt (fun x hx => hsp x (by simp [hx]))
  · rw [hs3, hvars]; rfl
  · intro j t r h1 h2
    rw [hres] at h1 h2
    have hj : j = 0 := by
      have := (Array.getElem?_eq_some_iff.1 h1).1
      simpa using this
    subst hj
    simp at h1
    subst h1
    simp [Value.resultList] at h2
    subst h2
    exact okWide_bool_mk htb _
end

/-! ### What a reading tells -/
section
open Go.WideShapes Go.ChangeShapes
variable {H : Type} {enc : TypeId × Value → H} {P : Program} {w : World} {base : Nat} {spare : Nat → Bool} {held : Bool}

theorem rd_int {t : TypeId} {k : IntKind} {fuel : Nat} {cs : List Value} {y : DataW H × List MemPlace} (ht : P.underlying t = some (.int k)) (h : DataW.trod enc P w base spare held fuel t cs = some y) :
    ∃ n, cs = [.int k n] ∧ (Lit.int k n).wf = true := by
  cases fuel with
  | zero => simp [DataW.trod] at h
  | succ n =>
    unfold DataW.trod at h
    rw [ht] at h
    split at h <;> simp_all

theorem rd_string {t : TypeId} {fuel : Nat} {cs : List Value} {y : DataW H × List MemPlace} (ht : P.underlying t = some .string) (h : DataW.trod enc P w base spare held fuel t cs = some y) :
    ∃ s, cs = [.string s] ∧ s.size ≤ maxLen ∧ y.1 = .lit (.string s.data.toList) := by
  cases fuel with
  | zero => simp [DataW.trod] at h
  | succ n =>
    unfold DataW.trod at h
    rw [ht] at h
    split at h <;> simp_all
    obtain ⟨_, rfl⟩ := h
    simp

theorem rd_bool {t : TypeId} {fuel : Nat} {cs : List Value} {y : DataW H × List MemPlace} (ht : P.underlying t = some .bool) (h : DataW.trod enc P w base spare held fuel t cs = some y) :
    ∃ b, cs = [.bool b] := by
  cases fuel with
  | zero => simp [DataW.trod] at h
  | succ n =>
    unfold DataW.trod at h
    rw [ht] at h
    split at h <;> simp_all

/-- A struct, field by field. -/
theorem rd_struct {t : TypeId} {fs : Array Field} {fuel : Nat} {cs : List Value} {y : DataW H × List MemPlace} (ht : P.underlying t = some (.struct fs)) (h : DataW.trod enc P w base spare held fuel t cs = some y) :
    ∃ n, cs.length = P.cellsOf t ∧ ∃ xs : List (DataW H × List MemPlace), y.1 = .agg (xs.map (·.1)) ∧ fs.toList.mapM (fun f => DataW.trod enc P w base spare held n f.type ((cs.drop f.offset).take (P.cellsOf f.type))) = some xs := by
  cases fuel with
  | zero => simp [DataW.trod] at h
  | succ n =>
    unfold DataW.trod at h
    rw [ht] at h
    split at h <;> simp_all
    obtain ⟨xs, h1, h2⟩ := h.2
    exact ⟨n, xs, by rw [← h2], h1⟩

theorem mapM_get {α β : Type} {f : α → Option β} : ∀ {l : List α} {ys : List β}, l.mapM f = some ys → ys.length = l.length ∧ ∀ (i : Nat) (a : α), l[i]? = some a → ∃ y, ys[i]? = some y ∧ f a = some y
  | [], ys, h => by
    simp at h; subst h; simp
  | a :: l, ys, h => by
    rw [List.mapM_cons] at h
    cases ha : f a with
    | none => rw [ha] at h; cases h
    | some b =>
      rw [ha] at h
      cases hl : l.mapM f with
      | none => rw [hl] at h; cases h
      | some bs =>
        rw [hl] at h
        have e : b :: bs = ys := by simpa using h
        subst e
        obtain ⟨h1, h2⟩ := mapM_get hl
        refine ⟨by simp [h1], fun i x hx => ?_⟩
        cases i with
        | zero => simp at hx; subst hx; exact ⟨b, rfl, ha⟩
        | succ i => exact h2 i x (by simpa using hx)

/-- A slice: nil, or its elements up to the capacity. -/
theorem rd_slice {t e : TypeId} {fuel : Nat} {cs : List Value} {y : DataW H × List MemPlace} (ht : P.underlying t = some (.slice e)) (h : DataW.trod enc P w base (fun _ => true) held fuel t cs = some y) :
    (cs = [.slice none 0 0] ∧ y.1 = .nil) ∨ ∃ a len cap n, cs = [.slice (some a) len cap] ∧ len ≤ cap ∧ cap ≤ maxLen ∧ ∃ elems rest : List (DataW H × List MemPlace), y.1 = .slice (elems.map (·.1)) (rest.map (·.1)) ∧ elems.length = len ∧ rest.length = cap - len ∧
      (∀ i, i < len → ∃ z, elems[i]? = some z ∧ (w.cells? base (a.add (i * P.cellsOf e)) (P.cellsOf e)).bind (DataW.trod enc P w base (fun _ => true) held n e) = some z) ∧
      (∀ i, i < cap - len → ∃ z, rest[i]? = some z ∧ (w.cells? base (a.add ((len + i) * P.cellsOf e)) (P.cellsOf e)).bind (DataW.trod enc P w base (fun _ => true) held n e) = some z) := by
  cases fuel with
  | zero => simp [DataW.trod] at h
  | succ n =>
    unfold DataW.trod at h
    rw [ht] at h
    split at h <;> first | (exfalso; simp_all; done) | simp_all
    · rw [← h]
    · obtain ⟨⟨hb, hlc, hcm⟩, hh⟩ := h
      rw [Option.bind_eq_some_iff] at hh
      obtain ⟨elems, he, hr'⟩ := hh
      rw [Option.map_eq_some_iff] at hr'
      obtain ⟨rest, hr, hy⟩ := hr'
      obtain ⟨l1, g1⟩ := mapM_get he
      obtain ⟨l2, g2⟩ := mapM_get hr
      refine ⟨_, _, _, ⟨rfl, rfl, rfl⟩, hlc, hcm, n, elems, rest, by rw [← hy], by simpa using l1, by simpa using l2, fun i hi => ?_, fun i hi => ?_⟩
      · obtain ⟨y, h1, h2⟩ := g1 i i (by simp [hi])
        exact ⟨y.1, y.2, h1, h2⟩
      · obtain ⟨y, h1, h2⟩ := g2 i i (by simp [hi])
        exact ⟨y.1, y.2, h1, h2⟩
end

end Go.Proofs.YtbgchhgdlceceaaGreatDoor

namespace Go.Proofs.YtbgchhgdlceceaaGreatDoor
open Go.ChangeShapes Go.WideShapes Go.ChangeAt Go.RowKit

def laidList : List (String × DataW Unit) := [("unicode/utf8.acceptRanges", Rows.laid_unicode_utf8_acceptRanges), ("unicode/utf8.first", Rows.laid_unicode_utf8_first)]

def acceptZ : List Nat := [128, 191, 160, 191, 128, 159, 144, 191, 128, 143] ++ List.replicate 22 0

/-- A world for the witness: the settled one, the tables holding what their initialisers lay. -/
noncomputable def laidWorld (os : Os) : World :=
  { World.holding Tryz.prog os ⟨#[], #[], []⟩ with heap := (((World.holding Tryz.prog os ⟨#[], #[], []⟩).heap.modify 1 (fun
      | .cells _ t frozen => .cells (Go.Pinned.utf8FirstZ.map fun (z : Nat) => Value.int .u8 z).toArray t frozen
      | o => o)).modify 2 (fun
      | .cells _ t frozen => .cells (acceptZ.map fun (z : Nat) => Value.int .u8 z).toArray t frozen
      | o => o)) }

set_option maxRecDepth 100000 in
theorem laid_met (os : Os) (args : Array Value) : laidMet Tryz.prog laidList ((laidWorld os).forCall (fun _ _ => 0) ⟨#[], args, []⟩).memory :=
  laidMet_of_run' 8 (by kernel_rfl) (by kernel_rfl)

theorem ml_shaped {W : World} (h : W.ShapedOpen Tryz.prog) : Subj.ML W := Tryz.laysM146.s1_3 W h

/-- A part's bulk is at most the whole's. -/
theorem bulk_part {H : Type} {d : DataW H} : ∀ {l : List (DataW H)}, d ∈ l → Rows.uptoBulk d ≤ Rows.uptoBulkAll l
  | [], h => by cases h
  | x :: r, h => by
    simp only [Rows.uptoBulkAll]
    cases List.mem_cons.1 h with
    | inl e => subst e; omega
    | inr e => have := bulk_part e; omega

theorem bulk_bound {H : Type} {l : List (DataW H)} (hk : Rows.uptoSmall H l = true) : Rows.uptoBulkAll l ≤ 1048576 := of_decide_eq_true hk

end Go.Proofs.YtbgchhgdlceceaaGreatDoor

namespace Go.Proofs.YtbgchhgdlceceaaGreatDoor.Subj
open Go.RowKit

theorem list10 {α : Type} {l : List α} (h : l.length = 10) : ∃ a b c d e f g i j k, l = [a, b, c, d, e, f, g, i, j, k] := by
  match l, h with
  | [a, b, c, d, e, f, g, i, j, k], _ => exact ⟨a, b, c, d, e, f, g, i, j, k, rfl⟩

theorem cells_plan : Tryz.prog.cellsOf 62 = 10 := by kernel_rfl
theorem cells_ints : Tryz.prog.cellsOf 3 = 1 := by kernel_rfl
theorem cells_strs : Tryz.prog.cellsOf 9 = 1 := by kernel_rfl
theorem cells_slice : Tryz.prog.cellsOf 60 = 1 := by kernel_rfl

theorem addr_flat {w : World} {a : Addr} {v : Value} (h : w.cell? a = some v) : a = ⟨a.block, a.off, none⟩ := by
  cases a with
  | mk b o s =>
    cases s with
    | none => rfl
    | some s =>
      unfold World.cell? at h
      simp only at h
      split at h <;> simp at h

/-- Cells side by side, one by one. -/
theorem cells_at {w : World} {base : Nat} {a : Addr} {n : Nat} {cs : List Value} (h : w.cells? base a n = some cs) : cs.length = n ∧ ∀ i, i < n → w.cell? (a.add i) = cs[i]? := by
  unfold World.cells? at h
  split at h
  · obtain ⟨h1, h2⟩ := mapM_get h
    refine ⟨by simpa using h1, fun i hi => ?_⟩
    obtain ⟨y, h3, h4⟩ := h2 i i (by simp [hi])
    rw [h3]
    exact h4
  · cases h

theorem bulk_all {H : Type} : ∀ {l : List (DataW H)}, (∀ d ∈ l, 1 ≤ Rows.uptoBulk d) → l.length ≤ Rows.uptoBulkAll l
  | [], _ => Nat.zero_le _
  | d :: l, h => by
    have h1 := h d (by simp)
    have h2 := bulk_all (l := l) fun x hx => h x (List.mem_cons_of_mem _ hx)
    simp only [Rows.uptoBulkAll, List.length_cons]; omega

theorem bulk_text {H : Type} (s : ByteArray) : Rows.uptoBulk (DataW.lit (H := H) (.string s.data.toList)) = s.size + 1 := by
  simp only [Rows.uptoBulk, Array.length_toList]; rfl

set_option maxRecDepth 100000 in
open Go.WideShapes Go.ChangeShapes in
/-- A slice of texts, opened. -/
theorem open_texts {H : Type} {enc : TypeId × Value → H} {W : World} {fuel : Nat} {held : Bool} {cs : List Value} {y : DataW H × List MemPlace}
    (h : DataW.trod enc Tryz.prog W 0 (fun _ => true) held fuel 60 cs = some y) :
    ∃ ao n cap fs, cs = [.slice ao n cap] ∧ fs.length = n ∧ Strs W (.slice ao n cap) fs ∧ (∀ f ∈ fs, f.length ≤ Rows.uptoBulk y.1) ∧ n ≤ Rows.uptoBulk y.1 := by
  rcases rd_slice Tryz.underlying60 h with ⟨e0, ey⟩ | ⟨a, n, cap, m, e0, hlc, hcm, elems, rest, ey, hel, _, he, _⟩
  · exact ⟨none, 0, 0, [], e0, rfl, ⟨none, 0, rfl, Nat.le_refl _, fun h => absurd rfl h⟩, by simp, Nat.zero_le _⟩
  · rw [cells_strs] at he
    have hall : ∀ d ∈ elems.map (·.1), Rows.uptoBulk d ≤ Rows.uptoBulk y.1 := by
      intro d hd
      rw [ey]
      have := bulk_part hd
      simp only [Rows.uptoBulk]; omega
    have hcell : ∀ i, i < n → ∃ s : ByteArray, W.cell? (a.add (i * 1)) = some (.string s) ∧ s.size + 1 ≤ Rows.uptoBulk y.1 ∧ (elems[i]?.map (·.1)) = some (.lit (.string s.data.toList)) := by
      intro i hi
      obtain ⟨z, hz, h2⟩ := he i hi
      rw [Option.bind_eq_some_iff] at h2
      obtain ⟨cs, h3, h4⟩ := h2
      obtain ⟨s, rfl, _, h5⟩ := rd_string Tryz.underlying9 h4
      obtain ⟨_, h6⟩ := cells_at h3
      refine ⟨s, h6 0 (by omega), ?_, by rw [hz, ← h5]; rfl⟩
      have h7 := hall z.1 (List.mem_map.2 ⟨z, List.mem_of_getElem? hz, rfl⟩)
      rw [h5, bulk_text] at h7
      exact h7
    have hpos : ∀ d ∈ elems.map (·.1), 1 ≤ Rows.uptoBulk d := by
      intro d hd
      obtain ⟨z, hz, rfl⟩ := List.mem_map.1 hd
      obtain ⟨i, hi, rfl⟩ := List.getElem_of_mem hz
      obtain ⟨s, _, _, h3⟩ := hcell i (by omega)
      rw [List.getElem?_eq_getElem hi] at h3
      simp only [Option.map_some, Option.some.injEq] at h3
      rw [h3, bulk_text]; omega
    have hn : n ≤ Rows.uptoBulk y.1 := by
      have h1 := bulk_all hpos
      rw [List.length_map, hel] at h1
      rw [ey]
      simp only [Rows.uptoBulk]; omega
    refine ⟨some a, n, cap, (List.range n).map (fun i => if h : i < n then (hcell i h).choose.data.toList else []), e0, by simp, ⟨some a, cap, by simp, by simpa using hlc, fun hne => ?_⟩, ?_, hn⟩
    · have hnp : 0 < n := by
        rcases Nat.eq_zero_or_pos n with e | e
        · exact absurd (by simp [e]) hne
        · exact e
      have ha : a = ⟨a.block, a.off, none⟩ := by
        obtain ⟨s, hs, _⟩ := hcell 0 hnp
        have h0 : a.add (0 * 1) = a := by rw [Nat.zero_mul]; rfl
        rw [h0] at hs
        exact addr_flat hs
      refine ⟨a.block, a.off, by rw [← ha], fun i hi => ?_⟩
      have hi' : i < n := by simpa using hi
      have h1 := (hcell i hi').choose_spec.1
      have h2 : strAt ((List.range n).map (fun i => if h : i < n then (hcell i h).choose.data.toList else [])) i = (hcell i hi').choose := by
        unfold strAt
        simp [List.getD, hi']
      rw [h2]
      generalize (hcell i hi').choose = z at h1 ⊢
      rw [ha, Nat.mul_one, Addr.add_lit] at h1
      exact h1
    · intro f hf
      obtain ⟨i, hi, rfl⟩ := List.mem_map.1 hf
      have hi' : i < n := by simpa using hi
      have h2 := (hcell i hi').choose_spec.2.1
      rw [dif_pos hi']
      simp only [Array.length_toList]
      show (hcell i hi').choose.size ≤ _
      omega

/-- A plan, opened. -/
def PlanArg (W : World) (v0 : Value) (name : ByteArray) (ao : Option Addr) (n cap : Nat) (fs : List Tok) (x0 x1 x2 x3 x4 x5 x6 x7 : Int) : Prop :=
  v0 = .agg #[.string name, .slice ao n cap, .int .i64 x0, .int .i64 x1, .int .i64 x2, .int .i64 x3, .int .i64 x4, .int .i64 x5, .int .i64 x6, .int .i64 x7] ∧ fs.length = n ∧ Strs W (.slice ao n cap) fs ∧ Small fs ∧ n ≤ 1048576 ∧ name.size ≤ 1048576

set_option maxRecDepth 100000 in
open Go.WideShapes Go.ChangeShapes in
theorem open_plan {H : Type} {enc : TypeId × Value → H} {W : World} {base : Nat} {v0 : Value} {d0 : DataW H} {p0 : List MemPlace}
    (h0 : DataW.Trod enc Tryz.prog W 0 (fun _ => true) true 62 v0 d0 p0) (o0 : Value.okWide Tryz.prog W .any base 62 v0) (hk : Rows.uptoBulk d0 ≤ 1048576) :
    ∃ name ao n cap fs x0 x1 x2 x3 x4 x5 x6 x7, PlanArg W v0 name ao n cap fs x0 x1 x2 x3 x4 x5 x6 x7 := by
  obtain ⟨cs, rfl, hcs⟩ := okWide_struct Tryz.underlying62 o0
  obtain ⟨fuel, hf⟩ := h0
  obtain ⟨n, hlen, xs, hd, hm⟩ := rd_struct Tryz.underlying62 hf
  obtain ⟨hl, hg⟩ := mapM_get hm
  obtain ⟨c0, c1, c2, c3, c4, c5, c6, c7, c8, c9, hc⟩ := list10 (l := cs.toList) (by rw [← cells_plan]; simpa using hcs)
  obtain rfl : cs = #[c0, c1, c2, c3, c4, c5, c6, c7, c8, c9] := by cases cs; simp_all
  obtain ⟨z0, w0, q0⟩ := hg 0 _ rfl
  obtain ⟨z1, w1, q1⟩ := hg 1 _ rfl
  obtain ⟨z2, w2, q2⟩ := hg 2 _ rfl
  obtain ⟨z3, w3, q3⟩ := hg 3 _ rfl
  obtain ⟨z4, w4, q4⟩ := hg 4 _ rfl
  obtain ⟨z5, w5, q5⟩ := hg 5 _ rfl
  obtain ⟨z6, w6, q6⟩ := hg 6 _ rfl
  obtain ⟨z7, w7, q7⟩ := hg 7 _ rfl
  obtain ⟨z8, w8, q8⟩ := hg 8 _ rfl
  obtain ⟨z9, w9, q9⟩ := hg 9 _ rfl
  clear hg hm w2 w3 w4 w5 w6 w7 w8 w9
  simp only [cells_ints, cells_strs, cells_slice, Value.cells] at q0 q1 q2 q3 q4 q5 q6 q7 q8 q9
  obtain ⟨name, e0, _, f0⟩ := rd_string Tryz.underlying9 q0
  obtain ⟨ao, k, cap, fs, e1, f1, g1, i1, j1⟩ := open_texts q1
  obtain ⟨x0, e2, _⟩ := rd_int Tryz.underlying3 q2
  obtain ⟨x1, e3, _⟩ := rd_int Tryz.underlying3 q3
  obtain ⟨x2, e4, _⟩ := rd_int Tryz.underlying3 q4
  obtain ⟨x3, e5, _⟩ := rd_int Tryz.underlying3 q5
  obtain ⟨x4, e6, _⟩ := rd_int Tryz.underlying3 q6
  obtain ⟨x5, e7, _⟩ := rd_int Tryz.underlying3 q7
  obtain ⟨x6, e8, _⟩ := rd_int Tryz.underlying3 q8
  obtain ⟨x7, e9, _⟩ := rd_int Tryz.underlying3 q9
  simp at e0 e1 e2 e3 e4 e5 e6 e7 e8 e9
  subst e0 e1 e2 e3 e4 e5 e6 e7 e8 e9
  have hd : d0 = _ := hd
  have hb : ∀ z ∈ xs, Rows.uptoBulk z.1 ≤ 1048576 := by
    intro z hz
    have := bulk_part (d := z.1) (l := xs.map (·.1)) (List.mem_map.2 ⟨z, hz, rfl⟩)
    rw [hd] at hk
    simp only [Rows.uptoBulk] at hk
    omega
  have b0 := hb _ (List.mem_of_getElem? w0)
  have b1 := hb _ (List.mem_of_getElem? w1)
  rw [f0, bulk_text] at b0
  refine ⟨name, ao, k, cap, fs, x0, x1, x2, x3, x4, x5, x6, x7, rfl, f1, g1, fun i => ?_, by omega, by omega⟩
  by_cases hi : i < fs.length
  · have := i1 (fs.getD i []) (by simp [List.getD, hi])
    omega
  · simp [List.getD, show fs.length ≤ i by omega]
end Go.Proofs.YtbgchhgdlceceaaGreatDoor.Subj

namespace Go.Proofs.YtbgchhgdlceceaaGreatDoor.Con
open Go.RowKit Go.ChangeMaps Go.ChangeAt Subj

theorem cells_taker : Tryz.prog.cellsOf 24 = 10 := by kernel_rfl
theorem cells_sliceI : Tryz.prog.cellsOf 22 = 1 := by kernel_rfl
theorem cells_boolT : Tryz.prog.cellsOf 4 = 1 := by kernel_rfl

set_option maxRecDepth 100000 in
open Go.WideShapes Go.ChangeShapes in
theorem open_intsT {H : Type} {enc : TypeId × Value → H} {W : World} {fuel : Nat} {cs : List Value} {y : DataW H × List MemPlace}
    (h : DataW.trod enc Tryz.prog W 0 (fun _ => true) true fuel 22 cs = some y) (hk : Rows.uptoBulk y.1 ≤ 1048576) :
    ∃ ao n cap zs, cs = [.slice ao n cap] ∧ zs.length = n ∧ Ints W (.slice ao n cap) zs ∧ n ≤ 1048576 := by
  rcases rd_slice Tryz.underlying22 h with ⟨e0, ey⟩ | ⟨a, n, cap, m, e0, hlc, hcm, elems, rest, ey, hel, _, he, _⟩
  · exact ⟨none, 0, 0, [], e0, rfl, ⟨none, 0, rfl, Nat.le_refl _, fun h => absurd rfl h⟩, by omega⟩
  · rw [cells_ints] at he
    have hcell : ∀ i, i < n → ∃ z : Int, W.cell? (a.add (i * 1)) = some (.int .i64 z) ∧ ∃ d, elems[i]? = some d ∧ 1 ≤ Rows.uptoBulk d.1 := by
      intro i hi
      obtain ⟨z, hz, h2⟩ := he i hi
      rw [Option.bind_eq_some_iff] at h2
      obtain ⟨cs, h3, h4⟩ := h2
      have h7 : 1 ≤ Rows.uptoBulk z.1 := by
        cases z.1 with
        | lit l => cases l <;> simp only [Rows.uptoBulk] <;> omega
        | _ => simp only [Rows.uptoBulk] <;> omega
      obtain ⟨v, rfl, _⟩ := rd_int Tryz.underlying3 h4
      obtain ⟨_, h6⟩ := cells_at h3
      exact ⟨v, h6 0 (by omega), z, hz, h7⟩
    have hpos : ∀ d ∈ elems.map (·.1), 1 ≤ Rows.uptoBulk d := by
      intro d hd
      obtain ⟨z, hz, rfl⟩ := List.mem_map.1 hd
      obtain ⟨i, hi, rfl⟩ := List.getElem_of_mem hz
      obtain ⟨_, _, d, h3, h4⟩ := hcell i (by omega)
      rw [List.getElem?_eq_getElem hi, Option.some.injEq] at h3
      rw [h3]; exact h4
    have hn : n ≤ 1048576 := by
      have h1 := bulk_all hpos
      rw [List.length_map, hel] at h1
      rw [ey] at hk
      simp only [Rows.uptoBulk] at hk; omega
    refine ⟨some a, n, cap, (List.range n).map (fun i => if h : i < n then (hcell i h).choose else 0), e0, by simp, ⟨some a, cap, by simp, by simpa using hlc, fun hne => ?_⟩, hn⟩
    have hnp : 0 < n := by
      rcases Nat.eq_zero_or_pos n with e | e
      · exact absurd (by simp [e]) hne
      · exact e
    have ha : a = ⟨a.block, a.off, none⟩ := by
      obtain ⟨s, hs, _⟩ := hcell 0 hnp
      have h0 : a.add (0 * 1) = a := by rw [Nat.zero_mul]; rfl
      rw [h0] at hs
      exact addr_flat hs
    refine ⟨a.block, a.off, by rw [← ha], fun i hi => ?_⟩
    have hi' : i < n := by simpa using hi
    have h1 := (hcell i hi').choose_spec.1
    have h2 : ((List.range n).map (fun i => if h : i < n then (hcell i h).choose else 0)).getD i 0 = (hcell i hi').choose := by
      simp [List.getD, hi']
    rw [h2]
    generalize (hcell i hi').choose = z at h1 ⊢
    rw [ha, Nat.mul_one, Addr.add_lit] at h1
    exact h1

set_option maxRecDepth 100000 in
open Go.WideShapes Go.ChangeShapes in
theorem open_takerT {H : Type} {enc : TypeId × Value → H} {W : World} {base : Nat} {v0 : Value} {d0 : DataW H} {p0 : List MemPlace}
    (h0 : DataW.Trod enc Tryz.prog W 0 (fun _ => true) true 24 v0 d0 p0) (o0 : Value.okWide Tryz.prog W .any base 24 v0) (hk : Rows.uptoBulk d0 ≤ 1048576) :
    ∃ (name filt : ByteArray) (src start ack wait most pend : Int) (push : Bool) (ao : Option Addr) (n cap : Nat) (back : List Int), v0 = .agg #[.string name, .string filt, .int .i64 src, .int .i64 start, .int .i64 ack, .int .i64 wait, .slice ao n cap, .int .i64 most, .int .i64 pend, .bool push] ∧ name.size ≤ 1048576 ∧ filt.size ≤ 1048576 ∧ back.length = n ∧ n ≤ 1048576 ∧ Ints W (.slice ao n cap) back := by
  obtain ⟨cs, rfl, hcs⟩ := okWide_struct Tryz.underlying24 o0
  obtain ⟨fuel, hf⟩ := h0
  obtain ⟨n, hlen, xs, hd, hm⟩ := rd_struct Tryz.underlying24 hf
  obtain ⟨hl, hg⟩ := mapM_get hm
  obtain ⟨c0, c1, c2, c3, c4, c5, c6, c7, c8, c9, hc⟩ := list10 (l := cs.toList) (by rw [← cells_taker]; simpa using hcs)
  obtain rfl : cs = #[c0, c1, c2, c3, c4, c5, c6, c7, c8, c9] := by cases cs; simp_all
  obtain ⟨z0, w0, q0⟩ := hg 0 _ rfl
  obtain ⟨z1, w1, q1⟩ := hg 1 _ rfl
  obtain ⟨z2, w2, q2⟩ := hg 2 _ rfl
  obtain ⟨z3, w3, q3⟩ := hg 3 _ rfl
  obtain ⟨z4, w4, q4⟩ := hg 4 _ rfl
  obtain ⟨z5, w5, q5⟩ := hg 5 _ rfl
  obtain ⟨z6, w6, q6⟩ := hg 6 _ rfl
  obtain ⟨z7, w7, q7⟩ := hg 7 _ rfl
  obtain ⟨z8, w8, q8⟩ := hg 8 _ rfl
  obtain ⟨z9, w9, q9⟩ := hg 9 _ rfl
  clear hg hm w2 w3 w4 w5 w7 w8 w9
  simp only [cells_ints, cells_strs, cells_sliceI, cells_boolT, Value.cells] at q0 q1 q2 q3 q4 q5 q6 q7 q8 q9
  have hd : d0 = _ := hd
  have hb : ∀ z ∈ xs, Rows.uptoBulk z.1 ≤ 1048576 := by
    intro z hz
    have := bulk_part (d := z.1) (l := xs.map (·.1)) (List.mem_map.2 ⟨z, hz, rfl⟩)
    rw [hd] at hk
    simp only [Rows.uptoBulk] at hk
    omega
  have b0 := hb _ (List.mem_of_getElem? w0)
  have b1 := hb _ (List.mem_of_getElem? w1)
  have b6 := hb _ (List.mem_of_getElem? w6)
  obtain ⟨name, e0, _, f0⟩ := rd_string Tryz.underlying9 q0
  obtain ⟨filt, e1, _, f1⟩ := rd_string Tryz.underlying9 q1
  obtain ⟨src, e2, _⟩ := rd_int Tryz.underlying3 q2
  obtain ⟨start, e3, _⟩ := rd_int Tryz.underlying3 q3
  obtain ⟨ack, e4, _⟩ := rd_int Tryz.underlying3 q4
  obtain ⟨wait, e5, _⟩ := rd_int Tryz.underlying3 q5
  obtain ⟨ao, k, cap, zs, e6, f6, g6, j6⟩ := open_intsT q6 b6
  obtain ⟨most, e7, _⟩ := rd_int Tryz.underlying3 q7
  obtain ⟨pend, e8, _⟩ := rd_int Tryz.underlying3 q8
  obtain ⟨push, e9⟩ := rd_bool Tryz.underlying4 q9
  simp at e0 e1 e2 e3 e4 e5 e6 e7 e8 e9
  subst e0 e1 e2 e3 e4 e5 e6 e7 e8 e9
  rw [f0, bulk_text] at b0
  rw [f1, bulk_text] at b1
  exact ⟨name, filt, src, start, ack, wait, most, pend, push, ao, k, cap, zs, rfl, by omega, by omega, f6, j6, g6⟩

end Go.Proofs.YtbgchhgdlceceaaGreatDoor.Con

namespace Go.Proofs.YtbgchhgdlceceaaGreatDoor.Sto
open Go.RowKit
open Rec (Rc)

end Go.Proofs.YtbgchhgdlceceaaGreatDoor.Sto

namespace Go.Proofs.YtbgchhgdlceceaaGreatDoor.Own
open Go.RowKit Go.ChangeMaps Go.ChangeAt
open Subj (ML open_plan PlanArg TakerP)
open Con (open_takerT takerV)

set_option maxRecDepth 100000 in
open Go.WideShapes Go.ChangeShapes in
theorem plansOwn_calls {H : Type} (enc : TypeId × Value → H) (W : World) (base : Nat) (v0 v1 : Value) (d0 d1 : DataW H) (p0 p1 : List MemPlace)
    (h0 : DataW.Trod enc Tryz.prog W 0 (fun _ => true) true 62 v0 d0 p0) (h1 : DataW.Trod enc Tryz.prog W 0 (fun _ => true) true 24 v1 d1 p1)
    (o0 : Value.okWide Tryz.prog W .any base 62 v0) (o1 : Value.okWide Tryz.prog W .any base 24 v1)
    (hk : Rows.uptoSmall H ([d0, d1] ++ []) = true) (hM : ML W) :
    Calls Tryz.prog 4 #[v0, v1] W fun e w' => e = .returned (.bool true) ∧ Below W.heap.size W w' := by
  have hb0 : Rows.uptoBulk d0 ≤ 1048576 := by
    have h1 := bulk_bound hk
    have h2 := bulk_part (d := d0) (l := [d0, d1] ++ []) (by simp)
    omega
  have hb1 : Rows.uptoBulk d1 ≤ 1048576 := by
    have h1 := bulk_bound hk
    have h2 := bulk_part (d := d1) (l := [d0, d1] ++ []) (by simp)
    omega
  obtain ⟨name, ao, n, cap, fs, x0, x1, x2, x3, x4, x5, x6, x7, rfl, hfn, hS, hz, hn, hnm⟩ := open_plan h0 o0 hb0
  obtain ⟨tn, tf, src, start, ack, wait, most, pend, push, bo, m, cb, back, rfl, htn, htf, hbn, hbl, hB⟩ := open_takerT h1 o1 hb1
  subst hfn
  subst hbn
  have e1 : (⟨tn.data.toList.toArray⟩ : ByteArray) = tn := by cases tn; rfl
  have e2 : (⟨tf.data.toList.toArray⟩ : ByteArray) = tf := by cases tf; rfl
  have l1 : tn.data.toList.length = tn.size := Array.length_toList
  have l2 : tf.data.toList.length = tf.size := Array.length_toList
  have h := plansOwn_walk hM name ao cap fs x0 x1 x2 x3 x4 x5 x6 x7 hS hz hn hnm ⟨tn.data.toList, tf.data.toList, src, start, ack, wait, back, most, pend, push⟩ bo cb hB hbl (by rw [l1]; exact htn) (by rw [l2]; exact htf)
  unfold takerV at h
  simp only [e1, e2] at h
  exact h
end Go.Proofs.YtbgchhgdlceceaaGreatDoor.Own
