/- Parts of the proof, joined: How a consumer's text is read: in plain Lean.; How a plan is printed: in plain Lean.; How a consumer's plan is printed: in plain Lean.; How many messages there are of each subject: the map in which the reference counts.; rillref.before, walked.; The law SubjectSays, walked: it returns true.; The law SubjectMatches, walked: it returns true.; The frame of a law's row, whatever its parameters: a call that returns true and turns nothing below the heap's old size meets the row's post; and what a reading of an argument tells of the argument's cells. Over any program.; What the cards of this seat share: a world whose tables are laid; the bound of a text; the length's cell. -/
import Derived.Test.YthhgfdeegnimjaaGreatDoorConsumerPlaysUptoM1
import Derived.Test.YthhgfdeegnimjaaGreatDoorConsumerPlaysUptoM3
import Derived.Test.YthhgfdeegnimjaaGreatDoorConsumerPlaysUptoM6
import Derived.Test.YthhgfdeegnimjaaGreatDoorConsumerPlaysUptoM11
import Derived.Test.YthhgfdeegnimjaaGreatDoorConsumerPlaysUptoM15
import Derived.Test.YthhgfdeegnimjaaGreatDoorConsumerPlaysUptoM21
import Derived.Lib.Join
import Derived.Lib.ItoaNum
import Derived.Maps.OwnSet
import Derived.Test.YthhgfdeegnimjaaGreatDoorRows
import Derived.Carry
import Derived.WideKeyArgs
import Derived.SizedLaws
import Derived.OpenShut
import Derived.Test.YthhgfdeegnimjaaGreatDoorTie
import Derived.Test.YthhgfdeegnimjaaGreatDoorCards
import Derived.Deep.DeepHandedRow
import Derived.Lib.LaidTab
namespace Go.Proofs.YthhgfdeegnimjaaGreatDoor.Subj

structure TakerP where
  name : List UInt8
  filt : List UInt8
  src : Int
  start : Int
  ack : Int
  wait : Int
  back : List Int
  most : Int
  pend : Int
  push : Bool

/-- The beginnings of the options, in their order: "from=", "ack=", "wait=", "backoff=", "most=", "pending=", "push". -/
def heads : List Tok := [[102, 114, 111, 109, 61], [97, 99, 107, 61], [119, 97, 105, 116, 61], [98, 97, 99, 107, 111, 102, 102, 61], [109, 111, 115, 116, 61], [112, 101, 110, 100, 105, 110, 103, 61], [112, 117, 115, 104]]

def lastW : Tok := [108, 97, 115, 116]
def newW : Tok := [110, 101, 119]
def noneW : Tok := [110, 111, 110, 101]
def allW : Tok := [97, 108, 108]

/-- An option is laid into a plan; none: it is none. -/
def optT (i : Nat) (v : Tok) (t : TakerP) : Option TakerP :=
  match i with
  | 0 => if v = lastW then some { t with src := 1 } else if v = newW then some { t with src := 2 } else if 0 < numberOf v then some { t with src := 3, start := numberOf v } else none
  | 1 => if v = noneW then some { t with ack := 0 } else if v = allW then some { t with ack := 1 } else none
  | 2 => if 0 < numberOf v then some { t with wait := numberOf v } else none
  | 3 => if ((piecesC 44 v).all fun x => decide (0 < numberOf x)) = true then some { t with back := t.back ++ (piecesC 44 v).map numberOf } else none
  | 4 => if 0 < numberOf v then some { t with most := numberOf v } else none
  | 5 => if 0 < numberOf v then some { t with pend := numberOf v } else none
  | _ => if v = [] then some { t with push := true } else none

/-- What is told from the option i on. -/
def seqF : Nat → Nat → List Tok → TakerP → Option TakerP
  | 0, _, r, t => if r = [] then some t else none
  | k + 1, i, r, t =>
    match r with
    | [] => seqF k (i + 1) [] t
    | x :: r' => if (heads.getD i []).isPrefixOf x = true then (optT i (x.drop (heads.getD i []).length) t).bind (seqF k (i + 1) r') else seqF k (i + 1) (x :: r') t

def seqT (i : Nat) (r : List Tok) (t : TakerP) : Option TakerP := seqF (7 - i) i r t

theorem seqT_no {i : Nat} (hi : i < 7) (x : Tok) (r : List Tok) (t : TakerP) (h : (heads.getD i []).isPrefixOf x = false) : seqT i (x :: r) t = seqT (i + 1) (x :: r) t := by
  unfold seqT
  obtain ⟨k, hk⟩ : ∃ k, 7 - i = k + 1 := ⟨6 - i, by omega⟩
  have hk2 : 7 - (i + 1) = k := by omega
  rw [hk, hk2]
  conv => lhs; unfold seqF
  simp only [h, Bool.false_eq_true, if_false]

theorem seqT_yes {i : Nat} (hi : i < 7) (x : Tok) (r : List Tok) (t : TakerP) (h : (heads.getD i []).isPrefixOf x = true) : seqT i (x :: r) t = (optT i (x.drop (heads.getD i []).length) t).bind (seqT (i + 1) r) := by
  unfold seqT
  obtain ⟨k, hk⟩ : ∃ k, 7 - i = k + 1 := ⟨6 - i, by omega⟩
  have hk2 : 7 - (i + 1) = k := by omega
  rw [hk, hk2]
  conv => lhs; unfold seqF
  simp only [h, if_true]

theorem seqT_none {i : Nat} (hi : i < 7) (t : TakerP) : seqT i [] t = seqT (i + 1) [] t := by
  unfold seqT
  obtain ⟨k, hk⟩ : ∃ k, 7 - i = k + 1 := ⟨6 - i, by omega⟩
  have hk2 : 7 - (i + 1) = k := by omega
  rw [hk, hk2]
  rfl

def errT (t : TakerP) : Nat := takerErr t.name t.filt t.src t.start t.ack t.wait t.back t.most t.pend

end Go.Proofs.YthhgfdeegnimjaaGreatDoor.Subj

namespace Go.Proofs.YthhgfdeegnimjaaGreatDoor.Subj

end Go.Proofs.YthhgfdeegnimjaaGreatDoor.Subj

namespace Go.Proofs.YthhgfdeegnimjaaGreatDoor.Subj

/-- What a right plan's parts are. -/
theorem errT_facts {t : TakerP} (h : errT t = 0) : nameOk t.name = true ∧ err true t.filt = 0 ∧ t.back.length ≤ 5 ∧ argsOk t.src t.start t.ack t.wait t.back t.most t.pend = true := by
  unfold errT takerErr at h
  split at h
  · rename_i h1
    split at h
    · rename_i h2
      split at h
      · cases h
      · split at h
        · rename_i h3 h4; exact ⟨h1, h2, by omega, h4⟩
        · cases h
    · contradiction
  · cases h

theorem inB_iff {n lo hi : Int} : inB n lo hi = true ↔ lo ≤ n ∧ n ≤ hi := by
  unfold inB; rw [Bool.and_eq_true, decide_eq_true_eq, decide_eq_true_eq]

theorem argsOk_facts {src start ack wait : Int} {back : List Int} {most pend : Int} (h : argsOk src start ack wait back most pend = true) :
    (0 ≤ src ∧ src ≤ 3) ∧ (src = 3 → 1 ≤ start ∧ start ≤ 999999999) ∧ (0 ≤ start ∧ start ≤ 999999999) ∧ (0 ≤ ack ∧ ack ≤ 2) ∧ (0 ≤ wait ∧ wait ≤ 100000) ∧ (ack ≠ 0 → 1 ≤ wait) ∧ (ack = 0 → wait = 0) ∧ (0 ≤ most ∧ most ≤ 20) ∧ (0 ≤ pend ∧ pend ≤ 50) ∧ ∀ k, k < back.length → 1 ≤ back.getD k 0 ∧ back.getD k 0 ≤ 100000 := by
  unfold argsOk at h
  simp only [Bool.and_eq_true] at h
  obtain ⟨⟨⟨h1, h2⟩, h3⟩, h4⟩ := h
  rw [inB_iff] at h1 h3
  have hst : (src = 3 → 1 ≤ start ∧ start ≤ 999999999) ∧ (0 ≤ start ∧ start ≤ 999999999) := by
    unfold startOk at h2
    by_cases e : src = 3
    · rw [e, if_pos (show ((3 : Int) == 3) = true from rfl), inB_iff] at h2
      exact ⟨fun _ => h2, by omega⟩
    · rw [if_neg (by simpa using e), beq_iff_eq] at h2
      exact ⟨fun e2 => absurd e2 e, by omega⟩
  refine ⟨h1, hst.1, hst.2, h3, ?_⟩
  unfold timesOk at h4
  by_cases e : ack = 0
  · rw [e, if_pos (show ((0 : Int) == 0) = true from rfl)] at h4
    simp only [Bool.and_eq_true, beq_iff_eq] at h4
    obtain ⟨⟨⟨g1, g2⟩, g3⟩, g4⟩ := h4
    exact ⟨by omega, fun h => absurd e h, fun _ => g1, by omega, by omega, fun k hk => by omega⟩
  · rw [if_neg (by simpa using e)] at h4
    simp only [Bool.and_eq_true] at h4
    obtain ⟨⟨⟨g1, g2⟩, g3⟩, g4⟩ := h4
    rw [inB_iff] at g1 g2 g3
    refine ⟨by omega, fun _ => g1.1, fun h => absurd h e, by omega, by omega, fun k hk => ?_⟩
    rw [List.all_eq_true] at g4
    have := g4 (back.getD k 0) (by simp [List.getD, hk])
    rwa [inB_iff] at this

end Go.Proofs.YthhgfdeegnimjaaGreatDoor.Subj

namespace Go.Proofs.YthhgfdeegnimjaaGreatDoor.Sto
open Go.RowKit
open Subj (Tok)
open Rec (Rc)
open Go.Maps Go.WideShapes

section
variable {H : Type} {D : DataW H} {L : List Rc}

def cntP (L : List Rc) (s : Subj.Tok) : Lit × DataW H := (.string s, .lit (.int .i64 (cntR L s : Int)))
def Told (D : DataW H) (L : List Rc) : Prop := ∃ es, D = .map es ∧ ∀ p, p ∈ es ↔ ∃ s, p = cntP L s ∧ cntR L s ≠ 0

theorem told_nil : Told (.map [] : DataW H) [] := ⟨[], rfl, fun p => by simp [cntR]⟩

theorem told_at (h : Told D L) (s : Subj.Tok) : D.atKey (.string s) (.lit (.int .i64 0)) = .lit (.int .i64 (cntR L s : Int)) := by
  obtain ⟨es, rfl, h⟩ := h
  unfold DataW.atKey
  show (match es.find? (fun p => p.1.sameKey (.string s)) with | some p => p.2 | none => _) = _
  cases hf : es.find? (fun p => p.1.sameKey (.string s)) with
  | some p =>
    have h1 := List.mem_of_find?_eq_some hf
    have h2 := List.find?_some hf
    obtain ⟨t, rfl, _⟩ := (h p).1 h1
    have : t = s := by simpa [cntP, Lit.sameKey] using h2
    subst this
    rfl
  | none =>
    have : cntR L s = 0 := by
      by_cases h0 : cntR L s = 0
      · exact h0
      · have := List.find?_eq_none.1 hf _ ((h (cntP L s)).2 ⟨s, rfl, h0⟩)
        simp [cntP, Lit.sameKey] at this
    simp [this]

theorem told_put (h : Told D L) (r : Rc) : Told (D.put (.string r.subj) (.lit (.int .i64 ((cntR L r.subj : Int) + 1)))) (L ++ [r]) := by
  obtain ⟨es, rfl, h⟩ := h
  refine ⟨_, rfl, fun p => ?_⟩
  rw [ChangeMaps.mem_insert_iff, List.mem_filter, h p]
  constructor
  · rintro (rfl | ⟨⟨s, rfl, h0⟩, h1⟩)
    · exact ⟨r.subj, by simp [cntP, cnt_append], by rw [cnt_append]; simp⟩
    · have hne : ¬ r.subj = s := fun e => by
        subst e
        simp [cntP, Lit.sameKey] at h1
      exact ⟨s, by simp [cntP, cnt_append, hne], by rw [cnt_append, if_neg hne]; simpa using h0⟩
  · rintro ⟨s, rfl, h0⟩
    by_cases e : r.subj = s
    · subst e
      left
      simp [cntP, cnt_append]
    · rw [cnt_append, if_neg e] at h0
      exact .inr ⟨⟨s, by simp [cntP, cnt_append, e], by simpa using h0⟩, by simp [cntP, Lit.sameKey]; exact fun h => e h.symm⟩

theorem told_size (h : Told D L) (hc : Tidy D) : Maps.size D = dist L := by
  classical
  obtain ⟨es, rfl, h⟩ := h
  obtain ⟨es2, e, hs⟩ := hc
  obtain rfl : es = es2 := by simpa using e
  have hn : (es.map fun p => p.1).Nodup := by
    rw [List.nodup_iff_pairwise_ne, List.pairwise_map]
    exact hs
  have hn2 : ((subjs L).map Lit.string).Nodup := by
    rw [List.nodup_iff_pairwise_ne, List.pairwise_map]
    have := nodup_subjs L
    rw [List.nodup_iff_pairwise_ne] at this
    exact this.imp fun hab e => hab (by simpa using e)
  show es.length = _
  unfold dist
  rw [← List.length_map (f := fun p : Lit × DataW H => p.1), show (subjs L).length = ((subjs L).map Lit.string).length from (List.length_map _).symm]
  refine nodup_len hn hn2 fun k => ?_
  rw [List.mem_map, List.mem_map]
  constructor
  · rintro ⟨p, hp, rfl⟩
    obtain ⟨s, rfl, h0⟩ := (h p).1 hp
    exact ⟨s, mem_subjs.2 (cnt_ne.1 h0), rfl⟩
  · rintro ⟨s, hs, rfl⟩
    exact ⟨cntP L s, (h _).2 ⟨s, rfl, cnt_ne.2 (mem_subjs.1 hs)⟩, rfl⟩
end
end Go.Proofs.YthhgfdeegnimjaaGreatDoor.Sto

namespace Go.Proofs.YthhgfdeegnimjaaGreatDoor.Shf
open Go.RowKit Heap Idx
open Subj (Tok ML pieces Strs strAt StrsAt)

end Go.Proofs.YthhgfdeegnimjaaGreatDoor.Shf

namespace Go.Proofs.YthhgfdeegnimjaaGreatDoor.Subj
open Go.RowKit
end Go.Proofs.YthhgfdeegnimjaaGreatDoor.Subj

namespace Go.Proofs.YthhgfdeegnimjaaGreatDoor.Subj
open Go.RowKit

end Go.Proofs.YthhgfdeegnimjaaGreatDoor.Subj

namespace Go.Proofs.YthhgfdeegnimjaaGreatDoor
open Go.RowKit

section
open Go.WideShapes Go.ChangeShapes
variable {H : Type} {enc : TypeId × Value → H} {P : Program}

theorem trodAll_stays (hl : laidOutB P = true) {W W' : World} (hb : Below W.heap.size W W') {sp : Nat → Bool} :
    ∀ (ts : List TypeId) (vs : List Value) (ds : List (DataW H)) (ps : List MemPlace), (∀ t ∈ ts, P.readableRec t = true ∧ t < P.types.size) →
      DataW.TrodAll enc P W 0 (fun _ => true) true ts vs ds ps → (∀ x ∈ ps, x.block < W.heap.size) → (∀ x ∈ ps, sp x.block = true) →
      DataW.TrodAll enc P W' 0 sp true ts vs ds ps
  | [], [], [], _, _, h, _, _ => h
  | t :: ts, v :: vs, d :: ds, ps, hr, h, hlt, hsp => by
    obtain ⟨p, q, h1, h2, rfl⟩ := h
    obtain ⟨r1, r2⟩ := hr t (by simp)
    refine ⟨p, q, WideElems.Trod_stays hl r1 r2 h1 (fun x hx => hb.same (hlt x (by simp [hx]))) (fun x hx => hsp x (by simp [hx])), ?_, rfl⟩
    exact trodAll_stays hl hb ts vs ds q (fun t ht => hr t (by simp [ht])) h2 (fun x hx => hlt x (by simp [hx])) (fun x hx => hsp x (by simp [hx]))
  | [], [], _ :: _, _, _, h, _, _ => by cases h
  | [], _ :: _, _, _, _, h, _, _ => by cases h
  | _ :: _, [], _, _, _, h, _, _ => by cases h
  | _ :: _, _ :: _, [], _, _, h, _, _ => by cases h

/-- The law's post: it returned true, its arguments read as they did. -/
theorem post_true {f : Func} {s : ChangeSpec} {apart fresh handsOn again : Bool} {W W' : World} {args : Array Value} {ds gs : List (DataW H)} {before : List MemPlace} {tb : TypeId}
    (hl : laidOutB P = true) (hr : ∀ t ∈ f.params.toList, P.readableRec t = true ∧ t < P.types.size)
    (hres : f.resultTypes = #[tb]) (htb : P.underlying tb = some .bool) (hvars : s.vars = [])
    (hW : DataW.Whole enc P f.params.toList s.vars apart W args.toList ds gs before)
    (hs1 : (s.fn H (ds ++ gs)).results = [.lit (.bool true)]) (hs2 : (s.fn H (ds ++ gs)).args = ds) (hs3 : (s.fn H (ds ++ gs)).vars = [])
    (hb : Below W.heap.size W W') : s.post enc P f apart fresh handsOn again W args (.bool true) W' := by
  have hW0 := hW
  obtain ⟨p, q, hA, hV, rfl, hz, hn⟩ := hW
  rw [hvars] at hV
  obtain ⟨rfl, rfl⟩ := trodVars_none hV
  have hlt : ∀ x ∈ p, x.block < W.heap.size := fun x hx => hW0.lt x (by simp [hx])
  refine post_of_below (pa := p) (pv := []) hW0 (fun _ _ _ => ?_) (fun sp hsp => ?_) (fun _ _ => ?_) rfl hb ?_
  · rw [hs1, hres]
    exact trodAll_cons_mk (shut_bool htb _) trodAll_mk0
  · rw [hs2]
    exact trodAll_stays hl hb _ _ _ _ hr hA hlt (fun x hx => hsp x (by simp [hx]))
  · rw [hs3, hvars]; rfl
  · intro j t r h1 h2
    rw [hres] at h1 h2
    have hj : j = 0 := by
      have := (Array.getElem?_eq_some_iff.1 h1).1
      simpa using this
    subst hj
    simp at h1
    subst h1
    simp [Value.resultList] at h2
    subst h2
    exact okWide_bool_mk htb _
end

/-! ### What a reading tells -/
section
open Go.WideShapes Go.ChangeShapes
variable {H : Type} {enc : TypeId × Value → H} {P : Program} {w : World} {base : Nat} {spare : Nat → Bool} {held : Bool}

theorem rd_int {t : TypeId} {k : IntKind} {fuel : Nat} {cs : List Value} {y : DataW H × List MemPlace} (ht : P.underlying t = some (.int k)) (h : DataW.trod enc P w base spare held fuel t cs = some y) :
    ∃ n, cs = [.int k n] ∧ (Lit.int k n).wf = true := by
  cases fuel with
  | zero => simp [DataW.trod] at h
  | succ n =>
    unfold DataW.trod at h
    rw [ht] at h
    split at h <;> simp_all

theorem rd_string {t : TypeId} {fuel : Nat} {cs : List Value} {y : DataW H × List MemPlace} (ht : P.underlying t = some .string) (h : DataW.trod enc P w base spare held fuel t cs = some y) :
    ∃ s, cs = [.string s] ∧ s.size ≤ maxLen ∧ y.1 = .lit (.string s.data.toList) := by
  cases fuel with
  | zero => simp [DataW.trod] at h
  | succ n =>
    unfold DataW.trod at h
    rw [ht] at h
    split at h <;> simp_all
    obtain ⟨_, rfl⟩ := h
    simp

theorem rd_bool {t : TypeId} {fuel : Nat} {cs : List Value} {y : DataW H × List MemPlace} (ht : P.underlying t = some .bool) (h : DataW.trod enc P w base spare held fuel t cs = some y) :
    ∃ b, cs = [.bool b] := by
  cases fuel with
  | zero => simp [DataW.trod] at h
  | succ n =>
    unfold DataW.trod at h
    rw [ht] at h
    split at h <;> simp_all

/-- A struct, field by field. -/
theorem rd_struct {t : TypeId} {fs : Array Field} {fuel : Nat} {cs : List Value} {y : DataW H × List MemPlace} (ht : P.underlying t = some (.struct fs)) (h : DataW.trod enc P w base spare held fuel t cs = some y) :
    ∃ n, cs.length = P.cellsOf t ∧ ∃ xs : List (DataW H × List MemPlace), y.1 = .agg (xs.map (·.1)) ∧ fs.toList.mapM (fun f => DataW.trod enc P w base spare held n f.type ((cs.drop f.offset).take (P.cellsOf f.type))) = some xs := by
  cases fuel with
  | zero => simp [DataW.trod] at h
  | succ n =>
    unfold DataW.trod at h
    rw [ht] at h
    split at h <;> simp_all
    obtain ⟨xs, h1, h2⟩ := h.2
    exact ⟨n, xs, by rw [← h2], h1⟩

theorem mapM_get {α β : Type} {f : α → Option β} : ∀ {l : List α} {ys : List β}, l.mapM f = some ys → ys.length = l.length ∧ ∀ (i : Nat) (a : α), l[i]? = some a → ∃ y, ys[i]? = some y ∧ f a = some y
  | [], ys, h => by
    simp at h; subst h; simp
  | a :: l, ys, h => by
    rw [List.mapM_cons] at h
    cases ha : f a with
    | none => rw [ha] at h; cases h
    | some b =>
      rw [ha] at h
      cases hl : l.mapM f with
      | none => rw [hl] at h; cases h
      | some bs =>
        rw [hl] at h
        have e : b :: bs = ys := by simpa using h
        subst e
        obtain ⟨h1, h2⟩ := mapM_get hl
        refine ⟨by simp [h1], fun i x hx => ?_⟩
        cases i with
        | zero => simp at hx; subst hx; exact ⟨b, rfl, ha⟩
        | succ i => exact h2 i x (by simpa using hx)

/-- A slice: nil, or its elements up to the capacity. -/
theorem rd_slice {t e : TypeId} {fuel : Nat} {cs : List Value} {y : DataW H × List MemPlace} (ht : P.underlying t = some (.slice e)) (h : DataW.trod enc P w base (fun _ => true) held fuel t cs = some y) :
    (cs = [.slice none 0 0] ∧ y.1 = .nil) ∨ ∃ a len cap n, cs = [.slice (some a) len cap] ∧ len ≤ cap ∧ cap ≤ maxLen ∧ ∃ elems rest : List (DataW H × List MemPlace), y.1 = .slice (elems.map (·.1)) (rest.map (·.1)) ∧ elems.length = len ∧ rest.length = cap - len ∧
      (∀ i, i < len → ∃ z, elems[i]? = some z ∧ (w.cells? base (a.add (i * P.cellsOf e)) (P.cellsOf e)).bind (DataW.trod enc P w base (fun _ => true) held n e) = some z) ∧
      (∀ i, i < cap - len → ∃ z, rest[i]? = some z ∧ (w.cells? base (a.add ((len + i) * P.cellsOf e)) (P.cellsOf e)).bind (DataW.trod enc P w base (fun _ => true) held n e) = some z) := by
  cases fuel with
  | zero => simp [DataW.trod] at h
  | succ n =>
    unfold DataW.trod at h
    rw [ht] at h
    split at h <;> first | (exfalso; simp_all; done) | simp_all
    · rw [← h]
    · obtain ⟨⟨hb, hlc, hcm⟩, hh⟩ := h
      rw [Option.bind_eq_some_iff] at hh
      obtain ⟨elems, he, hr'⟩ := hh
      rw [Option.map_eq_some_iff] at hr'
      obtain ⟨rest, hr, hy⟩ := hr'
      obtain ⟨l1, g1⟩ := mapM_get he
      obtain ⟨l2, g2⟩ := mapM_get hr
      refine ⟨_, _, _, ⟨rfl, rfl, rfl⟩, hlc, hcm, n, elems, rest, by rw [← hy], by simpa using l1, by simpa using l2, fun i hi => ?_, fun i hi => ?_⟩
      · obtain ⟨y, h1, h2⟩ := g1 i i (by simp [hi])
        exact ⟨y.1, y.2, h1, h2⟩
      · obtain ⟨y, h1, h2⟩ := g2 i i (by simp [hi])
        exact ⟨y.1, y.2, h1, h2⟩
end

end Go.Proofs.YthhgfdeegnimjaaGreatDoor

namespace Go.Proofs.YthhgfdeegnimjaaGreatDoor
open Go.ChangeShapes Go.WideShapes Go.ChangeAt Go.RowKit

def laidList : List (String × DataW Unit) := [("unicode/utf8.acceptRanges", Rows.laid_unicode_utf8_acceptRanges), ("unicode/utf8.first", Rows.laid_unicode_utf8_first)]

def acceptZ : List Nat := [128, 191, 160, 191, 128, 159, 144, 191, 128, 143] ++ List.replicate 22 0

/-- A world for the witness: the settled one, the tables holding what their initialisers lay. -/
noncomputable def laidWorld (os : Os) : World :=
  { World.holding Tryz.prog os ⟨#[], #[], []⟩ with heap := (((World.holding Tryz.prog os ⟨#[], #[], []⟩).heap.modify 2 (fun
      | .cells _ t frozen => .cells (Go.Pinned.utf8FirstZ.map fun (z : Nat) => Value.int .u8 z).toArray t frozen
      | o => o)).modify 3 (fun
      | .cells _ t frozen => .cells (acceptZ.map fun (z : Nat) => Value.int .u8 z).toArray t frozen
      | o => o)) }

set_option maxRecDepth 100000 in
theorem laid_met (os : Os) (args : Array Value) : laidMet Tryz.prog laidList ((laidWorld os).forCall (fun _ _ => 0) ⟨#[], args, []⟩).memory :=
  laidMet_of_run' 8 (by kernel_rfl) (by kernel_rfl)

theorem ml_shaped {W : World} (h : W.ShapedOpen Tryz.prog) : Subj.ML W := Tryz.laysM146.s1_3 W h

/-- A part's bulk is at most the whole's. -/
theorem bulk_part {H : Type} {d : DataW H} : ∀ {l : List (DataW H)}, d ∈ l → Rows.uptoBulk d ≤ Rows.uptoBulkAll l
  | [], h => by cases h
  | x :: r, h => by
    simp only [Rows.uptoBulkAll]
    cases List.mem_cons.1 h with
    | inl e => subst e; omega
    | inr e => have := bulk_part e; omega

theorem bulk_bound {H : Type} {l : List (DataW H)} (hk : Rows.uptoSmall H l = true) : Rows.uptoBulkAll l ≤ 1048576 := of_decide_eq_true hk

end Go.Proofs.YthhgfdeegnimjaaGreatDoor
