/- Parts of the proof, joined: How a consumer's text is read: in plain Lean.; How a consumer's plan is printed: in plain Lean.; Names and numbers of plans, walked: plan.Named, plan.Number, rillref.Named, rillref.Digits.; The bounds of a plan's numbers, walked.; plan.Check, walked: a plan's first error.; A plan's ten cells in memory; a prefix that is cut.; rillref.values and rillref.Plan, walked.; slices.Delete of d elements of 3 cells, walked. -/
import Derived.Test.YtapmhpnkpjgefaaDoorConsumerRulesUptoM4
import Derived.Test.YtapmhpnkpjgefaaDoorConsumerRulesUptoM6
import Derived.Test.YtapmhpnkpjgefaaDoorConsumerRulesUptoM8
import Derived.Test.YtapmhpnkpjgefaaDoorConsumerRulesUptoM15
import Derived.Test.YtapmhpnkpjgefaaDoorConsumerRulesUptoM16
import Derived.Lib.Join
import Derived.Lib.ItoaNum
import Derived.Shelf.Abstract
import Derived.Handy
import Derived.Deep.RegionHeld3
import Derived.Deep.RegionWith
import Derived.StillTailTactics
import Derived.Deep.DeepCutAuto
import Derived.Deep.QuietTactic
import Derived.BigQuiet
import Derived.Test.YtapmhpnkpjgefaaDoorChecked
import Derived.Deep.RegionLaw
namespace Go.Proofs.YtapmhpnkpjgefaaDoor.Subj

structure TakerP where
  name : List UInt8
  filt : List UInt8
  src : Int
  start : Int
  ack : Int
  wait : Int
  back : List Int
  most : Int
  pend : Int
  push : Bool

/-- The beginnings of the options, in their order: "from=", "ack=", "wait=", "backoff=", "most=", "pending=", "push". -/
def heads : List Tok := [[102, 114, 111, 109, 61], [97, 99, 107, 61], [119, 97, 105, 116, 61], [98, 97, 99, 107, 111, 102, 102, 61], [109, 111, 115, 116, 61], [112, 101, 110, 100, 105, 110, 103, 61], [112, 117, 115, 104]]

def lastW : Tok := [108, 97, 115, 116]
def newW : Tok := [110, 101, 119]
def noneW : Tok := [110, 111, 110, 101]
def allW : Tok := [97, 108, 108]

/-- An option is laid into a plan; none: it is none. -/
def optT (i : Nat) (v : Tok) (t : TakerP) : Option TakerP :=
  match i with
  | 0 => if v = lastW then some { t with src := 1 } else if v = newW then some { t with src := 2 } else if 0 < numberOf v then some { t with src := 3, start := numberOf v } else none
  | 1 => if v = noneW then some { t with ack := 0 } else if v = allW then some { t with ack := 1 } else none
  | 2 => if 0 < numberOf v then some { t with wait := numberOf v } else none
  | 3 => if ((piecesC 44 v).all fun x => decide (0 < numberOf x)) = true then some { t with back := t.back ++ (piecesC 44 v).map numberOf } else none
  | 4 => if 0 < numberOf v then some { t with most := numberOf v } else none
  | 5 => if 0 < numberOf v then some { t with pend := numberOf v } else none
  | _ => if v = [] then some { t with push := true } else none

/-- What is told from the option i on. -/
def seqF : Nat → Nat → List Tok → TakerP → Option TakerP
  | 0, _, r, t => if r = [] then some t else none
  | k + 1, i, r, t =>
    match r with
    | [] => seqF k (i + 1) [] t
    | x :: r' => if (heads.getD i []).isPrefixOf x = true then (optT i (x.drop (heads.getD i []).length) t).bind (seqF k (i + 1) r') else seqF k (i + 1) (x :: r') t

def seqT (i : Nat) (r : List Tok) (t : TakerP) : Option TakerP := seqF (7 - i) i r t

theorem seqT_no {i : Nat} (hi : i < 7) (x : Tok) (r : List Tok) (t : TakerP) (h : (heads.getD i []).isPrefixOf x = false) : seqT i (x :: r) t = seqT (i + 1) (x :: r) t := by
  unfold seqT
  obtain ⟨k, hk⟩ : ∃ k, 7 - i = k + 1 := ⟨6 - i, by omega⟩
  have hk2 : 7 - (i + 1) = k := by omega
  rw [hk, hk2]
  conv => lhs; unfold seqF
  simp only [h, Bool.false_eq_true, if_false]

theorem seqT_yes {i : Nat} (hi : i < 7) (x : Tok) (r : List Tok) (t : TakerP) (h : (heads.getD i []).isPrefixOf x = true) : seqT i (x :: r) t = (optT i (x.drop (heads.getD i []).length) t).bind (seqT (i + 1) r) := by
  unfold seqT
  obtain ⟨k, hk⟩ : ∃ k, 7 - i = k + 1 := ⟨6 - i, by omega⟩
  have hk2 : 7 - (i + 1) = k := by omega
  rw [hk, hk2]
  conv => lhs; unfold seqF
  simp only [h, if_true]

theorem seqT_none {i : Nat} (hi : i < 7) (t : TakerP) : seqT i [] t = seqT (i + 1) [] t := by
  unfold seqT
  obtain ⟨k, hk⟩ : ∃ k, 7 - i = k + 1 := ⟨6 - i, by omega⟩
  have hk2 : 7 - (i + 1) = k := by omega
  rw [hk, hk2]
  rfl

def errT (t : TakerP) : Nat := takerErr t.name t.filt t.src t.start t.ack t.wait t.back t.most t.pend

end Go.Proofs.YtapmhpnkpjgefaaDoor.Subj

namespace Go.Proofs.YtapmhpnkpjgefaaDoor.Subj

/-- What a right plan's parts are. -/
theorem errT_facts {t : TakerP} (h : errT t = 0) : nameOk t.name = true ∧ err true t.filt = 0 ∧ t.back.length ≤ 5 ∧ argsOk t.src t.start t.ack t.wait t.back t.most t.pend = true := by
  unfold errT takerErr at h
  split at h
  · rename_i h1
    split at h
    · rename_i h2
      split at h
      · cases h
      · split at h
        · rename_i h3 h4; exact ⟨h1, h2, by omega, h4⟩
        · cases h
    · contradiction
  · cases h

theorem inB_iff {n lo hi : Int} : inB n lo hi = true ↔ lo ≤ n ∧ n ≤ hi := by
  unfold inB; rw [Bool.and_eq_true, decide_eq_true_eq, decide_eq_true_eq]

theorem argsOk_facts {src start ack wait : Int} {back : List Int} {most pend : Int} (h : argsOk src start ack wait back most pend = true) :
    (0 ≤ src ∧ src ≤ 3) ∧ (src = 3 → 1 ≤ start ∧ start ≤ 999999999) ∧ (0 ≤ start ∧ start ≤ 999999999) ∧ (0 ≤ ack ∧ ack ≤ 2) ∧ (0 ≤ wait ∧ wait ≤ 100000) ∧ (ack ≠ 0 → 1 ≤ wait) ∧ (ack = 0 → wait = 0) ∧ (0 ≤ most ∧ most ≤ 20) ∧ (0 ≤ pend ∧ pend ≤ 50) ∧ ∀ k, k < back.length → 1 ≤ back.getD k 0 ∧ back.getD k 0 ≤ 100000 := by
  unfold argsOk at h
  simp only [Bool.and_eq_true] at h
  obtain ⟨⟨⟨h1, h2⟩, h3⟩, h4⟩ := h
  rw [inB_iff] at h1 h3
  have hst : (src = 3 → 1 ≤ start ∧ start ≤ 999999999) ∧ (0 ≤ start ∧ start ≤ 999999999) := by
    unfold startOk at h2
    by_cases e : src = 3
    · rw [e, if_pos (show ((3 : Int) == 3) = true from rfl), inB_iff] at h2
      exact ⟨fun _ => h2, by omega⟩
    · rw [if_neg (by simpa using e), beq_iff_eq] at h2
      exact ⟨fun e2 => absurd e2 e, by omega⟩
  refine ⟨h1, hst.1, hst.2, h3, ?_⟩
  unfold timesOk at h4
  by_cases e : ack = 0
  · rw [e, if_pos (show ((0 : Int) == 0) = true from rfl)] at h4
    simp only [Bool.and_eq_true, beq_iff_eq] at h4
    obtain ⟨⟨⟨g1, g2⟩, g3⟩, g4⟩ := h4
    exact ⟨by omega, fun h => absurd e h, fun _ => g1, by omega, by omega, fun k hk => by omega⟩
  · rw [if_neg (by simpa using e)] at h4
    simp only [Bool.and_eq_true] at h4
    obtain ⟨⟨⟨g1, g2⟩, g3⟩, g4⟩ := h4
    rw [inB_iff] at g1 g2 g3
    refine ⟨by omega, fun _ => g1.1, fun h => absurd h e, by omega, by omega, fun k hk => ?_⟩
    rw [List.all_eq_true] at g4
    have := g4 (back.getD k 0) (by simp [List.getD, hk])
    rwa [inB_iff] at this

end Go.Proofs.YtapmhpnkpjgefaaDoor.Subj

namespace Go.Proofs.YtapmhpnkpjgefaaDoor.Subj
open Go.RowKit

theorem nameOk_of (s : ByteArray) (h : ∀ j, (h : j < s.size) → nameByte s[j] = true) : nameOk s.data.toList = (decide (1 ≤ s.size) && decide (s.size ≤ 16)) := by
  have : s.data.toList.all nameByte = true := by
    rw [List.all_eq_true]
    intro b hb
    obtain ⟨j, hj, rfl⟩ := List.getElem_of_mem hb
    rw [list_get s j (by simpa using hj)]
    exact h j _
  unfold nameOk
  rw [this, Bool.true_and]
  simp

theorem nameOk_not (s : ByteArray) (j : Nat) (hj : j < s.size) (h : nameByte s[j] = false) : nameOk s.data.toList = false := by
  have : s.data.toList.all nameByte = false := by
    rw [List.all_eq_false]
    exact ⟨s[j], by rw [← list_get s j hj]; exact List.getElem_mem _, by simp [h]⟩
  unfold nameOk
  rw [this, Bool.false_and]

def NameLoop (s : ByteArray) (k : Nat) : Prop := ∀ j, (h : j < s.size) → j < k → nameByte s[j] = true

theorem NameLoop.step {s : ByteArray} {k : Nat} (H : NameLoop s k) (hk : k < s.size) (h : nameByte s[k] = true) : NameLoop s (k + 1) := fun j hj hjk => by
  by_cases e : j = k
  · subst e; exact h
  · exact H j hj (by omega)

set_option maxHeartbeats 1000000 in
set_option maxRecDepth 100000 in
theorem named_any (s : ByteArray) (w : World) (hs : s.size ≤ maxLen) :
    Calls Tryd.prog 36 #[.string s] w fun e w' => e = .returned (.bool (nameOk s.data.toList)) ∧ w = w' := by
  unfold maxLen at hs
  go_enter Tryd.func36, Tryd.ntmps36
  go_wp2
  go_loop [7] (fun i => ∃ k : Nat, k ≤ s.size ∧ i = .int .i64 k ∧ Hid (NameLoop s k)) (fun i => s.size - (intOf i).toNat)
  case atStart => exact ⟨0, Nat.zero_le _, rfl, fun j _ h => by omega⟩
  case round =>
    obtain ⟨k, hk, rfl, H⟩ := hrel
    by_cases hlt : k < s.size
    · have hb := s[k].toNat_lt
      by_cases hok : nameByte s[k] = true
      · have HN := Lib.hid (H.out.step hlt hok)
        unfold nameByte at hok
        simp only [Bool.or_eq_true, Bool.and_eq_true, decide_eq_true_eq, beq_iff_eq] at hok
        rcases hok with (⟨b1, b2⟩ | ⟨b1, b2⟩) | b1
        · go_wp2
          exact ⟨⟨k + 1, by omega, by go_num, HN⟩, by simp [intOf]; omega⟩
        · go_wp2
          exact ⟨⟨k + 1, by omega, by go_num, HN⟩, by simp [intOf]; omega⟩
        · have d : ((s[k].toNat : Int) != 45) = false := by simp; omega
          go_wp2
          all_goals exact ⟨⟨k + 1, by omega, by go_num, HN⟩, by simp [intOf]; omega⟩
      · have hr := nameOk_not s k hlt (by simpa using hok)
        have HR := Lib.hid hr; clear hr
        unfold nameByte at hok
        simp at hok
        obtain ⟨⟨h1, h2⟩, h3⟩ := hok
        have d : ((s[k].toNat : Int) != 45) = true := by simp; omega
        by_cases b1 : s[k].toNat < 97
        · by_cases b2 : s[k].toNat < 48
          · go_wp2
            go_ret
            exact ⟨ret_bool HR.out.symm, rfl⟩
          · have b3 : 57 < s[k].toNat := by omega
            go_wp2
            go_ret
            exact ⟨ret_bool HR.out.symm, rfl⟩
        · have b2 : 122 < s[k].toNat := by omega
          have b3 : 57 < s[k].toNat := by omega
          go_wp2
          go_ret
          exact ⟨ret_bool HR.out.symm, rfl⟩
    · have hr := nameOk_of s (fun j h => H.out j h (by omega))
      have HR := Lib.hid hr; clear hr
      by_cases c1 : 1 ≤ s.size
      · by_cases c2 : s.size ≤ 16
        · have e : (decide (1 ≤ s.size) && decide (s.size ≤ 16)) = true := by simp [c1, c2]
          have E := Lib.hid e; clear e
          go_wp2
          go_ret
          refine ⟨ret_bool ?_, rfl⟩
          rw [HR.out, E.out]
          simp; omega
        · have e : (decide (1 ≤ s.size) && decide (s.size ≤ 16)) = false := by simp; omega
          have E := Lib.hid e; clear e
          go_wp2
          go_ret
          refine ⟨ret_bool ?_, rfl⟩
          rw [HR.out, E.out]
          simp; omega
      · have e : (decide (1 ≤ s.size) && decide (s.size ≤ 16)) = false := by simp; omega
        have E := Lib.hid e; clear e
        go_wp2
        go_ret
        exact ⟨ret_bool (by rw [HR.out, E.out]), rfl⟩

/-! ### Numbers -/
def NumLoop (s : ByteArray) (k : Nat) (n : Nat) : Prop := digitsVal (s.data.toList.take k) = n ∧ (s.data.toList.take k).all isDigit = true ∧ n < 10 ^ k

theorem NumLoop.step {s : ByteArray} {k n : Nat} (H : NumLoop s k n) (hk : k < s.size) (h : isDigit s[k] = true) : NumLoop s (k + 1) (10 * n + (s[k].toNat - 48)) := by
  obtain ⟨h1, h2, h3⟩ := H
  have htk : s.data.toList.take (k + 1) = s.data.toList.take k ++ [s[k]] := by
    rw [List.take_add_one]; simp [hk]; rfl
  refine ⟨?_, ?_, ?_⟩
  · rw [htk, digitsVal_snoc, h1]
  · rw [htk]; simp [h2, h]
  · have := digitsVal_step (l := s.data.toList.take k) (b := s[k]) (k := k) (by omega) h
    rw [digitsVal_snoc, h1] at this
    exact this

end Go.Proofs.YtapmhpnkpjgefaaDoor.Subj

namespace Go.Proofs.YtapmhpnkpjgefaaDoor.Subj
open Go.RowKit

def wordAt (k : Nat) : ByteArray := ⟨(words.getD k []).toArray⟩
def mostAt (k : Nat) : Int := mosts.getD k 0

/-- Block G holds the bounds of the plan in block P. -/
def BndAt (P G : Nat) (w : World) : Prop := ∀ k, k < 8 → w.cell? ⟨G, k * 3, none⟩ = some (.string (wordAt k)) ∧ w.cell? ⟨G, k * 3 + 1, none⟩ = some (.pointer (some ⟨P, 2 + k, none⟩)) ∧ w.cell? ⟨G, k * 3 + 2, none⟩ = some (.int .i64 (mostAt k))

/-- The numbers of the plan in block P. -/
def ValsAt (P : Nat) (vs : List Int) (w : World) : Prop := ∀ k, k < 8 → w.cell? ⟨P, 2 + k, none⟩ = some (.int .i64 (vs.getD k 0))

theorem BndAt.below {P G : Nat} {w w' : World} (h : BndAt P G w) (hb : Below w.heap.size w w') : BndAt P G w' := fun k hk => by
  obtain ⟨h1, h2, h3⟩ := h k hk
  exact ⟨(hb.cell (World.block_lt_of_cell? w _ h1)).trans h1, (hb.cell (World.block_lt_of_cell? w _ h2)).trans h2, (hb.cell (World.block_lt_of_cell? w _ h3)).trans h3⟩

theorem ValsAt.below {P : Nat} {vs : List Int} {w w' : World} (h : ValsAt P vs w) (hb : Below w.heap.size w w') : ValsAt P vs w' := fun k hk =>
  (hb.cell (World.block_lt_of_cell? w _ (h k hk))).trans (h k hk)

end Go.Proofs.YtapmhpnkpjgefaaDoor.Subj

namespace Go.Proofs.YtapmhpnkpjgefaaDoor.Subj
open Go.RowKit
/-! ### The filters -/
/-! ### The check -/
theorem Inv.made {w : World} (hm : ML w) (o : Obj) : Inv w (w.alloc o) := ⟨hm.below ((Below.refl _ _).alloc (Nat.le_refl _) _), (Below.refl _ _).alloc (Nat.le_refl _) _⟩
theorem Inv.thru {w w1 w2 : World} (h : Inv w w1) (h2 : Inv w1 w2) : Inv w w2 := ⟨h2.1, h.2.trans (h2.2.mono h.2.size)⟩

end Go.Proofs.YtapmhpnkpjgefaaDoor.Subj

namespace Go.Proofs.YtapmhpnkpjgefaaDoor.Subj
open Go.RowKit

/-- The cells of a plan in memory. -/
theorem ten {B : Nat} {w : World} {t : TypeId} {a0 a1 a2 a3 a4 a5 a6 a7 a8 a9 : Value} (h : w.heap[B]? = some (.cells #[a0, a1, a2, a3, a4, a5, a6, a7, a8, a9] t (0, 0))) :
    w.cell? ⟨B, 0, none⟩ = some a0 ∧ w.cell? ⟨B, 1, none⟩ = some a1 ∧ w.cell? ⟨B, 2, none⟩ = some a2 ∧ w.cell? ⟨B, 3, none⟩ = some a3 ∧ w.cell? ⟨B, 4, none⟩ = some a4 ∧ w.cell? ⟨B, 5, none⟩ = some a5 ∧
      w.cell? ⟨B, 6, none⟩ = some a6 ∧ w.cell? ⟨B, 7, none⟩ = some a7 ∧ w.cell? ⟨B, 8, none⟩ = some a8 ∧ w.cell? ⟨B, 9, none⟩ = some a9 ∧ ∀ j, w.frozen? ⟨B, j, none⟩ = false :=
  ⟨cell_of_row w B 0 _ _ (0, 0) h, cell_of_row w B 1 _ _ (0, 0) h, cell_of_row w B 2 _ _ (0, 0) h, cell_of_row w B 3 _ _ (0, 0) h, cell_of_row w B 4 _ _ (0, 0) h, cell_of_row w B 5 _ _ (0, 0) h,
    cell_of_row w B 6 _ _ (0, 0) h, cell_of_row w B 7 _ _ (0, 0) h, cell_of_row w B 8 _ _ (0, 0) h, cell_of_row w B 9 _ _ (0, 0) h, fun j => by simp [World.frozen?, h]⟩

end Go.Proofs.YtapmhpnkpjgefaaDoor.Subj

namespace Go.Proofs.YtapmhpnkpjgefaaDoor.Subj
open Go.RowKit

/-- Numbers that lie somewhere. -/
def NumsAt (g : Nat) (vs : List Int) (w : World) : Prop := ∀ k, k < 8 → w.cell? ⟨g, k, none⟩ = some (.int .i64 (vs.getD k 0))

theorem NumsAt.below {g : Nat} {vs : List Int} {w w' : World} (h : NumsAt g vs w) (hb : Below w.heap.size w w') : NumsAt g vs w' := fun k hk =>
  (hb.cell (World.block_lt_of_cell? w _ (h k hk))).trans (h k hk)

/-! ### The check -/
theorem ten_alloc (w : World) (t : TypeId) (a0 a1 a2 a3 a4 a5 a6 a7 a8 a9 : Value) : (w.alloc (.cells #[a0, a1, a2, a3, a4, a5, a6, a7, a8, a9] t)).heap[w.heap.size]? = some (.cells #[a0, a1, a2, a3, a4, a5, a6, a7, a8, a9] t (0, 0)) := heap_alloc_new w _

theorem Inv.blk {w0 w : World} (h : Inv w0 w) {B : Nat} {o : Obj} (hz : w0.heap[B]? = some o) : w.heap[B]? = some o :=
  (h.2.block _ (Array.getElem?_eq_some_iff.1 hz).1).trans hz

end Go.Proofs.YtapmhpnkpjgefaaDoor.Subj

namespace Go.Proofs.YtapmhpnkpjgefaaDoor.Con.Del
open Go.RowKit Heap

theorem step_append_runI {P : Program} {ops : Array Oper} {o : Oper} {a : Act} {w : World} {K : Act → World → Prop} {Q : Exit → Act → World → Prop} {E : Prop}
    (hg : o.guard = none) (s x : Operand) (t : TypeId) (hop : o.op = Op.call { callee := Callee.builtin Builtin.append, args := #[s, x], argTypes := #[t, t] })
    (v u : Value) (hs : a.eval s = v) (hx : a.eval x = u) {v' : Value} {w' : World} (hr : (Builtin.append_ #[t, t] o.type #[v, u]).run P w = .ok v' w') (hK : K (a.put o.dst v') w') :
    if Region.wanted o (yielded ops a.tmps) = true then Oper.wp P o a w K Q else E := by
  have hw : Region.wanted o (yielded ops a.tmps) = true := by simp [Region.wanted, hg]
  rw [if_pos hw]
  unfold Oper.wp execOp
  simp only [hop, resolve, invoke, builtin, Sem.run_bind, Sem.run_pure, Result.andThen_ok, List.map_toArray, List.map_cons, List.map_nil, hs, hx, hr]
  exact hK

theorem info_el : (Tryd.prog.info? 70).map (fun i => (i.zero, i.size, i.bytes)) = some (some (Value.agg #[.int .i64 0, .int .i64 0, .int .i64 0]), 3, 24) := by kernel_rfl

theorem setRow_other (w : World) (g k : Nat) (cs : Array Value) (h : k ≠ g) : (w.setRow g cs).heap[k]? = w.heap[k]? := by
  simp only [World.setRow, Array.getElem?_modify]
  rw [if_neg (fun e => h e.symm)]

theorem touch_setRow {F : Nat → Prop} {a w : World} (h : Heap.Touch F a w) {g : Nat} (hg : F g) (cs : Array Value) : Heap.Touch F a (w.setRow g cs) :=
  ⟨h.os, h.tape, h.output, by simp [World.setRow]; exact h.size, fun k hk hn => by rw [setRow_other _ _ _ _ (fun e => hn (by rw [e]; exact hg))]; exact h.block k hk hn⟩

theorem erase_list {cur xs : List Value} {off i m d : Nat} (hi : i ≤ m) (h3 : off + (m + d) * 3 ≤ cur.length) (hx : (cur.drop off).take ((m + d) * 3) = xs) :
    let c1 := cur.take (off + i * 3) ++ xs.drop ((i + d) * 3) ++ cur.drop (off + i * 3 + (m - i) * 3)
    c1.length = cur.length ∧ (c1.drop off).take (m * 3) = xs.take (i * 3) ++ xs.drop ((i + d) * 3) := by
  have hxl : xs.length = (m + d) * 3 := by rw [← hx, List.length_take, List.length_drop]; omega
  intro c1
  have hP : (cur.take off).length = off := by rw [List.length_take]; omega
  have e1 : cur.take (off + i * 3) = cur.take off ++ xs.take (i * 3) := by
    rw [List.take_add, ← hx, List.take_take, show min (i * 3) ((m + d) * 3) = i * 3 by omega]
  refine ⟨?_, ?_⟩
  · show (cur.take (off + i * 3) ++ xs.drop ((i + d) * 3) ++ cur.drop (off + i * 3 + (m - i) * 3)).length = _
    simp only [List.length_append, List.length_take, List.length_drop, hxl]; omega
  · show ((cur.take (off + i * 3) ++ xs.drop ((i + d) * 3) ++ cur.drop (off + i * 3 + (m - i) * 3)).drop off).take (m * 3) = _
    rw [e1, List.append_assoc, List.append_assoc, List.drop_append, hP, Nat.sub_self, List.drop_zero, List.drop_of_length_le (by omega), List.nil_append, ← List.append_assoc]
    have hl : (xs.take (i * 3) ++ xs.drop ((i + d) * 3)).length = m * 3 := by simp only [List.length_append, List.length_take, List.length_drop, hxl]; omega
    rw [List.take_append, hl, Nat.sub_self, List.take_zero, List.append_nil, List.take_of_length_le (by omega)]

section
variable {w : World} {m i d : Nat} {xs : List Value}

set_option maxHeartbeats 4000000 in
set_option maxRecDepth 100000 in
theorem delete_any (g off cap : Nat) (hn : m ≤ 200000) (hd : 1 ≤ d) (hd2 : d ≤ 200000) (hi : i ≤ m) (hrow : Row w 70 3 (.slice (some ⟨g, off, none⟩) (m + d : Nat) cap) (m + d) xs) (hones : ∀ u ∈ xs, u.oneCell' = true) :
    Calls Tryd.prog 28 #[.slice (some ⟨g, off, none⟩) (m + d : Nat) cap, .int .i64 i, .int .i64 ((i : Int) + d)] w fun e w' => e = .returned (.slice (some ⟨g, off, none⟩) m cap) ∧ Row w' 70 3 (.slice (some ⟨g, off, none⟩) m cap) m (xs.take (i * 3) ++ xs.drop ((i + d) * 3)) ∧ Heap.Touch (own (.slice (some ⟨g, off, none⟩) (m + d : Nat) cap)) w w' := by
  have hrow2 := hrow.2
  have hxl := hrow.1
  rcases hrow2 with ⟨h2, _⟩ | ⟨g', off', cap', cur, hv, hg, h1, h2, h3, h4⟩
  · cases h2
  simp only [Value.slice.injEq, Option.some.injEq, Addr.mk.injEq] at hv
  obtain ⟨⟨rfl, rfl, _⟩, _, rfl⟩ := hv
  obtain ⟨i0, hi0, hz0, hzs, hzb⟩ := info_parts info_el
  have hlist := erase_list (i := i) (m := m) (d := d) hi (by rw [Array.length_toList]; omega) h4
  obtain ⟨C1, hC1⟩ : ∃ C1 : Array Value, C1 = (cur.toList.take (off + i * 3) ++ xs.drop ((i + d) * 3) ++ cur.toList.drop (off + i * 3 + (m - i) * 3)).toArray := ⟨_, rfl⟩
  have hc1s : C1.size = cur.size := by rw [hC1, List.size_toArray, hlist.1, Array.length_toList]
  have hc1t : (C1.toList.drop off).take (m * 3) = xs.take (i * 3) ++ xs.drop ((i + d) * 3) := by rw [hC1]; exact hlist.2
  have hnl : (xs.drop ((i + d) * 3)).length = (m - i) * 3 := by rw [List.length_drop, hxl]; omega
  have hap : ∀ ty (a : Addr) c, (m - i = 0 ∨ a = ⟨g, off + (i + d) * 3, none⟩) → (Builtin.append_ #[61, 61] ty #[.slice (some ⟨g, off, none⟩) i cap, .slice (some a) (m - i) c]).run Tryd.prog w.drew = .ok (.slice (some ⟨g, off, none⟩) m cap) (w.drew.setRow g C1) := fun ty a c ha => by
    have h := run_append_room' (P := Tryd.prog) w.drew 61 ty 70 i0 Tryd.underlying61 hi0 g off i cap cur hg a (m - i) c (xs.drop ((i + d) * 3)) (by rw [hzs, hnl]) (fun j u hj => by
        have hjl := (List.getElem?_eq_some_iff.1 hj).1
        rw [hnl] at hjl
        rcases ha with ha | ha
        · omega
        · subst ha
          rw [List.getElem?_drop] at hj
          rw [Addr.add_lit]
          have := (hrow.cell ((i + d) * 3 + j) (by omega)).1
          rw [← Nat.add_assoc] at this
          exact this.trans hj) (fun u hu => hones u (List.mem_of_mem_drop hu)) (by omega) (by rw [hzs, hnl]; omega)
    rw [hzs, hnl, show i + (m - i) = m by omega] at h
    rw [hC1]
    exact h
  have hg1 : (w.drew.setRow g C1).heap[g]? = some (.cells C1 70 (0, 0)) := setRow_heap w.drew g cur C1 _ (0, 0) hg
  have hr1 : Row (w.drew.setRow g C1) 70 3 (.slice (some ⟨g, off, none⟩) (m + d : Nat) cap) (m + d) ((C1.toList.drop off).take ((m + d) * 3)) :=
    ⟨by rw [List.length_take, List.length_drop, Array.length_toList, hc1s]; omega, .inr ⟨g, off, cap, C1, rfl, hg1, by omega, h2, by rw [hc1s]; omega, rfl⟩⟩
  obtain ⟨w3, hcl, r3, t3⟩ := run_clear_row (P := Tryd.prog) 61 70 0 (Value.agg #[.int .i64 0, .int .i64 0, .int .i64 0]) 3 Tryd.underlying61 Tryd.zeroValue70 rfl (by decide) (by decide) hr1 (show m < m + d by omega)
  have HEND := Lib.hid (show Row w3 70 3 (.slice (some ⟨g, off, none⟩) m cap) m (xs.take (i * 3) ++ xs.drop ((i + d) * 3)) ∧ Heap.Touch (own (.slice (some ⟨g, off, none⟩) (m + d : Nat) cap)) w w3 from by
    refine ⟨?_, (touch_setRow (Heap.Touch.refl _ w).drew (by simp [own, Value.ownBlock]) _).after t3⟩
    rw [List.take_take, show min (m * 3) ((m + d) * 3) = m * 3 by omega, hc1t] at r3
    exact r3)
  rw [show m + d - m = d by omega] at hcl
  have hij : ¬ ((i : Int) = (i : Int) + d) := by omega
  have hb1 : (i : Int) ≤ (i : Int) + d := by omega
  have hb2 : (i : Int) + d ≤ (m : Int) + d := by omega
  have hb3 : (0 : Int) ≤ (i : Int) + d := by omega
  have htn : ((i : Int) + d).toNat = i + d := by omega
  have hmc : m + d ≤ cap := h1
  have hb4 : (i : Int) ≤ (m : Int) + d := by omega
  have hb5 : ¬ cap = m := by omega
  have hsub : m + d - (i + d) = m - i := by omega
  have hb6 : (i : Int) ≤ (cap : Int) := by omega
  have hb7 : (m : Int) + d ≤ (cap : Int) := by omega
  have hb8 : (m : Int) ≤ (m : Int) + d := by omega
  have htm : ((m : Int) + d).toNat = m + d := by omega
  have HROW := Lib.hid (show Row w.drew 70 3 (.slice (some ⟨g, off, none⟩) (m + d : Nat) cap) (m + d) xs from hrow)
  clear hlist hC1 hc1s hc1t hnl hg1 hr1 r3 t3 h1 h2 h3 h4 hg hrow hxl hones
  by_cases hci : cap = i + d
  · obtain rfl : m = i := by omega
    subst hci
    clear hap hcl HEND hij hb1 hb2 hb3 hb4 hb5 hb6 hb7 hb8 hmc
    obtain ⟨w4, hcl, r4, t4⟩ := run_clear_row (P := Tryd.prog) (w := w.drew) 61 70 0 (Value.agg #[.int .i64 0, .int .i64 0, .int .i64 0]) 3 Tryd.underlying61 Tryd.zeroValue70 rfl (by decide) (by decide) HROW.out (show m < m + d by omega)
    have HEND := Lib.hid (show Row w4 70 3 (.slice (some ⟨g, off, none⟩) m (m + d : Nat)) m (xs.take (m * 3) ++ xs.drop ((m + d) * 3)) ∧ Heap.Touch (own (.slice (some ⟨g, off, none⟩) (m + d : Nat) (m + d : Nat))) w w4 from by
      refine ⟨?_, (Heap.Touch.refl _ w).drew.after t4⟩
      have hxl := HROW.out.1
      rw [show xs.take (m * 3) ++ xs.drop ((m + d) * 3) = xs.take (m * 3) from by rw [List.drop_of_length_le (by omega), List.append_nil]]
      exact r4)
    rw [show m + d - m = d by omega] at hcl
    have hij : ¬ ((m : Int) = (m : Int) + d) := by omega
    have hb1 : (m : Int) ≤ (m : Int) + d := by omega
    have hb3 : (0 : Int) ≤ (m : Int) + d := by omega
    have hb4 : m ≤ m + d := by omega
    clear r4 t4
    go_enter Tryd.func28, Tryd.ntmps28
    go_wp2_with fail
    go_region_law (fail)
    go_wp2_with fail
    go_ret
    exact ⟨rfl, HEND.out⟩
  · have hci' : ¬ cap = i + d := hci
    go_enter Tryd.func28, Tryd.ntmps28
    go_wp2_with fail
    go_region_law ((refine step_append_runI rfl _ _ 61 rfl _ _ (by simp [Act.eval, Act.put]) (by simp [Act.eval, Act.put]) (hap _ ⟨g, off + (i + d) * 3, none⟩ (cap - (i + d)) (.inr rfl)) ?_))
    go_wp2_with fail
    go_ret
    exact ⟨rfl, HEND.out⟩
end
end Go.Proofs.YtapmhpnkpjgefaaDoor.Con.Del
