/- Parts of the proof, joined: The laws of filters, of the Lean functions. No program here.; Plans in plain Lean: what is right, how a text of a plan is read. No program here.; Consumers' plans in plain Lean: what is wrong with one.; How a plan is printed: in plain Lean.; How many subjects there are; what a store tells of a record, without its index. No program here.; How many messages there are of each subject: the map in which the reference counts.; 'is' and 'known', walked; and the laws of filters that hold of the Lean functions.; The laws SubjectTwo, SubjectThree, SubjectSelf, walked: each returns true. -/
import Derived.Test.YtapmhpnkpjgefaaDoorConsumerRulesUptoM2
import Derived.Test.YtapmhpnkpjgefaaDoorConsumerRulesUptoM3
import Derived.Test.YtapmhpnkpjgefaaDoorConsumerRulesUptoM5
import Derived.Test.YtapmhpnkpjgefaaDoorConsumerRulesUptoM8
import Derived.Lib.Join
import Derived.Lib.ItoaNum
import Derived.Maps.OwnSet
namespace Go.Proofs.YtapmhpnkpjgefaaDoor.Subj

/-- The text of pieces. -/
def joined : List Tok → List UInt8
  | [] => []
  | [t] => t
  | t :: u :: ts => t ++ 46 :: joined (u :: ts)

theorem joined_pieces : ∀ l : List UInt8, joined (pieces l) = l
  | [] => rfl
  | b :: l => by
    have ih := joined_pieces l
    unfold pieces
    split
    · rename_i h
      cases hp : pieces l with
      | nil => exact absurd hp (pieces_ne l)
      | cons p ps =>
        rw [hp] at ih
        simp [joined, ih, h]
    · split
      · rename_i p ps hp
        rw [hp] at ih
        cases ps with
        | nil => simp [joined] at ih ⊢; exact ih
        | cons q ps => simp [joined] at ih ⊢; exact ih
      · rename_i hp
        exact absurd hp (pieces_ne l)

theorem pieces_inj {a b : List UInt8} (h : pieces a = pieces b) : a = b := by
  rw [← joined_pieces a, ← joined_pieces b, h]

end Go.Proofs.YtapmhpnkpjgefaaDoor.Subj

namespace Go.Proofs.YtapmhpnkpjgefaaDoor.Subj

/-- A byte of a name. -/
def nameByte (b : UInt8) : Bool := (decide (97 ≤ b.toNat) && decide (b.toNat ≤ 122)) || (decide (48 ≤ b.toNat) && decide (b.toNat ≤ 57)) || b.toNat == 45
def nameOk (t : List UInt8) : Bool := t.all nameByte && (decide (1 ≤ t.length) && decide (t.length ≤ 16))

/-- The words of a plan's numbers, and the most that each may be. -/
def words : List (List UInt8) := [[109, 115, 103, 115], [98, 121, 116, 101, 115], [97, 103, 101], [112, 101, 114], [115, 105, 122, 101], [100, 105, 115, 99, 97, 114, 100], [107, 101, 101, 112], [119, 105, 110, 100, 111, 119]]
def mosts : List Int := [200, 65536, 100000, 200, 256, 1, 2, 100000]

/-- A number's digits, read from the left. -/
def isDigit (b : UInt8) : Bool := decide (48 ≤ b.toNat) && decide (b.toNat ≤ 57)
def digitsVal (l : List UInt8) : Nat := l.foldl (fun n b => 10 * n + (b.toNat - 48)) 0
def numberOf (l : List UInt8) : Int :=
  if l.length = 0 ∨ 9 < l.length ∨ (l.head? = some 48 ∧ 1 < l.length) ∨ l.all isDigit = false then -1 else digitsVal l

theorem digitsVal_snoc (l : List UInt8) (b : UInt8) : digitsVal (l ++ [b]) = 10 * digitsVal l + (b.toNat - 48) := by
  unfold digitsVal
  rw [List.foldl_append]
  rfl

theorem digitsVal_step {l : List UInt8} {b : UInt8} {k : Nat} (h : digitsVal l < 10 ^ k) (hb : isDigit b = true) : digitsVal (l ++ [b]) < 10 ^ (k + 1) := by
  rw [digitsVal_snoc, Nat.pow_succ]
  unfold isDigit at hb
  rw [Bool.and_eq_true, decide_eq_true_eq, decide_eq_true_eq] at hb
  omega

structure PlanP where
  name : List UInt8
  fs : List Tok
  vs : List Int

end Go.Proofs.YtapmhpnkpjgefaaDoor.Subj

namespace Go.Proofs.YtapmhpnkpjgefaaDoor.Subj

/-- A number in its bounds. -/
def inB (n lo hi : Int) : Bool := decide (lo ≤ n) && decide (n ≤ hi)

def timesOk (ack wait : Int) (back : List Int) (most pend : Int) : Bool :=
  if ack == 0 then (wait == 0) && (((back.length : Nat) : Int) == 0) && (most == 0) && (pend == 0)
  else inB wait 1 100000 && inB most 0 20 && inB pend 0 50 && back.all fun z => inB z 1 100000

def startOk (src start : Int) : Bool := if src == 3 then inB start 1 999999999 else start == 0

def argsOk (src start ack wait : Int) (back : List Int) (most pend : Int) : Bool :=
  inB src 0 3 && startOk src start && inB ack 0 2 && timesOk ack wait back most pend

/-- What 'Check' answers. -/
def takerErr (name filt : List UInt8) (src start ack wait : Int) (back : List Int) (most pend : Int) : Nat :=
  if nameOk name = true then
    if err true filt = 0 then if 5 < back.length then 2 else if argsOk src start ack wait back most pend = true then 0 else 1
    else err true filt
  else 3

theorem any_not (p : Int → Bool) (l : List Int) : (!(l.any fun z => !p z)) = l.all p := by
  induction l with
  | nil => rfl
  | cons a l ih => rw [List.any_cons, List.all_cons, Bool.not_or, ih, Bool.not_not]

end Go.Proofs.YtapmhpnkpjgefaaDoor.Subj

namespace Go.Proofs.YtapmhpnkpjgefaaDoor.Subj

end Go.Proofs.YtapmhpnkpjgefaaDoor.Subj

namespace Go.Proofs.YtapmhpnkpjgefaaDoor.Sto
open Subj (Tok pieces takes)
open Rec (Rc recErr far)
open Idx (Ents idxL before before_irrefl)
open Shf (SortedE)

/-- The subjects, each once. -/
def subjs : List Rc → List Subj.Tok
  | [] => []
  | r :: L => if r.subj ∈ subjs L then subjs L else r.subj :: subjs L

theorem mem_subjs : ∀ {L : List Rc} {s : Subj.Tok}, s ∈ subjs L ↔ ∃ r ∈ L, r.subj = s
  | [], s => by simp [subjs]
  | a :: L, s => by
    unfold subjs
    split
    · rename_i h
      rw [mem_subjs]
      constructor
      · rintro ⟨r, hr, e⟩; exact ⟨r, by simp [hr], e⟩
      · rintro ⟨r, hr, e⟩
        rcases List.mem_cons.1 hr with rfl | hr
        · rw [← e]; exact mem_subjs.1 h
        · exact ⟨r, hr, e⟩
    · rw [List.mem_cons, mem_subjs]
      constructor
      · rintro (rfl | ⟨r, hr, e⟩)
        · exact ⟨a, by simp, rfl⟩
        · exact ⟨r, by simp [hr], e⟩
      · rintro ⟨r, hr, e⟩
        rcases List.mem_cons.1 hr with rfl | hr
        · exact .inl e.symm
        · exact .inr ⟨r, hr, e⟩

theorem nodup_subjs : ∀ L : List Rc, (subjs L).Nodup
  | [] => List.nodup_nil
  | a :: L => by
    unfold subjs
    split
    · exact nodup_subjs L
    · rename_i h
      exact List.nodup_cons.2 ⟨h, nodup_subjs L⟩

theorem nodup_le {α : Type} [DecidableEq α] : ∀ {A B : List α}, A.Nodup → (∀ x ∈ A, x ∈ B) → A.length ≤ B.length
  | [], _, _, _ => Nat.zero_le _
  | a :: A, B, hn, h => by
    have ha := h a (by simp)
    have h1 := nodup_le (A := A) (B := B.erase a) (List.nodup_cons.1 hn).2 fun x hx => by
      have hne : x ≠ a := fun e => (List.nodup_cons.1 hn).1 (e ▸ hx)
      exact (List.mem_erase_of_ne hne).2 (h x (by simp [hx]))
    have h2 := List.length_erase_of_mem ha
    have h3 := List.length_pos_of_mem ha
    rw [List.length_cons]
    omega

theorem nodup_len {α : Type} [DecidableEq α] {A B : List α} (ha : A.Nodup) (hb : B.Nodup) (h : ∀ x, x ∈ A ↔ x ∈ B) : A.length = B.length :=
  Nat.le_antisymm (nodup_le ha fun x hx => (h x).1 hx) (nodup_le hb fun x hx => (h x).2 hx)

theorem sorted_nodup {I : Ents} (h : SortedE I) : (I.map (·.1)).Nodup := by
  unfold SortedE at h
  rw [List.nodup_iff_pairwise_ne, List.pairwise_map]
  refine h.imp fun {a b} hab e => ?_
  rw [e, before_irrefl] at hab; cases hab

theorem cnt_ne {L : List Rc} {s : Subj.Tok} : cntR L s ≠ 0 ↔ ∃ r ∈ L, r.subj = s := by
  unfold cntR
  rw [← Nat.pos_iff_ne_zero, List.countP_pos_iff]
  simp

def dist (L : List Rc) : Nat := (subjs L).length

theorem counts_dist {I : Ents} {L : List Rc} (h : SortedE I) (hc : Counts I L) : I.length = dist L := by
  rw [← List.length_map (f := fun e : Subj.Tok × Int => e.1)]
  refine nodup_len (sorted_nodup h) (nodup_subjs L) fun s => ?_
  rw [mem_subjs, ← cnt_ne, List.mem_map]
  constructor
  · rintro ⟨e, he, rfl⟩
    exact ((hc e.1 e.2).1 he).2
  · intro h0
    exact ⟨(s, cntR L s), (hc _ _).2 ⟨rfl, h0⟩, rfl⟩

/-- What is told of a record ahead of it. -/
def tryD (L : List Rc) (last : Int) (r : Rc) : Nat :=
  if recErr r ≠ 0 then recErr r
  else if r.kind = 1 then if r.seq ≤ last then 9 else if L.length = 200 ∨ (cntR L r.subj = 0 ∧ dist L = 100) then 8 else 0
  else if r.kind = 2 then if hasSeq L r.seq then 0 else 4
  else 0

theorem tryS_D {I : Ents} {L : List Rc} (h : SortedE I) (hc : Counts I L) (last : Int) (r : Rc) : tryS L last I r = tryD L last r := by
  unfold tryS tryD
  rw [counts_dist h hc]

/-- Behind a record. -/
def after (L : List Rc) (last : Int) (r : Rc) : List Rc × Int := if tryD L last r = 0 then (leftS L r, lastS last r) else (L, last)
end Go.Proofs.YtapmhpnkpjgefaaDoor.Sto

namespace Go.Proofs.YtapmhpnkpjgefaaDoor.Sto
open Go.RowKit
open Subj (Tok)
open Rec (Rc)
open Go.Maps Go.WideShapes

section
variable {H : Type} {D : DataW H} {L : List Rc}

def cntP (L : List Rc) (s : Subj.Tok) : Lit × DataW H := (.string s, .lit (.int .i64 (cntR L s : Int)))
def Told (D : DataW H) (L : List Rc) : Prop := ∃ es, D = .map es ∧ ∀ p, p ∈ es ↔ ∃ s, p = cntP L s ∧ cntR L s ≠ 0

end
end Go.Proofs.YtapmhpnkpjgefaaDoor.Sto

namespace Go.Proofs.YtapmhpnkpjgefaaDoor.Subj
open Go.RowKit
end Go.Proofs.YtapmhpnkpjgefaaDoor.Subj

namespace Go.Proofs.YtapmhpnkpjgefaaDoor.Subj
open Go.RowKit

/-! ### What 'is' tells, on lists -/

/-! ### The calls, from a world to a world -/

/-- What every call keeps: the length's cell is there; nothing of the first world is turned. -/
def Inv (w0 w : World) : Prop := ML w ∧ Below w0.heap.size w0 w

theorem Inv.refl {w : World} (h : ML w) : Inv w w := ⟨h, Below.refl _ _⟩
theorem Inv.step {w0 w w' : World} (h : Inv w0 w) (hb : Below w.heap.size w w') : Inv w0 w' := ⟨h.1.below hb, h.2.trans (hb.mono h.2.size)⟩

end Go.Proofs.YtapmhpnkpjgefaaDoor.Subj
