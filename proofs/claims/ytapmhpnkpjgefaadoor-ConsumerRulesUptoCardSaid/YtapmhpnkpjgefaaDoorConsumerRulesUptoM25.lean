/- Parts of the proof, joined: The reference's chest in memory; its Try, walked.; The memory of who reads a consumer's text.; taker.Wait and rillref.Wait, walked. -/
import Derived.Test.YtapmhpnkpjgefaaDoorConsumerRulesUptoM15
import Derived.Test.YtapmhpnkpjgefaaDoorConsumerRulesUptoM17
import Derived.Test.YtapmhpnkpjgefaaDoorConsumerRulesUptoM20
import Derived.Test.YtapmhpnkpjgefaaDoorConsumerRulesUptoM24
import Derived.WalkKit
namespace Go.Proofs.YtapmhpnkpjgefaaDoor.Sto
open Go.RowKit Heap
open Subj (Tok ML pieces takes)
open Rec (Rc recErr far recA rcOf)
open Idx (Ents ptrV)
open Go.Maps Go.WideMaps
theorem zeroI (w : World) : (zeroValue 3).run Tryd.prog w = .ok (.int .i64 0) w := by kernel_rfl

section
variable {W w w1 : World} {C : Nat} {v : Value} {L : List Rc} {last : Int} {I : Ents}
end
end Go.Proofs.YtapmhpnkpjgefaaDoor.Sto

namespace Go.Proofs.YtapmhpnkpjgefaaDoor.Subj
open Go.RowKit

def zeroT : Array Value := #[.string ⟨#[]⟩, .string ⟨#[]⟩, .int .i64 0, .int .i64 0, .int .i64 0, .int .i64 0, .slice none 0 0, .int .i64 0, .int .i64 0, .bool false]

def intsV (zs : List Int) : List Value := zs.map (Value.int .i64)

/-- The answer's block B, the words from off in block g, the plan in block T; R: the last block ahead of the rows that the plan holds. -/
structure TC (W : World) (B T R g off : Nat) (r : List Tok) (arr : Array Value) (vb : Value) (back : List Int) (w : World) : Prop where
  ml : ML W
  below : Below W.heap.size W w
  zero : w.heap[B]? = some (.cells zeroT 24 (0, 0))
  cells : w.heap[T]? = some (.cells arr 24 (0, 0))
  rest : StrsAt w g off r
  gsize : g < w.heap.size
  row : Heap.Row w 3 1 vb back.length (intsV back)
  newB : W.heap.size ≤ B
  newG : W.heap.size ≤ g
  gB : g ≠ B
  BT : B < T
  gT : g < T
  TR : T ≤ R
  nb : ∀ k, Heap.own vb k → R < k

namespace TC
variable {W : World} {B T R g off : Nat} {r : List Subj.Tok} {arr : Array Value} {vb : Value} {back : List Int} {w : World}

theorem ofTouch {w' : World} {F : Nat → Prop} (h : TC W B T R g off r arr vb back w) (ht : Heap.Touch F w w') (hF : ∀ k, F k → W.heap.size ≤ k ∧ k ≠ B ∧ k ≠ T ∧ k ≠ g ∧ ¬ Heap.own vb k) : TC W B T R g off r arr vb back w' where
  ml := h.ml
  below := h.below.trans (ht.below h.below.size fun k hk => (hF k hk).1)
  zero := (ht.block _ (Heap.heap_lt h.zero) fun hk => (hF _ hk).2.1 rfl).trans h.zero
  cells := (ht.block _ (Heap.heap_lt h.cells) fun hk => (hF _ hk).2.2.1 rfl).trans h.cells
  rest := fun i hi => (ht.cell (World.block_lt_of_cell? w _ (h.rest i hi)) fun hk => (hF _ hk).2.2.2.1 rfl).trans (h.rest i hi)
  gsize := Nat.lt_of_lt_of_le h.gsize ht.size
  row := h.row.kept (ht.same fun k hk hf => (hF k hf).2.2.2.2 hk)
  newB := h.newB
  newG := h.newG
  gB := h.gB
  BT := h.BT
  gT := h.gT
  TR := h.TR
  nb := h.nb

theorem next {w' : World} (h : TC W B T R g off r arr vb back w) (hb : Below w.heap.size w w') : TC W B T R g off r arr vb back w' :=
  h.ofTouch (F := fun _ => False) (Heap.Touch.ofBelow hb) (fun _ hk => hk.elim)

theorem tail {x : Subj.Tok} (h : TC W B T R g off (x :: r) arr vb back w) : TC W B T R g (off + 1) r arr vb back w :=
  { ml := h.ml, below := h.below, zero := h.zero, cells := h.cells, rest := h.rest.tail, gsize := h.gsize, row := h.row, newB := h.newB, newG := h.newG, gB := h.gB, BT := h.BT, gT := h.gT, TR := h.TR, nb := h.nb }

end TC
/-- Whether the rest tells what is wanted. -/
def Good (E : Option TakerP) (i : Nat) (r : List Subj.Tok) (t : TakerP) (ok : Bool) : Prop := (ok = true → E = seqT i r t) ∧ (ok = false → E = none)

theorem Good.no {E : Option TakerP} {i : Nat} {r : List Subj.Tok} {t : TakerP} {ok : Bool} (h : Good E i r t ok) (hi : i < 7) (hn : ∀ x r', r = x :: r' → (heads.getD i []).isPrefixOf x = false) : Good E (i + 1) r t ok := by
  refine ⟨fun e => ?_, h.2⟩
  rw [h.1 e]
  cases r with
  | nil => exact seqT_none hi t
  | cons x r => exact seqT_no hi x r t (hn x r rfl)

theorem Good.some {E : Option TakerP} {i : Nat} {x : Subj.Tok} {r : List Subj.Tok} {t t' : TakerP} {ok : Bool} (h : Good E i (x :: r) t ok) (hi : i < 7) (hx : (heads.getD i []).isPrefixOf x = true) (ho : optT i (x.drop (heads.getD i []).length) t = some t') : Good E (i + 1) r t' ok := by
  refine ⟨fun e => ?_, h.2⟩
  rw [h.1 e, seqT_yes hi x r t hx, ho]; rfl

theorem Good.none {E : Option TakerP} {i : Nat} {x : Subj.Tok} {r : List Subj.Tok} {t : TakerP} {ok : Bool} (h : Good E i (x :: r) t ok) (hi : i < 7) (hx : (heads.getD i []).isPrefixOf x = true) (ho : optT i (x.drop (heads.getD i []).length) t = none) (t' : TakerP) : Good E (i + 1) r t' false := by
  refine ⟨fun e => (by cases e), fun _ => ?_⟩
  cases hk : ok with
  | false => exact h.2 hk
  | true => rw [h.1 hk, seqT_yes hi x r t hx, ho]; rfl

end Go.Proofs.YtapmhpnkpjgefaaDoor.Subj

namespace Go.Proofs.YtapmhpnkpjgefaaDoor.Subj
open Go.RowKit

abbrev takerArg (name filt : ByteArray) (src start ack wait : Int) (vb : Value) (most pend : Int) (push : Bool) : Value :=
  .agg #[.string name, .string filt, .int .i64 src, .int .i64 start, .int .i64 ack, .int .i64 wait, vb, .int .i64 most, .int .i64 pend, .bool push]

def WaitIs (w : World) (z : Int) (e : Ending) (w' : World) : Prop := e = .returned (.int .i64 z) ∧ Below w.heap.size w w'

theorem waitC_none (nm fl : ByteArray) (fr st ak wt : Int) (ao : Option Addr) (cap : Nat) (mo pe : Int) (pu : Bool) (nth : Int) (w : World) :
    Calls Tryd.prog 21 #[takerArg nm fl fr st ak wt (.slice ao 0 cap) mo pe pu, .int .i64 nth] w (WaitIs w wt) := by
  go_enter Tryd.func21, Tryd.ntmps21
  go_wp2
  go_ret
  exact ⟨rfl, (Below.refl _ _).alloc (Nat.le_refl _) _⟩

theorem waitR_none (nm fl : ByteArray) (fr st ak wt : Int) (ao : Option Addr) (cap : Nat) (mo pe : Int) (pu : Bool) (nth : Int) (w : World) :
    Calls Tryd.prog 26 #[takerArg nm fl fr st ak wt (.slice ao 0 cap) mo pe pu, .int .i64 nth] w (WaitIs w wt) := by
  go_enter Tryd.func26, Tryd.ntmps26
  go_wp2
  go_ret
  exact ⟨rfl, (Below.refl _ _).alloc (Nat.le_refl _) _⟩

set_option maxRecDepth 100000 in
theorem waitC_some (nm fl : ByteArray) (fr st ak wt : Int) (b off cap n j : Nat) (z : List Int) (mo pe : Int) (pu : Bool) (nth : Int) (w : World)
    (hz : IntsAt w b off z) (hzn : z.length = n) (hl : n ≤ 1048576) (hn : 0 < n) (hj : min (max nth 1) n = j + 1) :
    Calls Tryd.prog 21 #[takerArg nm fl fr st ak wt (.slice (some ⟨b, off, none⟩) n cap) mo pe pu, .int .i64 nth] w (WaitIs w (z.getD j 0)) := by
  have hjn : j < n := by omega
  have hc := hz j (by omega)
  have hlt := World.block_lt_of_cell? w _ hc
  replace hlt : b < w.heap.size := hlt
  have hz0 : ((n : Int) == 0) = false := by simp; omega
  have he : (min (max nth 1) (n : Int)).toNat - 1 = j := by omega
  have hc2 : w.cell? ⟨b, off + ((min (max nth 1) (n : Int)).toNat - 1), none⟩ = some (.int .i64 (z.getD j 0)) := by rw [he]; exact hc
  have h1 : (0 : Int) ≤ min (max nth 1) (n : Int) - 1 := by omega
  have h2 : min (max nth 1) (n : Int) - 1 < n := by omega
  clear hz hzn hc he hj
  generalize z.getD j 0 = x at *
  go_enter Tryd.func21, Tryd.ntmps21
  go_wp2
  go_ret
  exact ⟨rfl, (Below.refl _ _).alloc (Nat.le_refl _) _⟩

set_option maxHeartbeats 1000000 in
set_option maxRecDepth 100000 in
theorem waitR_some (nm fl : ByteArray) (fr st ak wt : Int) (b off cap n j : Nat) (z : List Int) (mo pe : Int) (pu : Bool) (nth : Int) (w : World)
    (hz : IntsAt w b off z) (hzn : z.length = n) (hl : n ≤ 1048576) (hn : 0 < n) (hj : min (max nth 1) n = j + 1) :
    Calls Tryd.prog 26 #[takerArg nm fl fr st ak wt (.slice (some ⟨b, off, none⟩) n cap) mo pe pu, .int .i64 nth] w (WaitIs w (z.getD j 0)) := by
  have hjn : j < n := by omega
  have hc := hz j (by omega)
  have hlt := World.block_lt_of_cell? w _ hc
  replace hlt : b < w.heap.size := hlt
  have hz0 : ((n : Int) == 0) = false := by simp; omega
  have HJ := Lib.hid hj
  clear hz hzn hj
  generalize z.getD j 0 = x at *
  go_enter Tryd.func26, Tryd.ntmps26
  go_wp2_with fail
  go_loop [5, 6] (fun s5 s6 => ∃ i : Nat, i < n ∧ s5 = .int .i64 i ∧ s6 = .int .i64 ((i + 2 : Nat) : Int) ∧ (i = 0 ∨ (i : Int) + 1 ≤ nth)) (fun s5 _ => n - (intOf s5).toNat)
  case atStart => exact ⟨0, hn, rfl, rfl, .inl rfl⟩
  case round =>
    obtain ⟨i, hi, rfl, rfl, hor⟩ := hrel
    have HOR := Lib.hid hor
    clear hor
    by_cases h1 : (i : Int) + 2 ≤ nth
    · by_cases h2 : (i : Int) < (n : Int) - 1
      · go_wp2_with fail
        exact ⟨⟨i + 1, by omega, by go_num, by go_num, .inr (by omega)⟩, by simp [intOf]; omega⟩
      · obtain rfl : i = j := by have := HJ.out; omega
        go_wp2
        go_ret
        exact ⟨rfl, (Below.refl _ _).alloc (Nat.le_refl _) _⟩
    · obtain rfl : i = j := by have := HJ.out; have := HOR.out; omega
      go_wp2
      go_ret
      exact ⟨rfl, (Below.refl _ _).alloc (Nat.le_refl _) _⟩
end Go.Proofs.YtapmhpnkpjgefaaDoor.Subj
