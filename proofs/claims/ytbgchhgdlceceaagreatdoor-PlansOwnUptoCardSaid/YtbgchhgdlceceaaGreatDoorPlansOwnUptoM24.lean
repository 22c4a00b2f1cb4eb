/- Parts of the proof, joined: The memory of who reads a consumer's text.; taker.Wait and rillref.Wait, walked.; A consumer in memory: the program's, or the reference's; the wait of a plan.; spoil: a list is overwritten, with the room behind it. gen_spoil.py writes this text. -/
import Derived.Test.YtbgchhgdlceceaaGreatDoorPlansOwnUptoM23
namespace Go.Proofs.YtbgchhgdlceceaaGreatDoor.Subj
open Go.RowKit

def zeroT : Array Value := #[.string ⟨#[]⟩, .string ⟨#[]⟩, .int .i64 0, .int .i64 0, .int .i64 0, .int .i64 0, .slice none 0 0, .int .i64 0, .int .i64 0, .bool false]

def intsV (zs : List Int) : List Value := zs.map (Value.int .i64)

/-- The answer's block B, the words from off in block g, the plan in block T; R: the last block ahead of the rows that the plan holds. -/
structure TC (W : World) (B T R g off : Nat) (r : List Tok) (arr : Array Value) (vb : Value) (back : List Int) (w : World) : Prop where
  ml : ML W
  below : Below W.heap.size W w
  zero : w.heap[B]? = some (.cells zeroT 24 (0, 0))
  cells : w.heap[T]? = some (.cells arr 24 (0, 0))
  rest : StrsAt w g off r
  gsize : g < w.heap.size
  row : Heap.Row w 3 1 vb back.length (intsV back)
  newB : W.heap.size ≤ B
  newG : W.heap.size ≤ g
  gB : g ≠ B
  BT : B < T
  gT : g < T
  TR : T ≤ R
  nb : ∀ k, Heap.own vb k → R < k

namespace TC
variable {W : World} {B T R g off : Nat} {r : List Tok} {arr : Array Value} {vb : Value} {back : List Int} {w : World}

theorem ofTouch {w' : World} {F : Nat → Prop} (h : TC W B T R g off r arr vb back w) (ht : Heap.Touch F w w') (hF : ∀ k, F k → W.heap.size ≤ k ∧ k ≠ B ∧ k ≠ T ∧ k ≠ g ∧ ¬ Heap.own vb k) : TC W B T R g off r arr vb back w' where
  ml := h.ml
  below := h.below.trans (ht.below h.below.size fun k hk => (hF k hk).1)
  zero := (ht.block _ (Heap.heap_lt h.zero) fun hk => (hF _ hk).2.1 rfl).trans h.zero
  cells := (ht.block _ (Heap.heap_lt h.cells) fun hk => (hF _ hk).2.2.1 rfl).trans h.cells
  rest := fun i hi => (ht.cell (World.block_lt_of_cell? w _ (h.rest i hi)) fun hk => (hF _ hk).2.2.2.1 rfl).trans (h.rest i hi)
  gsize := Nat.lt_of_lt_of_le h.gsize ht.size
  row := h.row.kept (ht.same fun k hk hf => (hF k hf).2.2.2.2 hk)
  newB := h.newB
  newG := h.newG
  gB := h.gB
  BT := h.BT
  gT := h.gT
  TR := h.TR
  nb := h.nb

theorem next {w' : World} (h : TC W B T R g off r arr vb back w) (hb : Below w.heap.size w w') : TC W B T R g off r arr vb back w' :=
  h.ofTouch (F := fun _ => False) (Heap.Touch.ofBelow hb) (fun _ hk => hk.elim)

theorem tail {x : Tok} (h : TC W B T R g off (x :: r) arr vb back w) : TC W B T R g (off + 1) r arr vb back w :=
  { ml := h.ml, below := h.below, zero := h.zero, cells := h.cells, rest := h.rest.tail, gsize := h.gsize, row := h.row, newB := h.newB, newG := h.newG, gB := h.gB, BT := h.BT, gT := h.gT, TR := h.TR, nb := h.nb }

end TC
/-- Whether the rest tells what is wanted. -/
def Good (E : Option TakerP) (i : Nat) (r : List Tok) (t : TakerP) (ok : Bool) : Prop := (ok = true → E = seqT i r t) ∧ (ok = false → E = none)

theorem Good.no {E : Option TakerP} {i : Nat} {r : List Tok} {t : TakerP} {ok : Bool} (h : Good E i r t ok) (hi : i < 7) (hn : ∀ x r', r = x :: r' → (heads.getD i []).isPrefixOf x = false) : Good E (i + 1) r t ok := by
  refine ⟨fun e => ?_, h.2⟩
  rw [h.1 e]
  cases r with
  | nil => exact seqT_none hi t
  | cons x r => exact seqT_no hi x r t (hn x r rfl)

theorem Good.some {E : Option TakerP} {i : Nat} {x : Tok} {r : List Tok} {t t' : TakerP} {ok : Bool} (h : Good E i (x :: r) t ok) (hi : i < 7) (hx : (heads.getD i []).isPrefixOf x = true) (ho : optT i (x.drop (heads.getD i []).length) t = some t') : Good E (i + 1) r t' ok := by
  refine ⟨fun e => ?_, h.2⟩
  rw [h.1 e, seqT_yes hi x r t hx, ho]; rfl

theorem Good.none {E : Option TakerP} {i : Nat} {x : Tok} {r : List Tok} {t : TakerP} {ok : Bool} (h : Good E i (x :: r) t ok) (hi : i < 7) (hx : (heads.getD i []).isPrefixOf x = true) (ho : optT i (x.drop (heads.getD i []).length) t = none) (t' : TakerP) : Good E (i + 1) r t' false := by
  refine ⟨fun e => (by cases e), fun _ => ?_⟩
  cases hk : ok with
  | false => exact h.2 hk
  | true => rw [h.1 hk, seqT_yes hi x r t hx, ho]; rfl

end Go.Proofs.YtbgchhgdlceceaaGreatDoor.Subj

namespace Go.Proofs.YtbgchhgdlceceaaGreatDoor.Subj
open Go.RowKit

end Go.Proofs.YtbgchhgdlceceaaGreatDoor.Subj

namespace Go.Proofs.YtbgchhgdlceceaaGreatDoor.Con
open Go.RowKit Heap
open Subj (Tok TakerP Ints)

def pdC (p : Pd) : List Value := [.int .i64 p.seq, .int .i64 p.nth, .int .i64 p.due]
def pdsV (l : List Pd) : List Value := l.flatMap pdC

section
variable {e : TypeId} {w : World} {g off n cap : Nat} {l : List Pd}

end

/-- A plan's cells. -/
def takerV (t : TakerP) (vb : Value) : Value := .agg #[.string ⟨t.name.toArray⟩, .string ⟨t.filt.toArray⟩, .int .i64 t.src, .int .i64 t.start, .int .i64 t.ack, .int .i64 t.wait, vb, .int .i64 t.most, .int .i64 t.pend, .bool t.push]
def conC (t : TakerP) (vb v : Value) (c : Cn) : Array Value :=
  #[.string ⟨t.name.toArray⟩, .string ⟨t.filt.toArray⟩, .int .i64 t.src, .int .i64 t.start, .int .i64 t.ack, .int .i64 t.wait, vb, .int .i64 t.most, .int .i64 t.pend, .bool t.push, .int .i64 c.place, .int .i64 c.count, v]

/-- A consumer at K: of type tc, its deliveries of type tp. -/
structure CAt (tc tp : TypeId) (W : World) (K : Nat) (t : TakerP) (vb v : Value) (c : Cn) (w : World) : Prop where
  cell : w.heap[K]? = some (.cells (conC t vb v c) tc (0, 0))
  row : Row w tp 3 v c.l.length (pdsV c.l)
  back : Ints w vb t.back
  old : W.heap.size ≤ K
  mine : ∀ k, own v k → W.heap.size ≤ k ∧ k ≠ K
  fb : ∀ k, own vb k → k < w.heap.size ∧ k ≠ K ∧ ¬ own v k
  below : Below W.heap.size W w

/-- A consumer that has come of another one. -/
def NextC (tc tp : TypeId) (W : World) (K : Nat) (t : TakerP) (vb v : Value) (w : World) (c' : Cn) (w' : World) : Prop :=
  ∃ v', CAt tc tp W K t vb v' c' w' ∧ Heap.Touch (fun k => k = K ∨ own v k) w w' ∧ ∀ k, own v' k → own v k ∨ w.heap.size ≤ k

theorem Ints.touch {F : Nat → Prop} {w w' : World} {v : Value} {zs : List Int} (h : Ints w v zs) (ht : Heap.Touch F w w') (hn : ∀ k, own v k → ¬ F k) : Ints w' v zs := by
  obtain ⟨ao, cap, rfl, hc, hat⟩ := h
  refine ⟨ao, cap, rfl, hc, fun hne => ?_⟩
  obtain ⟨g, off, rfl, h2⟩ := hat hne
  refine ⟨g, off, rfl, fun k hk => ?_⟩
  have h3 := h2 k hk
  exact (World.cell?_of_block (a := ⟨g, off + k, none⟩) (ht.block g (World.block_lt_of_cell? w _ h3) (hn g (by simp [own, Value.ownBlock])))).trans h3

section
variable {tc tp : TypeId} {W w w1 : World} {K : Nat} {t : TakerP} {vb v v2 : Value} {c c2 : Cn}

theorem CAt.touch {F : Nat → Prop} (h : CAt tc tp W K t vb v c w) (ht : Heap.Touch F w w1) (hF : ∀ k, F k → W.heap.size ≤ k) (fK : ¬ F K) (fv : ∀ k, own v k → ¬ F k) (fb : ∀ k, own vb k → ¬ F k) : CAt tc tp W K t vb v c w1 :=
  ⟨(ht.block K (heap_lt h.cell) fK).trans h.cell, h.row.kept fun k hk hlt => ht.block k hlt (fv k hk), Ints.touch h.back ht fb, h.old, h.mine, fun k hk => ⟨Nat.lt_of_lt_of_le (h.fb k hk).1 ht.size, (h.fb k hk).2⟩, h.below.trans (ht.below h.below.size hF)⟩

theorem CAt.next (h : CAt tc tp W K t vb v c w) (hb : Below w.heap.size w w1) : CAt tc tp W K t vb v c w1 :=
  ⟨(hb.block K (heap_lt h.cell)).trans h.cell, h.row.kept fun k _ hk => hb.block k hk, h.back.below hb, h.old, h.mine, fun k hk => ⟨Nat.lt_of_lt_of_le (h.fb k hk).1 hb.size, (h.fb k hk).2⟩, h.below.trans (hb.mono h.below.size)⟩

theorem NextC.same (h : CAt tc tp W K t vb v c w) (hb : Below w.heap.size w w1) : NextC tc tp W K t vb v w c w1 := ⟨v, h.next hb, Heap.Touch.ofBelow hb, fun _ hk => .inl hk⟩

theorem touch_K (w : World) (K j : Nat) (u : Value) : Heap.Touch (fun k => k = K) w (w.setCell ⟨K, j, none⟩ u) := Heap.Touch.setCell (F := fun k => k = K) (p := ⟨K, j, none⟩) (Heap.Touch.refl _ w) (.inl rfl) _

/-- Its cells are written anew, its list lies elsewhere or is another one. -/
theorem CAt.put (h : CAt tc tp W K t vb v c w) (ht : Heap.Touch (fun k => k = K ∨ own v k) w w1) (hc : w1.heap[K]? = some (.cells (conC t vb v2 c2) tc (0, 0))) (hr : Row w1 tp 3 v2 c2.l.length (pdsV c2.l)) (ho : ∀ k, own v2 k → (own v k ∨ w.heap.size ≤ k)) (hK : ∀ k, own v2 k → k ≠ K) :
    CAt tc tp W K t vb v2 c2 w1 := by
  have hF : ∀ k, (k = K ∨ own v k) → W.heap.size ≤ k := fun k hk => by
    rcases hk with rfl | hk
    · exact h.old
    · exact (h.mine k hk).1
  refine ⟨hc, hr, Ints.touch h.back ht fun k hk hn => ?_, h.old, fun k hk => ⟨?_, hK k hk⟩, fun k hk => ⟨Nat.lt_of_lt_of_le (h.fb k hk).1 ht.size, (h.fb k hk).2.1, fun hn => ?_⟩, h.below.trans (ht.below h.below.size hF)⟩
  · rcases hn with rfl | hn
    · exact (h.fb k hk).2.1 rfl
    · exact (h.fb k hk).2.2 hn
  · rcases ho k hk with e | e
    · exact (h.mine k e).1
    · exact Nat.le_trans h.below.size e
  · rcases ho k hn with e | e
    · exact (h.fb k hk).2.2 e
    · have := (h.fb k hk).1; omega

theorem CAt.ne (h : CAt tc tp W K t vb v c w) : ∀ k, own v k → k ≠ K := fun k hk => (h.mine k hk).2

theorem NextC.after {c1 c2 : Cn} {w2 : World} (h : NextC tc tp W K t vb v w c1 w1) (hn : ∀ v1, CAt tc tp W K t vb v1 c1 w1 → NextC tc tp W K t vb v1 w1 c2 w2) : NextC tc tp W K t vb v w c2 w2 := by
  obtain ⟨v1, h1, t1, o1⟩ := h
  obtain ⟨v2, h2, t2, o2⟩ := hn v1 h1
  refine ⟨v2, h2, t1.trans t2 (fun k hk e => ?_), fun k hk => ?_⟩
  · rcases e with e | e
    · exact .inl e
    · rcases o1 k e with e | e
      · exact .inr e
      · omega
  · rcases o2 k hk with e | e
    · exact o1 k e
    · exact .inr (Nat.le_trans t1.size e)

/-- The cells as they are read. -/
theorem CAt.cells (h : CAt tc tp W K t vb v c w) :
    w.cell? ⟨K, 0, none⟩ = some (.string ⟨t.name.toArray⟩) ∧ w.cell? ⟨K, 1, none⟩ = some (.string ⟨t.filt.toArray⟩) ∧ w.cell? ⟨K, 2, none⟩ = some (.int .i64 t.src) ∧ w.cell? ⟨K, 3, none⟩ = some (.int .i64 t.start) ∧
    w.cell? ⟨K, 4, none⟩ = some (.int .i64 t.ack) ∧ w.cell? ⟨K, 5, none⟩ = some (.int .i64 t.wait) ∧ w.cell? ⟨K, 6, none⟩ = some vb ∧ w.cell? ⟨K, 7, none⟩ = some (.int .i64 t.most) ∧ w.cell? ⟨K, 8, none⟩ = some (.int .i64 t.pend) ∧
    w.cell? ⟨K, 9, none⟩ = some (.bool t.push) ∧ w.cell? ⟨K, 10, none⟩ = some (.int .i64 c.place) ∧ w.cell? ⟨K, 11, none⟩ = some (.int .i64 c.count) ∧ w.cell? ⟨K, 12, none⟩ = some v ∧ ∀ j, w.frozen? ⟨K, j, none⟩ = false := by
  have hc := h.cell
  refine ⟨?_, ?_, ?_, ?_, ?_, ?_, ?_, ?_, ?_, ?_, ?_, ?_, ?_, fun j => frozen_of_row w K j _ _ hc⟩ <;> (rw [cell_of_row w K _ _ _ _ hc]; rfl)
end

section
variable {w : World} {t : TakerP} {vb : Value}

end
end Go.Proofs.YtbgchhgdlceceaaGreatDoor.Con

namespace Go.Proofs.YtbgchhgdlceceaaGreatDoor.Sto
open Go.RowKit Heap
open Subj (Tok ML pieces takes StrsAt)
open Rec (Rc recErr far)
open Idx (Ents ptrV)

/-- A block of so many cells. -/
def BlockOf (w : World) (e : TypeId) (g m : Nat) : Prop := ∃ cur, w.heap[g]? = some (.cells cur e (0, 0)) ∧ m ≤ cur.size

theorem BlockOf.set {w : World} {e : TypeId} {g m : Nat} (h : BlockOf w e g m) (j : Nat) (u : Value) : BlockOf (w.setCell ⟨g, j, none⟩ u) e g m := by
  obtain ⟨cur, h1, h2⟩ := h
  exact ⟨cur.setIfInBounds j u, heap_setCell_same _ _ _ _ _ _ h1, by simpa using h2⟩

theorem BlockOf.there {w : World} {e : TypeId} {g m : Nat} (h : BlockOf w e g m) {j : Nat} (hj : j < m) : ∃ u, w.cell? ⟨g, j, none⟩ = some u := by
  obtain ⟨cur, h1, h2⟩ := h
  exact ⟨cur[j], by rw [cell_of_row w g j _ _ _ h1]; exact Array.getElem?_eq_getElem (by omega)⟩

theorem BlockOf.free {w : World} {e : TypeId} {g m : Nat} (h : BlockOf w e g m) : (∀ j, w.frozen? ⟨g, j, none⟩ = false) ∧ g < w.heap.size := by
  obtain ⟨cur, h1, h2⟩ := h
  exact ⟨fun j => frozen_of_row w g j _ _ h1, heap_lt h1⟩

section
variable {w : World}
end
end Go.Proofs.YtbgchhgdlceceaaGreatDoor.Sto
