/- The memory of who reads a consumer's text. -/
import Derived.Test.YtglgbidcmkncgaaDoorTakeSeq
import Derived.Test.YtglgbidcmkncgaaDoorTakeCheck2
namespace Go.Proofs.YtglgbidcmkncgaaDoor.Subj
open Go.RowKit

def zeroT : Array Value := #[.string ⟨#[]⟩, .string ⟨#[]⟩, .int .i64 0, .int .i64 0, .int .i64 0, .int .i64 0, .slice none 0 0, .int .i64 0, .int .i64 0, .bool false]

def intsV (zs : List Int) : List Value := zs.map (Value.int .i64)

/-- The answer's block B, the words from off in block g, the plan in block T; R: the last block ahead of the rows that the plan holds. -/
structure TC (W : World) (B T R g off : Nat) (r : List Tok) (arr : Array Value) (vb : Value) (back : List Int) (w : World) : Prop where
  ml : ML W
  below : Below W.heap.size W w
  zero : w.heap[B]? = some (.cells zeroT 37 (0, 0))
  cells : w.heap[T]? = some (.cells arr 37 (0, 0))
  rest : StrsAt w g off r
  gsize : g < w.heap.size
  row : Heap.Row w 3 1 vb back.length (intsV back)
  newB : W.heap.size ≤ B
  newG : W.heap.size ≤ g
  gB : g ≠ B
  BT : B < T
  gT : g < T
  TR : T ≤ R
  nb : ∀ k, Heap.own vb k → R < k

namespace TC
variable {W : World} {B T R g off : Nat} {r : List Tok} {arr : Array Value} {vb : Value} {back : List Int} {w : World}

theorem inv (h : TC W B T R g off r arr vb back w) : Inv W w := ⟨h.ml.below h.below, h.below⟩

theorem ofTouch {w' : World} {F : Nat → Prop} (h : TC W B T R g off r arr vb back w) (ht : Heap.Touch F w w') (hF : ∀ k, F k → W.heap.size ≤ k ∧ k ≠ B ∧ k ≠ T ∧ k ≠ g ∧ ¬ Heap.own vb k) : TC W B T R g off r arr vb back w' where
  ml := h.ml
  below := h.below.trans (ht.below h.below.size fun k hk => (hF k hk).1)
  zero := (ht.block _ (Heap.heap_lt h.zero) fun hk => (hF _ hk).2.1 rfl).trans h.zero
  cells := (ht.block _ (Heap.heap_lt h.cells) fun hk => (hF _ hk).2.2.1 rfl).trans h.cells
  rest := fun i hi => (ht.cell (World.block_lt_of_cell? w _ (h.rest i hi)) fun hk => (hF _ hk).2.2.2.1 rfl).trans (h.rest i hi)
  gsize := Nat.lt_of_lt_of_le h.gsize ht.size
  row := h.row.kept (ht.same fun k hk hf => (hF k hf).2.2.2.2 hk)
  newB := h.newB
  newG := h.newG
  gB := h.gB
  BT := h.BT
  gT := h.gT
  TR := h.TR
  nb := h.nb

theorem next {w' : World} (h : TC W B T R g off r arr vb back w) (hb : Below w.heap.size w w') : TC W B T R g off r arr vb back w' :=
  h.ofTouch (F := fun _ => False) (Heap.Touch.ofBelow hb) (fun _ hk => hk.elim)

/-- A cell of the plan is written. -/
theorem setT (h : TC W B T R g off r arr vb back w) (j : Nat) (u : Value) : TC W B T R g off r (arr.setIfInBounds j u) vb back (w.setCell ⟨T, j, none⟩ u) := by
  have ht : Heap.Touch (· = T) w (w.setCell ⟨T, j, none⟩ u) := (Heap.Touch.refl (· = T) w).setCell (.inl rfl) _
  have hWT : W.heap.size ≤ T := Nat.le_trans h.newB (Nat.le_of_lt h.BT)
  exact {
    ml := h.ml
    below := h.below.trans (ht.below h.below.size fun k hk => by subst hk; exact hWT)
    zero := (ht.block _ (Heap.heap_lt h.zero) (Nat.ne_of_lt h.BT)).trans h.zero
    cells := setCell_block h.cells j u
    rest := fun i hi => (ht.cell (World.block_lt_of_cell? w _ (h.rest i hi)) (Nat.ne_of_lt h.gT)).trans (h.rest i hi)
    gsize := Nat.lt_of_lt_of_le h.gsize ht.size
    row := h.row.kept (ht.same fun k hk hf => by have := h.nb k hk; have := h.TR; omega)
    newB := h.newB
    newG := h.newG
    gB := h.gB
    BT := h.BT
    gT := h.gT
    TR := h.TR
    nb := h.nb }

/-- A longer row is made; it lies in no block of the others. -/
theorem reback {w' : World} {vb' : Value} {z : Int} (h : TC W B T R g off r arr vb back w) (hrow : Heap.Row w' 3 1 vb' (back.length + 1) (intsV back ++ [.int .i64 z])) (ht : Heap.Touch (Heap.own vb) w w') (hR : R < w.heap.size) (ho : ∀ k, Heap.own vb' k → Heap.own vb k ∨ w.heap.size ≤ k) : TC W B T R g off r arr vb' (back ++ [z]) w' := by
  have hTR := h.TR
  have hBT := h.BT
  have hgT := h.gT
  have hne : ∀ k, Heap.own vb k → R < k := h.nb
  exact {
    ml := h.ml
    below := h.below.trans (ht.below h.below.size fun k hk => by have := hne k hk; have := h.newB; omega)
    zero := (ht.block _ (Heap.heap_lt h.zero) fun hk => by have := hne _ hk; omega).trans h.zero
    cells := (ht.block _ (Heap.heap_lt h.cells) fun hk => by have := hne _ hk; omega).trans h.cells
    rest := fun i hi => (ht.cell (World.block_lt_of_cell? w _ (h.rest i hi)) fun hk => by have := hne _ hk; simp only at this; omega).trans (h.rest i hi)
    gsize := Nat.lt_of_lt_of_le h.gsize ht.size
    row := by
      have e1 : (back ++ [z]).length = back.length + 1 := by simp
      have e2 : intsV (back ++ [z]) = intsV back ++ [.int .i64 z] := by simp [intsV]
      rw [e1, e2]; exact hrow
    newB := h.newB
    newG := h.newG
    gB := h.gB
    BT := h.BT
    gT := h.gT
    TR := h.TR
    nb := fun k hk => by rcases ho k hk with hk | hk; exact hne k hk; omega }

theorem tail {x : Tok} (h : TC W B T R g off (x :: r) arr vb back w) : TC W B T R g (off + 1) r arr vb back w :=
  { ml := h.ml, below := h.below, zero := h.zero, cells := h.cells, rest := h.rest.tail, gsize := h.gsize, row := h.row, newB := h.newB, newG := h.newG, gB := h.gB, BT := h.BT, gT := h.gT, TR := h.TR, nb := h.nb }

theorem moved {off' : Nat} (h : TC W B T R g off r arr vb back w) (ho : 0 < r.length → off' = off) : TC W B T R g off' r arr vb back w :=
  { ml := h.ml, below := h.below, zero := h.zero, cells := h.cells, rest := fun i hi => by rw [ho (by omega)]; exact h.rest i hi, gsize := h.gsize, row := h.row, newB := h.newB, newG := h.newG, gB := h.gB, BT := h.BT, gT := h.gT, TR := h.TR, nb := h.nb }

end TC

/-- The plan and its reader. -/
def TW (W : World) (B T R g : Nat) (r : List Tok) (ok : Bool) (arr : Array Value) (vb : Value) (back : List Int) (w : World) : Prop :=
  ∃ off, TC W B T R g off r arr vb back w ∧ T < R ∧ w.heap[R]? = some (.cells #[.slice (some ⟨g, off, none⟩) r.length r.length, .bool ok] 104 (0, 0))

theorem TW.rd {W : World} {B T R g off : Nat} {r : List Tok} {arr : Array Value} {vb : Value} {back : List Int} {w : World} (h : TC W B T R g off r arr vb back w) (hTR : T < R) (j : Nat) (u : Value) : TC W B T R g off r arr vb back (w.setCell ⟨R, j, none⟩ u) := by
  have ht : Heap.Touch (· = R) w (w.setCell ⟨R, j, none⟩ u) := (Heap.Touch.refl (· = R) w).setCell (.inl rfl) _
  refine h.ofTouch ht fun k hk => ?_
  subst hk
  have h1 := h.newB; have h2 := h.BT; have h3 := h.gT
  exact ⟨by omega, by omega, by omega, by omega, fun hk => by have := h.nb _ hk; omega⟩

theorem TW.setT {W : World} {B T R g : Nat} {r : List Tok} {ok : Bool} {arr : Array Value} {vb : Value} {back : List Int} {w : World} (h : TW W B T R g r ok arr vb back w) (j : Nat) (u : Value) : TW W B T R g r ok (arr.setIfInBounds j u) vb back (w.setCell ⟨T, j, none⟩ u) := by
  obtain ⟨off, hc, hTR, hr⟩ := h
  have ht : Heap.Touch (· = T) w (w.setCell ⟨T, j, none⟩ u) := (Heap.Touch.refl (· = T) w).setCell (.inl rfl) _
  exact ⟨off, hc.setT j u, hTR, (ht.block _ (Heap.heap_lt hr) (by omega)).trans hr⟩

theorem TW.setOk {W : World} {B T R g : Nat} {r : List Tok} {ok : Bool} {arr : Array Value} {vb : Value} {back : List Int} {w : World} (h : TW W B T R g r ok arr vb back w) (b : Bool) : TW W B T R g r b arr vb back (w.setCell ⟨R, 1, none⟩ (.bool b)) := by
  obtain ⟨off, hc, hTR, hr⟩ := h
  exact ⟨off, TW.rd hc hTR 1 _, hTR, setCell_block hr 1 _⟩

theorem TW.setR {W : World} {B T R g off' : Nat} {x : Tok} {r : List Tok} {ok : Bool} {arr : Array Value} {vb : Value} {back : List Int} {w : World} (h : ∃ off, TC W B T R g off (x :: r) arr vb back w ∧ T < R ∧ w.heap[R]? = some (.cells #[.slice (some ⟨g, off, none⟩) (r.length + 1) (r.length + 1), .bool ok] 104 (0, 0)) ∧ (0 < r.length → off' = off + 1)) :
    TW W B T R g r ok arr vb back (w.setCell ⟨R, 0, none⟩ (.slice (some ⟨g, off', none⟩) r.length r.length)) := by
  obtain ⟨off, hc, hTR, hr, ho⟩ := h
  exact ⟨off', TW.rd (hc.tail.moved ho) hTR 0 _, hTR, setCell_block hr 0 _⟩

/-- Whether the rest tells what is wanted. -/
def Good (E : Option TakerP) (i : Nat) (r : List Tok) (t : TakerP) (ok : Bool) : Prop := (ok = true → E = seqT i r t) ∧ (ok = false → E = none)

theorem Good.no {E : Option TakerP} {i : Nat} {r : List Tok} {t : TakerP} {ok : Bool} (h : Good E i r t ok) (hi : i < 7) (hn : ∀ x r', r = x :: r' → (heads.getD i []).isPrefixOf x = false) : Good E (i + 1) r t ok := by
  refine ⟨fun e => ?_, h.2⟩
  rw [h.1 e]
  cases r with
  | nil => exact seqT_none hi t
  | cons x r => exact seqT_no hi x r t (hn x r rfl)

theorem Good.some {E : Option TakerP} {i : Nat} {x : Tok} {r : List Tok} {t t' : TakerP} {ok : Bool} (h : Good E i (x :: r) t ok) (hi : i < 7) (hx : (heads.getD i []).isPrefixOf x = true) (ho : optT i (x.drop (heads.getD i []).length) t = some t') : Good E (i + 1) r t' ok := by
  refine ⟨fun e => ?_, h.2⟩
  rw [h.1 e, seqT_yes hi x r t hx, ho]; rfl

theorem Good.none {E : Option TakerP} {i : Nat} {x : Tok} {r : List Tok} {t : TakerP} {ok : Bool} (h : Good E i (x :: r) t ok) (hi : i < 7) (hx : (heads.getD i []).isPrefixOf x = true) (ho : optT i (x.drop (heads.getD i []).length) t = none) (t' : TakerP) : Good E (i + 1) r t' false := by
  refine ⟨fun e => (by cases e), fun _ => ?_⟩
  cases hk : ok with
  | false => exact h.2 hk
  | true => rw [h.1 hk, seqT_yes hi x r t hx, ho]; rfl

end Go.Proofs.YtglgbidcmkncgaaDoor.Subj
