/- A holder of a row of pulls: what it keeps, and what a call on it may turn. -/
import Derived.Test.YtglgbidcmkncgaaPullDel
namespace Go.Proofs.Ytglgbidcmkncgaa.Pull
open Go.RowKit Heap

/-- The block q holds the slice v, which holds l; the array of v is not q. -/
structure Rep (T : TypeId) (w : World) (q : Nat) (v : Value) (l : List Pl) : Prop where
  blk : w.heap[q]? = some (.cells #[v] T (0, 0))
  row : Row w 28 3 v l.length (plsV l)
  far : ¬ own v q

def foot (q : Nat) (v : Value) (k : Nat) : Prop := k = q ∨ own v k

theorem Rep.lt {T : TypeId} {w : World} {q : Nat} {v : Value} {l : List Pl} (h : Rep T w q v l) : ∀ k, foot q v k → k < w.heap.size := by
  rintro k (rfl | hk)
  · exact heap_lt h.blk
  · exact h.row.lt k hk

theorem Rep.kept {T : TypeId} {w w' : World} {q : Nat} {v : Value} {l : List Pl} (h : Rep T w q v l) (hs : Same (foot q v) w w') : Rep T w' q v l :=
  ⟨(hs q (.inl rfl) (heap_lt h.blk)).trans h.blk, h.row.kept fun k hk hl => hs k (.inr hk) hl, h.far⟩

theorem Rep.touch {T : TypeId} {w w' : World} {q : Nat} {v : Value} {l : List Pl} {F : Nat → Prop} (h : Rep T w q v l) (ht : Heap.Touch F w w') (hF : ∀ k, foot q v k → ¬ F k) : Rep T w' q v l :=
  h.kept fun k hk hl => ht.block k hl (hF k hk)

theorem Rep.cell {T : TypeId} {w : World} {q : Nat} {v : Value} {l : List Pl} (h : Rep T w q v l) : w.cell? ⟨q, 0, none⟩ = some v ∧ w.frozen? ⟨q, 0, none⟩ = false := by
  have hb := h.blk
  refine ⟨?_, by simp [World.frozen?, hb]⟩
  rw [cell_of_row w q 0 #[v] T (0, 0) hb]
  rfl

theorem Rep.cellAt {T : TypeId} {w w' : World} {q : Nat} {v : Value} {l : List Pl} (h : Rep T w q v l) (ht : Heap.Touch (own v) w w') : w'.cell? ⟨q, 0, none⟩ = some v ∧ w'.frozen? ⟨q, 0, none⟩ = false :=
  ⟨(World.cell?_of_block (ht.block q (heap_lt h.blk) h.far)).trans h.cell.1, (World.frozen?_of_block (ht.block q (heap_lt h.blk) h.far)).trans h.cell.2⟩

/-- The slice is put. -/
theorem Rep.put {T : TypeId} {w w' : World} {q : Nat} {v v' : Value} {l l' : List Pl} (h : Rep T w q v l) (ht : Heap.Touch (own v) w w') (hr : Row w' 28 3 v' l'.length (plsV l')) (ho : ∀ k, own v' k → own v k ∨ w.heap.size ≤ k) :
    Rep T (w'.setCell ⟨q, 0, none⟩ v') q v' l' := by
  have hq : q < w.heap.size := heap_lt h.blk
  have hb : w'.heap[q]? = some (.cells #[v] T (0, 0)) := (ht.block q hq h.far).trans h.blk
  have hf : ¬ own v' q := fun hx => by
    rcases ho q hx with hx | hx
    · exact h.far hx
    · omega
  refine ⟨?_, hr.kept fun k hk hl => Below.heap_setCell _ _ _ _ (fun e => by subst e; exact hf hk), hf⟩
  rw [setCell_eq_setRow w' q 0 #[v] T (0, 0) v' hb]
  rw [setRow_heap w' q #[v] _ T (0, 0) hb]
  rfl

/-- What a call that holds the queue leaves. -/
def Does (T : TypeId) (q : Nat) (v : Value) (l' : List Pl) (r : Ending) (w : World) (e : Ending) (w' : World) : Prop :=
  e = r ∧ ∃ v', Rep T w' q v' l' ∧ Heap.Touch (foot q v) w w' ∧ ∀ k, own v' k → own v k ∨ w.heap.size ≤ k

theorem Does.same {T : TypeId} {q : Nat} {v : Value} {l : List Pl} {r : Ending} {w w' : World} (h : Rep T w q v l) (hb : Below w.heap.size w w') : Does T q v l r w r w' :=
  ⟨rfl, v, h.kept (fun k _ hl => hb.block k hl), Heap.Touch.ofBelow hb, fun k hk => .inl hk⟩

/-- One call behind another. -/
theorem Does.then {T : TypeId} {q : Nat} {v v1 : Value} {l' : List Pl} {r e : Ending} {w w1 w' : World} (t1 : Heap.Touch (foot q v) w w1) (o1 : ∀ k, own v1 k → own v k ∨ w.heap.size ≤ k) (h : Does T q v1 l' r w1 e w') : Does T q v l' r w e w' := by
  obtain ⟨he, v', hr, ht, ho⟩ := h
  refine ⟨he, v', hr, t1.trans ht (fun i hi hf => ?_), fun k hk => ?_⟩
  · rcases hf with hf | hf
    · exact .inl hf
    · rcases o1 i hf with hx | hx
      · exact .inr hx
      · omega
  · rcases ho k hk with hx | hx
    · exact o1 k hx
    · have := t1.size
      exact .inr (by omega)

theorem Does.puts {T : TypeId} {w w' : World} {q : Nat} {v v' : Value} {l l' : List Pl} {r : Ending} (h : Rep T w q v l) (ht : Heap.Touch (own v) w w') (hr : Row w' 28 3 v' l'.length (plsV l')) (ho : ∀ k, own v' k → own v k ∨ w.heap.size ≤ k) :
    Does T q v l' r w r (w'.setCell ⟨q, 0, none⟩ v') :=
  ⟨rfl, v', h.put ht hr ho, (ht.mono fun k _ hk => .inr hk).setCell (.inl (.inl rfl)) _, ho⟩

/-- A cell of the row is written. -/
theorem Does.sets {T : TypeId} {w : World} {q : Nat} {v u : Value} {b o : Nat} {l l' : List Pl} {r : Ending} (h : Rep T w q v l) (hb : own v b) (hr : Row (w.setCell ⟨b, o, none⟩ u) 28 3 v l'.length (plsV l')) :
    Does T q v l' r w r (w.setCell ⟨b, o, none⟩ u) :=
  ⟨rfl, v, ⟨(Below.heap_setCell _ _ _ _ (fun e => by subst e; exact h.far hb)).trans h.blk, hr, h.far⟩, (Heap.Touch.refl _ _).setCell (.inl (.inr hb)) _, fun k hk => .inl hk⟩

end Go.Proofs.Ytglgbidcmkncgaa.Pull
