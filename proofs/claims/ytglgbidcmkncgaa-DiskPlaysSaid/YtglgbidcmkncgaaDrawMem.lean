/- The reference's disk in memory: a room and a slice of papers. -/
import Derived.Test.YtglgbidcmkncgaaDrawRun
import Derived.Test.YtglgbidcmkncgaaDiskCut
import Derived.Deep.CutRange
import Derived.Deep.QuietTactic
import Derived.BigQuiet
namespace Go.Proofs.Ytglgbidcmkncgaa.Drw
open Go.RowKit Heap Dsk

/-- The drawer at block E, its papers in the blocks of G. -/
structure DrawAt (W : World) (G : Nat → Prop) (E : Nat) (room : Int) (A : List FileP) (w : World) : Prop where
  right : RightD room A
  below : Below W.heap.size W w
  newG : ∀ k, G k → W.heap.size ≤ k
  gE : G E
  mem : ∃ v, w.heap[E]? = some (.cells #[.int .i64 room, v] 59 (0, 0)) ∧ Row w 81 3 v A.length (plsV A) ∧ ∀ k, own v k → G k

theorem plsV_nil : plsV [] = [] := rfl

/-- The drawer's cells, and one paper's. -/
theorem drawCells {E : Nat} {w : World} {t : TypeId} {a0 a1 : Value} (h : w.heap[E]? = some (.cells #[a0, a1] t (0, 0))) : w.cell? ⟨E, 0, none⟩ = some a0 ∧ w.cell? ⟨E, 1, none⟩ = some a1 ∧ ∀ j, w.frozen? ⟨E, j, none⟩ = false := twoC h

theorem ne_row {E n : Nat} {w : World} {v a0 a1 : Value} {xs : List Value} (h : w.heap[E]? = some (.cells #[a0, a1] 59 (0, 0))) (hr : Row w 81 3 v n xs) : ¬ own v E := fun ho => by
  rcases hr.2 with ⟨rfl, _⟩ | ⟨g, off, cap, cur, rfl, hg, _⟩
  · simp [own, Value.ownBlock] at ho
  · simp [own, Value.ownBlock] at ho
    subst ho
    rw [h] at hg
    simp at hg

namespace DrawAt
variable {W w w' : World} {G : Nat → Prop} {E : Nat} {room : Int} {A : List FileP}

theorem kept (h : DrawAt W G E room A w) (hb : Below W.heap.size W w') (hs : Same G w w') : DrawAt W G E room A w' := by
  obtain ⟨v, h1, h2, h3⟩ := h.mem
  exact ⟨h.right, hb, h.newG, h.gE, v, (hs E h.gE (heap_lt h1)).trans h1, h2.kept (fun k hk hlt => hs k (h3 k hk) hlt), h3⟩

theorem next (h : DrawAt W G E room A w) (hb : Below w.heap.size w w') : DrawAt W G E room A w' :=
  h.kept (h.below.trans (hb.mono h.below.size)) fun k _ hk => hb.block k hk

theorem mono {H : Nat → Prop} (h : DrawAt W G E room A w) (hH : ∀ k, G k → H k) (hn : ∀ k, H k → W.heap.size ≤ k) : DrawAt W H E room A w := by
  obtain ⟨v, h1, h2, h3⟩ := h.mem
  exact ⟨h.right, h.below, hn, hH _ h.gE, v, h1, h2, fun k hk => hH k (h3 k hk)⟩
end DrawAt

/-! ### at -/
/-- Where a file stands, or -1. -/
def idxF : List FileP → Int → Int
  | [], _ => -1
  | p :: r, n => if p.n = n then 0 else if idxF r n = -1 then -1 else idxF r n + 1

theorem idxF_cases : ∀ (A : List FileP) (n : Int), (idxF A n = -1 ∧ getF A n = none) ∨ ∃ (k : Nat) (p : FileP), idxF A n = (k : Int) ∧ A[k]? = some p ∧ p.n = n ∧ getF A n = some p ∧ ∀ y ∈ A.take k, y.n ≠ n
  | [], n => .inl ⟨rfl, rfl⟩
  | a :: r, n => by
    unfold idxF getF
    by_cases e : a.n = n
    · rw [if_pos e, if_pos e]
      exact .inr ⟨0, a, rfl, rfl, e, rfl, fun y h => by simp at h⟩
    · rw [if_neg e, if_neg e]
      rcases idxF_cases r n with ⟨h1, h2⟩ | ⟨k, p, h1, h2, h3, h4, h5⟩
      · rw [if_pos h1]; exact .inl ⟨rfl, h2⟩
      · rw [if_neg (by omega), h1]
        refine .inr ⟨k + 1, p, by omega, by simpa using h2, h3, h4, fun y hy => ?_⟩
        rw [List.take_succ_cons] at hy
        rcases List.mem_cons.1 hy with rfl | hy
        · exact e
        · exact h5 y hy

theorem tells_n (n : Int) (X : Nat) : Tells 48 #[.pointer (some ⟨X, 0, none⟩)] (fun p => p.n == n) (fun w => w.cell? ⟨X, 0, none⟩ = some (.int .i64 n)) := by
  intro W x hC
  show Calls Try.prog _ #[.agg #[.int .i64 x.n, .int .i64 (x.sure : Nat), .string ⟨x.text.toArray⟩], .pointer (some ⟨X, 0, none⟩)] W _
  have hX := World.block_lt_of_cell? W _ hC
  go_enter Try.func48, Try.ntmps48
  go_wp2
  go_ret
  exact ⟨rfl, (Below.refl _ _).alloc (Nat.le_refl _) _⟩

set_option maxHeartbeats 1000000 in
set_option maxRecDepth 100000 in
theorem at_any {W w : World} {G : Nat → Prop} {E : Nat} {room : Int} {A : List FileP} (h : DrawAt W G E room A w) (n : Int) :
    Calls Try.prog 39 #[.pointer (some ⟨E, 0, none⟩), .int .i64 n] w fun e w' => e = .returned (.int .i64 (idxF A n)) ∧ Below w.heap.size w w' := by
  obtain ⟨v, h1, h2, h3⟩ := h.mem
  obtain ⟨w1, hw1⟩ : ∃ w1, w1 = w.alloc (.cells #[.int .i64 n] 3) := ⟨_, rfl⟩
  have hb1 : Below w.heap.size w w1 := by rw [hw1]; exact (Below.refl _ _).alloc (Nat.le_refl _) _
  have hc : w1.cell? ⟨w.heap.size, 0, none⟩ = some (.int .i64 n) := by rw [hw1, World.cell?_alloc_at _ _ _ _ rfl]; rfl
  have hE1 := (hb1.block E (heap_lt h1)).trans h1
  obtain ⟨c0, c1, cf⟩ := twoC hE1
  have hr1 := h2.kept (w' := w1) fun k _ hk => hb1.block k hk
  have hlen := h.right.few
  have hidx := index_any 48 #[.pointer (some ⟨w.heap.size, 0, none⟩)] (fun p => p.n == n) (fun w => w.cell? ⟨_, 0, none⟩ = some (.int .i64 n)) (fun _ _ => rfl) v A w1 hr1 (by omega) hc
    (fun Wa Wb hCa ht => (ht.cell (World.block_lt_of_cell? Wa _ hCa) (fun ho => by have h4 : w.heap.size < w.heap.size := h2.lt _ ho; omega)).trans hCa) (tells_n n _) (idxF A n) (by
      rcases idxF_cases A n with ⟨e1, e2⟩ | ⟨k, p, e1, e2, e3, e4, e5⟩
      · exact .inl ⟨e1, fun x hx => by have := getF_none e2 x hx; simpa using this⟩
      · exact .inr ⟨k, p, e1, e2, by simpa using e3, fun y hy => by have := e5 y hy; simpa using this⟩)
  have HI := Lib.hid hidx; have HB := Lib.hid hb1
  clear h h1 h2 h3 hc hE1 hr1 hlen hidx hb1
  go_enter Try.func39, Try.ntmps39
  go_upto_region 1 with fail
  rw [← hw1]
  clear hw1
  go_wp2_with fail
  refine HI.out.mono ?_
  rintro e w' ⟨rfl, hb⟩
  have HF := Lib.hid (HB.out.trans (hb.mono HB.out.size))
  clear hb
  go_wp2
  go_ret
  exact ⟨rfl, HF.out⟩
end Go.Proofs.Ytglgbidcmkncgaa.Drw
