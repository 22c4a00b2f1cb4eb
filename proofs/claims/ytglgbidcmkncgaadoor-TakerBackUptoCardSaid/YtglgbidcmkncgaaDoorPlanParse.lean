/- plan.Parse, walked. -/
import Derived.Test.YtglgbidcmkncgaaDoorPlanEnds
import Derived.Test.YtglgbidcmkncgaaDoorPlanMem
import Derived.Deep.RegionHeld3
import Derived.Deep.RegionWith
import Derived.StillTailTactics
import Derived.Deep.DeepCutAuto
import Derived.Deep.QuietTactic
import Derived.BigQuiet
namespace Go.Proofs.YtglgbidcmkncgaaDoor.Subj
open Go.RowKit

/-! ### The world of 'Parse' -/
structure PW (W : World) (R P g : Nat) (name : ByteArray) (v : Value) (fs r : List Tok) (vals : List Int) (w : World) : Prop where
  inv : Inv W w
  zero : w.heap[R]? = some (.cells zeroArr 29 (0, 0))
  plan : w.heap[P]? = some (.cells (planArr name v vals) 29 (0, 0))
  len : vals.length = 8
  rest : ∀ i, i < r.length → w.cell? ⟨g, 2 + i, none⟩ = some (.string (strAt r i))
  strs : Strs w v fs
  newR : W.heap.size ≤ R
  newP : W.heap.size ≤ P
  neR : R ≠ P
  neg : g ≠ P
  nev : ∀ k, Heap.own v k → k ≠ P
  nevR : ∀ k, Heap.own v k → k ≠ R

theorem PW.below {W : World} {R P g : Nat} {name : ByteArray} {v : Value} {fs r : List Tok} {vals : List Int} {w w' : World} (h : PW W R P g name v fs r vals w) (hb : Below w.heap.size w w') : PW W R P g name v fs r vals w' :=
  ⟨h.inv.step hb, (hb.block _ (Heap.heap_lt h.zero)).trans h.zero, (hb.block _ (Heap.heap_lt h.plan)).trans h.plan, h.len,
    fun i hi => (hb.cell (World.block_lt_of_cell? w _ (h.rest i hi))).trans (h.rest i hi), h.strs.below hb, h.newR, h.newP, h.neR, h.neg, h.nev, h.nevR⟩

theorem PW.madeA {W w1 w' : World} {g : Nat} {name : ByteArray} {v : Value} {fs : List Tok} {n f : Tok} {r : List Tok} (hI : Inv W w1) (hz : w1.heap[W.heap.size]? = some (.cells zeroArr 29 (0, 0)))
    (hst : StrsAt w1 g 0 (n :: f :: r)) (hb : Below w1.heap.size w1 w') (hs : Strs w' v fs) (hv : ∀ k, Heap.own v k → W.heap.size < k ∧ k < w'.heap.size) :
    PW W W.heap.size w'.heap.size g name v fs r (List.replicate 8 0) (w'.alloc (.cells (planArr name v (List.replicate 8 0)) 29)) := by
  have hb2 : Below w1.heap.size w1 (w'.alloc (.cells (planArr name v (List.replicate 8 0)) 29)) := hb.alloc hb.size _
  have hR := Heap.heap_lt hz
  have hs1 := hb.size
  have hg : ∀ i, i < r.length → w1.cell? ⟨g, 2 + i, none⟩ = some (.string (strAt r i)) := fun i hi => by
    have := hst (2 + i) (by simp; omega)
    rw [Nat.zero_add] at this
    rw [this]
    unfold strAt
    rw [Nat.add_comm 2 i]; rfl
  have hg0 := World.block_lt_of_cell? w1 _ (hst 0 (by simp))
  refine ⟨hI.step hb2, (hb2.block _ hR).trans hz, heap_alloc_new _ _, rfl, fun i hi => (hb2.cell (World.block_lt_of_cell? w1 _ (hg i hi))).trans (hg i hi), hs.below ((Below.refl _ _).alloc (Nat.le_refl _) _), Nat.le_refl _, ?_, ?_, ?_, ?_, ?_⟩
  · have := hI.2.size; omega
  · omega
  · have : g < w1.heap.size := hg0
    omega
  · intro k hk
    have := hv k hk
    omega
  · intro k hk
    have := hv k hk
    omega

theorem PW.madeB {W w1 w' : World} {g : Nat} {name : ByteArray} {v : Value} {fs : List Tok} {n f : Tok} {r : List Tok} (hI : Inv W w1) (hz : w1.heap[W.heap.size]? = some (.cells zeroArr 29 (0, 0)))
    (hst : StrsAt w1 g 0 (n :: f :: r)) (hb : Below w1.heap.size w1 w') (hP : w'.heap[w1.heap.size]? = some (.cells zeroArr 29 (0, 0))) (hs : Strs w' v fs) (hv : ∀ k, Heap.own v k → w1.heap.size < k) {w2 : World}
    (h2 : Heap.Touch (· = w1.heap.size) w' w2) (hP2 : w2.heap[w1.heap.size]? = some (.cells (planArr name v (List.replicate 8 0)) 29 (0, 0))) :
    PW W W.heap.size w1.heap.size g name v fs r (List.replicate 8 0) w2 := by
  have hb2 : Below w1.heap.size w1 w2 := hb.trans (h2.below hb.size (by intro k hk; omega))
  have hR := Heap.heap_lt hz
  have hs1 := hb.size
  have hg : ∀ i, i < r.length → w1.cell? ⟨g, 2 + i, none⟩ = some (.string (strAt r i)) := fun i hi => by
    have := hst (2 + i) (by simp; omega)
    rw [Nat.zero_add] at this
    rw [this]
    unfold strAt
    rw [Nat.add_comm 2 i]; rfl
  have hg0 := World.block_lt_of_cell? w1 _ (hst 0 (by simp))
  refine ⟨hI.step hb2, (hb2.block _ hR).trans hz, hP2, rfl, fun i hi => (hb2.cell (World.block_lt_of_cell? w1 _ (hg i hi))).trans (hg i hi), ?_, Nat.le_refl _, hI.2.size, ?_, ?_, ?_, ?_⟩
  · obtain ⟨ao, cap, rfl, hc, hat⟩ := hs
    refine ⟨ao, cap, rfl, hc, fun hne => ?_⟩
    obtain ⟨gg, off, rfl, hst⟩ := hat hne
    refine ⟨gg, off, rfl, fun i hi => ?_⟩
    have := hv gg (by simp [Heap.own, Value.ownBlock])
    rw [h2.cell (World.block_lt_of_cell? w' _ (hst i hi)) (by show ¬ gg = _; omega)]
    exact hst i hi
  · omega
  · have : g < w1.heap.size := hg0
    omega
  · intro k hk
    have := hv k hk
    omega
  · intro k hk
    have := hv k hk
    omega

theorem PW.madeB' {W w1 w' : World} {g : Nat} {name : ByteArray} {v : Value} {fs : List Tok} {n f : Tok} {r : List Tok} (hI : Inv W w1) (hz : w1.heap[W.heap.size]? = some (.cells zeroArr 29 (0, 0)))
    (hst : StrsAt w1 g 0 (n :: f :: r)) (hb : Below w1.heap.size w1 w') (hP : w'.heap[w1.heap.size]? = some (.cells #[.string ⟨#[]⟩, .slice none 0 0, .int .i64 0, .int .i64 0, .int .i64 0, .int .i64 0, .int .i64 0, .int .i64 0, .int .i64 0, .int .i64 0] 29 (0, 0))) (hs : Strs w' v fs) (hv : ∀ k, Heap.own v k → w1.heap.size < k) :
    PW W W.heap.size w1.heap.size g name v fs r (List.replicate 8 0) ((((((((((w'.setCell ⟨w1.heap.size, 0, none⟩ (.string name)).setCell ⟨w1.heap.size, 1, none⟩ (v)).setCell ⟨w1.heap.size, 2, none⟩ (.int .i64 0)).setCell ⟨w1.heap.size, 3, none⟩ (.int .i64 0)).setCell ⟨w1.heap.size, 4, none⟩ (.int .i64 0)).setCell ⟨w1.heap.size, 5, none⟩ (.int .i64 0)).setCell ⟨w1.heap.size, 6, none⟩ (.int .i64 0)).setCell ⟨w1.heap.size, 7, none⟩ (.int .i64 0)).setCell ⟨w1.heap.size, 8, none⟩ (.int .i64 0)).setCell ⟨w1.heap.size, 9, none⟩ (.int .i64 0)) :=
  PW.madeB hI hz hst hb (by rw [zeroArr_eq]; exact hP) hs hv (touch10 _ _ _ _ _ _ _ _ _ _) (by rw [planArr_zero]; exact set10 _ _ _ _ _ _ _ _ _ _ hP)

theorem PW.madeA' {W w1 w' : World} {g : Nat} {name : ByteArray} {v : Value} {fs : List Tok} {n f : Tok} {r : List Tok} (hI : Inv W w1) (hz : w1.heap[W.heap.size]? = some (.cells zeroArr 29 (0, 0)))
    (hst : StrsAt w1 g 0 (n :: f :: r)) (hb : Below w1.heap.size w1 w') (hs : Strs w' v fs) (hv : ∀ k, Heap.own v k → W.heap.size < k ∧ k < w'.heap.size) :
    PW W W.heap.size w'.heap.size g name v fs r (List.replicate 8 0) (w'.alloc (.cells #[.string name, v, .int .i64 0, .int .i64 0, .int .i64 0, .int .i64 0, .int .i64 0, .int .i64 0, .int .i64 0, .int .i64 0] 29)) := by
  rw [← planArr_zero]
  exact PW.madeA hI hz hst hb hs hv

theorem setVals {P : Nat} {name : ByteArray} {v : Value} {vals : List Int} {w : World} (j : Nat) (hj : j < vals.length) (h : w.heap[P]? = some (.cells (planArr name v vals) 29 (0, 0))) (x : Int) :
    (w.setCell ⟨P, 2 + j, none⟩ (.int .i64 x)).heap[P]? = some (.cells (planArr name v (vals.set j x)) 29 (0, 0)) := by
  rw [setCell_block h]
  unfold planArr
  rw [List.setIfInBounds_toArray, Nat.add_comm 2 j, List.set_cons_succ, List.set_cons_succ, List.map_set]

/-- A number is laid into the plan. -/
theorem PW.set {W : World} {R P g : Nat} {name : ByteArray} {v : Value} {fs r : List Tok} {vals : List Int} {w : World} (h : PW W R P g name v fs r vals w) (j : Nat) (hj : j < 8) (x : Int) :
    PW W R P g name v fs r (vals.set j x) (w.setCell ⟨P, 2 + j, none⟩ (.int .i64 x)) := by
  have ht : Heap.Touch (· = P) w (w.setCell ⟨P, 2 + j, none⟩ (.int .i64 x)) := (Heap.Touch.refl (· = P) w).setCell (.inl rfl) _
  have hml : Below W.heap.size W (w.setCell ⟨P, 2 + j, none⟩ (.int .i64 x)) := h.inv.2.setCell (p := ⟨P, 2 + j, none⟩) h.newP _
  obtain ⟨m, hm⟩ := h.inv.1
  refine ⟨⟨?_, hml⟩, (ht.block _ (Heap.heap_lt h.zero) h.neR).trans h.zero, setVals j (by rw [h.len]; exact hj) h.plan x, by rw [List.length_set]; exact h.len, fun i hi => ?_, ?_, h.newR, h.newP, h.neR, h.neg, h.nev, h.nevR⟩
  · refine ⟨m, ?_⟩
    rw [ht.cell (World.block_lt_of_cell? w _ hm) ?_]
    · exact hm
    · show ¬ _ = P
      intro e
      have h1 := cell_of_row w P 0 _ _ (0, 0) h.plan
      rw [← e] at h1
      have := h1.symm.trans hm
      simp [planArr] at this
  · rw [ht.cell (World.block_lt_of_cell? w _ (h.rest i hi)) h.neg]; exact h.rest i hi
  · obtain ⟨ao, cap, rfl, hc, hat⟩ := h.strs
    refine ⟨ao, cap, rfl, hc, fun hne => ?_⟩
    obtain ⟨gg, off, rfl, hst⟩ := hat hne
    refine ⟨gg, off, rfl, fun i hi => ?_⟩
    have := h.nev gg (by simp [Heap.own, Value.ownBlock])
    rw [ht.cell (World.block_lt_of_cell? w _ (hst i hi)) this]
    exact hst i hi

theorem BndAt.set {P G : Nat} {w : World} (h : BndAt P G w) (hne : G ≠ P) (j : Nat) (u : Value) : BndAt P G (w.setCell ⟨P, j, none⟩ u) := fun k hk => by
  have ht : Heap.Touch (· = P) w (w.setCell ⟨P, j, none⟩ u) := (Heap.Touch.refl (· = P) w).setCell (.inl rfl) _
  obtain ⟨h1, h2, h3⟩ := h k hk
  exact ⟨(ht.cell (World.block_lt_of_cell? w _ h1) hne).trans h1, (ht.cell (World.block_lt_of_cell? w _ h2) hne).trans h2, (ht.cell (World.block_lt_of_cell? w _ h3) hne).trans h3⟩

theorem PW.val {W : World} {R P g : Nat} {name : ByteArray} {v : Value} {fs r : List Tok} {vals : List Int} {w : World} (h : PW W R P g name v fs r vals w) (j : Nat) (hj : j < 8) :
    w.cell? ⟨P, 2 + j, none⟩ = some (.int .i64 (vals.getD j 0)) ∧ w.frozen? ⟨P, 2 + j, none⟩ = false := by
  refine ⟨?_, by simp [World.frozen?, h.plan]⟩
  rw [cell_of_row w P (2 + j) _ _ (0, 0) h.plan]
  unfold planArr
  rw [Nat.add_comm 2 j]
  have := h.len
  simp [List.getD, show j < vals.length by omega]

def InLoop (W : World) (R P G g : Nat) (name : ByteArray) (v : Value) (fs r : List Tok) (E : Option (List Int)) (s4 s33 : Value) (w : World) : Prop :=
  ∃ (j c o m : Nat) (vals : List Int), j ≤ 8 ∧ c + m = r.length ∧ (0 < m → o = 2 + c) ∧ s4 = .slice (some ⟨g, o, none⟩) m m ∧ s33 = .int .i64 j ∧ PState E r j c vals ∧ PW W R P g name v fs r vals w ∧ BndAt P G w

def Fin (W : World) (R P g : Nat) (name : ByteArray) (v : Value) (fs r : List Tok) (E : Option (List Int)) (s4 : Value) (w : World) : Prop :=
  ∃ (o m : Nat) (vals : List Int), s4 = .slice (some ⟨g, o, none⟩) m m ∧ ((0 < m ∧ E = none) ∨ (m = 0 ∧ E = some vals)) ∧ PW W R P g name v fs r vals w

/-- What is answered: a plan, or an error and nothing. -/
def ParsePost (W : World) (x : Option PlanP × Nat) (e : Ending) (w : World) : Prop :=
  Inv W w ∧ ∃ (name : ByteArray) (v : Value) (x0 x1 x2 x3 x4 x5 x6 x7 : Int), e = .returned (.tuple #[.agg (planCells name v x0 x1 x2 x3 x4 x5 x6 x7), .int .i64 x.2]) ∧
    match x.1 with
    | some p => name.data.toList = p.name ∧ Strs w v p.fs ∧ p.vs = [x0, x1, x2, x3, x4, x5, x6, x7]
    | none => name = ByteArray.empty ∧ v = .slice none 0 0 ∧ [x0, x1, x2, x3, x4, x5, x6, x7] = List.replicate 8 0

/-- What is told of a name, filters and numbers that are read. -/
def ansP (n : List UInt8) (fs : List Tok) : Option (List Int) → Option PlanP × Nat
  | some vs => if planErr n fs vs = 0 then (some ⟨n, fs, vs⟩, 0) else (none, planErr n fs vs)
  | none => (none, 3)

theorem parse_zero {W w1 : World} {R P g : Nat} {name : ByteArray} {v : Value} {fs r : List Tok} {vals : List Int} (hM : ML W) (h : PW W R P g name v fs r vals w1) {x : Option PlanP × Nat} (k : Nat) (hx : x = (none, k)) :
    ParsePost W x (.returned (.tuple #[.agg #[.string ⟨#[]⟩, .slice none 0 0, .int .i64 0, .int .i64 0, .int .i64 0, .int .i64 0, .int .i64 0, .int .i64 0, .int .i64 0, .int .i64 0], .int .i64 k])) ((((((((((w1.setCell ⟨R, 0, none⟩ (.string ⟨#[]⟩)).setCell ⟨R, 1, none⟩ (.slice none 0 0)).setCell ⟨R, 2, none⟩ (.int .i64 0)).setCell ⟨R, 3, none⟩ (.int .i64 0)).setCell ⟨R, 4, none⟩ (.int .i64 0)).setCell ⟨R, 5, none⟩ (.int .i64 0)).setCell ⟨R, 6, none⟩ (.int .i64 0)).setCell ⟨R, 7, none⟩ (.int .i64 0)).setCell ⟨R, 8, none⟩ (.int .i64 0)).setCell ⟨R, 9, none⟩ (.int .i64 0)) := by
  subst hx
  have hb := below10 (.string ⟨#[]⟩) (.slice none 0 0) (.int .i64 0) (.int .i64 0) (.int .i64 0) (.int .i64 0) (.int .i64 0) (.int .i64 0) (.int .i64 0) (.int .i64 0) h.inv.2 h.newR
  exact ⟨⟨hM.below hb, hb⟩, ByteArray.empty, .slice none 0 0, 0, 0, 0, 0, 0, 0, 0, 0, rfl, rfl, rfl, rfl⟩

theorem parse_good {W w1 : World} {R P g : Nat} {name : ByteArray} {v : Value} {n : List UInt8} {fs r : List Tok} {x0 x1 x2 x3 x4 x5 x6 x7 : Int} (hM : ML W) (h : PW W R P g name v fs r [x0, x1, x2, x3, x4, x5, x6, x7] w1) {x : Option PlanP × Nat}
    (hn : name.data.toList = n) (hx : x = (some ⟨n, fs, [x0, x1, x2, x3, x4, x5, x6, x7]⟩, 0)) :
    ParsePost W x (.returned (.tuple #[.agg #[.string name, v, .int .i64 x0, .int .i64 x1, .int .i64 x2, .int .i64 x3, .int .i64 x4, .int .i64 x5, .int .i64 x6, .int .i64 x7], .int .i64 0])) ((((((((((w1.setCell ⟨R, 0, none⟩ (.string name)).setCell ⟨R, 1, none⟩ (v)).setCell ⟨R, 2, none⟩ (.int .i64 x0)).setCell ⟨R, 3, none⟩ (.int .i64 x1)).setCell ⟨R, 4, none⟩ (.int .i64 x2)).setCell ⟨R, 5, none⟩ (.int .i64 x3)).setCell ⟨R, 6, none⟩ (.int .i64 x4)).setCell ⟨R, 7, none⟩ (.int .i64 x5)).setCell ⟨R, 8, none⟩ (.int .i64 x6)).setCell ⟨R, 9, none⟩ (.int .i64 x7)) := by
  subst hx
  have hb := below10 (.string name) v (.int .i64 x0) (.int .i64 x1) (.int .i64 x2) (.int .i64 x3) (.int .i64 x4) (.int .i64 x5) (.int .i64 x6) (.int .i64 x7) h.inv.2 h.newR
  refine ⟨⟨hM.below hb, hb⟩, name, v, x0, x1, x2, x3, x4, x5, x6, x7, rfl, hn, ?_, rfl⟩
  have ht := touch10 (w := w1) (B := R) (.string name) v (.int .i64 x0) (.int .i64 x1) (.int .i64 x2) (.int .i64 x3) (.int .i64 x4) (.int .i64 x5) (.int .i64 x6) (.int .i64 x7)
  obtain ⟨ao, cap, rfl, hc, hat⟩ := h.strs
  refine ⟨ao, cap, rfl, hc, fun hne => ?_⟩
  obtain ⟨gg, off, rfl, hst⟩ := hat hne
  refine ⟨gg, off, rfl, fun i hi => ?_⟩
  have := h.nevR gg (by simp [Heap.own, Value.ownBlock])
  rw [ht.cell (World.block_lt_of_cell? w1 _ (hst i hi)) this]
  exact hst i hi

set_option maxHeartbeats 4000000 in
set_option maxRecDepth 100000 in
theorem parse_words (s : ByteArray) (w : World) (hs : s.size ≤ 1024) (hm : ML w) (n f : Tok) (r : List Tok) (hp : piecesC 32 s.data.toList = n :: f :: r) :
    Calls Tryd.prog 17 #[.string s] w (ParsePost w (ansP n (piecesC 44 f) (Ends words [] r))) := by
  have hsplit := split_c 32 s (w.alloc (.cells zeroArr 29)) (by omega) ((Inv.made hm _).1)
  rw [hp] at hsplit
  have hfl : f.length ≤ 1024 := by
    have := piecesC_mem 32 (s := s.data.toList) (t := f) (by rw [hp]; simp)
    simp at this; omega
  have hnl : n.length ≤ 1024 := by
    have := piecesC_mem 32 (s := s.data.toList) (t := n) (by rw [hp]; simp)
    simp at this; omega
  have hr1024 : ∀ t ∈ r, t.length ≤ 1024 := fun t ht => by
    have := piecesC_mem 32 (s := s.data.toList) (t := t) (by rw [hp]; simp [ht])
    simp at this; omega
  have hfilt := fun w hm => split_c 44 ⟨f.toArray⟩ w (by show f.toArray.size ≤ _; simp; omega) hm
  simp only [List.length_cons] at hsplit
  have hlen : (0 : Int) ≤ (r.length : Int) := by omega
  have hlen0 : (0 : Int) < (r.length : Int) + 1 + 1 := by omega
  have hlen1 : (1 : Int) < (r.length : Int) + 1 + 1 := by omega
  obtain ⟨ans, hans⟩ : ∃ ans, ansP n (piecesC 44 f) (Ends words [] r) = ans := ⟨_, rfl⟩
  rw [hans]
  have HA := Lib.hid hans
  clear hans
  have HS := Lib.hid hsplit; have HF := Lib.hid hfilt; have HP := Lib.hid hp; have HM := Lib.hid hm
  clear hsplit hfilt hp hm
  go_enter Tryd.func17, Tryd.ntmps17
  go_wp2_with fail
  refine HS.out.mono ?_
  rintro e w1 ⟨rfl, hst, hb⟩
  simp only [World.alloc, Array.size_push] at hst
  have hg0 := hst 0 (by simp)
  have hg1 := hst 1 (by simp)
  have hI1 : Inv w w1 := Inv.step (Inv.made HM.out _) hb
  have hz1 : w1.heap[w.heap.size]? = some (.cells zeroArr 29 (0, 0)) := (hb.block _ (by simp)).trans (heap_alloc_new w _)
  have HST := Lib.hid hst; have HI1 := Lib.hid hI1; have HZ := Lib.hid hz1
  clear hst hI1 hz1 hb
  simp [strAt] at hg0 hg1
  go_upto_region 6 with fail
  go_cut [5] (fun s5 wx => ∃ P v, s5 = .pointer (some ⟨P, 0, none⟩) ∧ PW w w.heap.size P (w.heap.size + 1) ⟨n.toArray⟩ v (piecesC 44 f) r (List.replicate 8 0) wx)
  case first =>
    have hw1 : w.heap.size + 1 < w1.heap.size := World.block_lt_of_cell? w1 _ hg0
    have hne1 : w.heap.size + 1 ≠ w1.heap.size := by omega
    have hne2 : w1.heap.size ≠ w.heap.size + 1 := by omega
    have HF1 := Lib.hid (HF.out w1.drew HI1.out.1)
    have HF2 := Lib.hid (HF.out (w1.alloc (.cells #[.string ⟨#[]⟩, .slice none 0 0, .int .i64 0, .int .i64 0, .int .i64 0, .int .i64 0, .int .i64 0, .int .i64 0, .int .i64 0, .int .i64 0] 29)).drew (HI1.out.1.below (by go_grown)))
    clear HF
    go_region_held3 (fun w' => w'.cell? ⟨w.heap.size + 1, 0, none⟩ = some (.string ⟨n.toArray⟩) ∧ w'.cell? ⟨w.heap.size + 1, 1, none⟩ = some (.string ⟨f.toArray⟩)) (first | (with_reducible exact ⟨k0, k1⟩) | go_keep | (constructor <;> (simp [go_sem, *]; done)))
      (first
        | (go_at_call 52; ((with_reducible refine HF1.out.mono ?_); rintro e w' ⟨rfl, h1, h2⟩; have hB : Below w1.heap.size w1 w' := ((Below.refl w1.heap.size w1).drew).trans h2; have k0 := (hB.cell (p := ⟨w.heap.size + 1, 0, none⟩) hw1).trans hg0; have k1 := (hB.cell (p := ⟨w.heap.size + 1, 1, none⟩) hw1).trans hg1; have HB := Lib.hid hB; clear hB))
        | (go_at_call 52; ((with_reducible refine HF2.out.mono ?_); rintro e w' ⟨rfl, h1, h2⟩; have hB : Below w1.heap.size w1 w' := Below.trans (by go_grown) (h2.mono (by go_size)); have k0 := (hB.cell (p := ⟨w.heap.size + 1, 0, none⟩) hw1).trans hg0; have k1 := (hB.cell (p := ⟨w.heap.size + 1, 1, none⟩) hw1).trans hg1; have HB := Lib.hid hB; clear hB; have hz : w'.heap[w1.heap.size]? = some (.cells #[.string ⟨#[]⟩, .slice none 0 0, .int .i64 0, .int .i64 0, .int .i64 0, .int .i64 0, .int .i64 0, .int .i64 0, .int .i64 0, .int .i64 0] 29 (0, 0)) := (h2.block _ (by go_size)).trans (heap_alloc_new w1 _); obtain ⟨z0, z1, z2, z3, z4, z5, z6, z7, z8, z9, zf⟩ := ten hz; have HZN := Lib.hid hz; clear hz)))
    all_goals go_wp2_with fail
    all_goals go_meet
    · refine ⟨w'.heap.size, .slice (some ⟨w1.heap.size, 0, none⟩) (piecesC 44 f).length (piecesC 44 f).length, rfl, ?_⟩
      refine PW.madeA' (w1 := w1) (w' := w') HI1.out HZ.out HST.out HB.out ⟨_, _, rfl, Nat.le_refl _, fun _ => ⟨_, _, rfl, h1⟩⟩ ?_
      intro k hk; simp [Heap.own, Value.ownBlock] at hk; have := World.block_lt_of_cell? w' _ (h1 0 (List.length_pos_iff.2 (piecesC_ne _ _))); simp at this; omega
    · refine ⟨w1.heap.size, .slice (some ⟨w1.heap.size + 1, 0, none⟩) (piecesC 44 f).length (piecesC 44 f).length, rfl, ?_⟩
      refine PW.madeB' (w1 := w1) (w' := w') HI1.out HZ.out HST.out HB.out HZN.out ⟨_, _, rfl, Nat.le_refl _, fun _ => ⟨_, _, rfl, ?_⟩⟩ ?_
      · simpa using h1
      · intro k hk; simp [Heap.own, Value.ownBlock] at hk; omega
  case rest =>
    obtain ⟨P, v, rfl, hpw⟩ := hcut
    have HPW := Lib.hid hpw
    clear hpw hg0 hg1 HS HF HST HI1 HZ
    go_upto_region 7 with fail
    go_cut [4] (fun s4 wx => ∃ o, s4 = .slice (some ⟨w.heap.size + 1, o, none⟩) r.length r.length ∧ (0 < r.length → o = 2) ∧ wx = wc)
    case first =>
      go_wp2_with fail
      all_goals go_meet
      · have hr0 : r = [] := by assumption
        exact ⟨0, by rw [hr0]; rfl, fun h => by rw [hr0] at h; simp at h, rfl⟩
      · exact ⟨_, rfl, fun h => rfl, rfl⟩
    case rest =>
    obtain ⟨o, rfl, ho, rfl⟩ := hcut
    have HO := Lib.hid ho
    clear ho
    go_wp2_with fail
    refine (bounds_any _ _).mono ?_
    rintro e w2 ⟨rfl, hb2, hB2⟩
    have HB2 := Lib.hid hb2
    have HPW2 := Lib.hid (HPW.out.below hB2)
    have HPG := Lib.hid (Heap.heap_lt HPW.out.plan)
    clear hb2 hB2 HPW
    generalize wc.heap.size = G at *
    go_upto_block 0 with fail
    go_cut [4] (fun s4 wx => Fin w w.heap.size P (w.heap.size + 1) ⟨n.toArray⟩ v (piecesC 44 f) r (Ends words [] r) s4 wx)
    case first =>
      go_wp2_with fail
      go_loopw [4, 7, 8, 9, 33] (fun s4 _ _ _ s33 wr => InLoop w w.heap.size P G (w.heap.size + 1) ⟨n.toArray⟩ v (piecesC 44 f) r (Ends words [] r) s4 s33 wr) (fun _ _ _ _ i _ => 8 - (intOf i).toNat)
      case atStart =>
        exact ⟨0, 0, o, r.length, _, by omega, by omega, fun h => HO.out h, rfl, rfl, PState.start r, HPW2.out, HB2.out⟩
      case round =>
        obtain ⟨j, c, o', m, vals, hj, hcm, ho, rfl, rfl, hps, hpw, hbd⟩ := hrel
        by_cases hlt : j < 8
        · have hltz : (j : Int) < 8 := by omega
          obtain ⟨b0, b1, b2⟩ := hbd j hlt
          by_cases hm : m = 0
          · subst hm
            have HFIN := Lib.hid (hps.all hj (by omega))
            have HPW := Lib.hid hpw
            clear hps hpw hbd ho hcm
            go_wp2_with fail
            go_meet
            exact ⟨_, _, _, rfl, .inr ⟨rfl, HFIN.out⟩, HPW.out.below ((Below.refl _ _).alloc (Nat.le_refl _) _)⟩
          · obtain ⟨m', rfl⟩ : ∃ m', m = m' + 1 := ⟨m - 1, by omega⟩
            obtain rfl : o' = 2 + c := ho (by omega)
            have hc : c < r.length := by omega
            have hcell := hpw.rest c hc
            have hne1 := World.new_ne wr _ hcell
            have dm : (((m' + 1 : Nat) : Int) == 0) = false := by rw [beq_eq_false_iff_ne]; omega
            have dm2 : (0 : Int) < ((m' + 1 : Nat) : Int) := by omega
            have dm3 : (1 : Int) ≤ ((m' + 1 : Nat) : Int) := by omega
            have hT := hr1024 (r.getD c []) (by simp [List.getD, hc])
            cases hpre : (words.getD j [] ++ [61]).isPrefixOf (r.getD c []) with
            | false =>
              have HC := Lib.hid fun w => cut_no (strAt r c) (wordAt j) w hpre
              have HN := Lib.hid (hps.skip hlt hc hpre)
              have HPW := Lib.hid hpw
              have HBD := Lib.hid hbd
              clear hps hpw hbd ho hpre hm
              have hwd := wordAt_size j
              have hTs : (strAt r c).size ≤ 1024 := by show (List.toArray _).size ≤ _; simpa using hT
              clear hT
              generalize strAt r c = T at *
              generalize wordAt j = wd at *
              go_wp2_with fail
              obtain ⟨W3, hW3⟩ : ∃ W3, W3 = wr.alloc (.cells #[.string wd, .pointer (some ⟨P, 2 + j, none⟩), .int .i64 (mostAt j)] 93) := ⟨_, rfl⟩
              rw [← hW3]
              have hB3 : Below wr.heap.size wr W3 := by rw [hW3]; exact (Below.refl _ _).alloc (Nat.le_refl _) _
              have d0 : W3.cell? ⟨wr.heap.size, 0, none⟩ = some (.string wd) := by rw [hW3]; rw [World.cell?_alloc_at _ _ _ _ rfl]; rfl
              have d1 : W3.cell? ⟨wr.heap.size, 1, none⟩ = some (.pointer (some ⟨P, 2 + j, none⟩)) := by rw [hW3]; rw [World.cell?_alloc_at _ _ _ _ rfl]; rfl
              have hc3 := (hB3.cell (World.block_lt_of_cell? wr _ hcell)).trans hcell
              have HPW3 := Lib.hid (HPW.out.below hB3)
              have HBD3 := Lib.hid (HBD.out.below hB3)
              clear hW3 hcell hne1 b0 b1 b2 hB3 HPW HBD
              go_quiet ((go_at_call 57; exact Calls.quiet_of_same (HC.out _)))
              go_wp2_with fail
              exact ⟨⟨j + 1, c, 2 + c, m' + 1, vals, by omega, hcm, fun _ => rfl, rfl, by go_num, HN.out, HPW3.out.below (below_drewN (Below.refl _ _) _), HBD3.out.below (below_drewN (Below.refl _ _) _)⟩, by simp [intOf]; omega⟩
            | true =>
              have HC := Lib.hid fun w => cut_yes (strAt r c) (wordAt j) w hpre
              have HY := Lib.hid fun hn => hps.take hlt hc hpre hn
              have HX := Lib.hid fun hn => hps.bad hlt hc hpre hn
              have hnum := fun w => number_any ⟨((strAt r c).data.toList.drop ((wordAt j).data.toList.length + 1)).toArray⟩ w (by
                show (List.toArray _).size ≤ _
                rw [List.size_toArray, List.length_drop]
                have hT : (strAt r c).data.toList.length ≤ 1024 := hT
                have hm : (1024 : Nat) ≤ maxLen := by unfold maxLen; decide
                omega)
              have hval := hpw.val j hlt
              have HLEN := Lib.hid hpw.len
              have HPW := Lib.hid hpw
              have HBD := Lib.hid hbd
              clear hps hpw hbd ho hpre hm
              have hnum' : ∀ w, Calls Tryd.prog 58 #[.string ⟨((strAt r c).data.toList.drop ((wordAt j).data.toList.length + 1)).toArray⟩] w fun e w' => e = .returned (.int .i64 (numberOf ((r.getD c []).drop ((words.getD j []).length + 1)))) ∧ w' = w := fun w => (hnum w).mono fun _ _ ⟨a, b⟩ => ⟨a, b.symm⟩
              generalize numberOf ((r.getD c []).drop ((words.getD j []).length + 1)) = x at *
              have HNUM := Lib.hid hnum'
              clear hnum'
              clear hnum
              have hwd := wordAt_size j
              have hTs : (strAt r c).size ≤ 1024 := by show (List.toArray _).size ≤ _; simpa using hT
              clear hT
              generalize strAt r c = T at *
              generalize wordAt j = wd at *
              obtain ⟨hv1, hv2⟩ := hval
              have hPlt : P < wr.heap.size := World.block_lt_of_cell? wr _ hv1
              go_wp2_with fail
              obtain ⟨W3, hW3⟩ : ∃ W3, W3 = wr.alloc (.cells #[.string wd, .pointer (some ⟨P, 2 + j, none⟩), .int .i64 (mostAt j)] 93) := ⟨_, rfl⟩
              rw [← hW3]
              have hB3 : Below wr.heap.size wr W3 := by rw [hW3]; exact (Below.refl _ _).alloc (Nat.le_refl _) _
              have d0 : W3.cell? ⟨wr.heap.size, 0, none⟩ = some (.string wd) := by rw [hW3]; rw [World.cell?_alloc_at _ _ _ _ rfl]; rfl
              have d1 : W3.cell? ⟨wr.heap.size, 1, none⟩ = some (.pointer (some ⟨P, 2 + j, none⟩)) := by rw [hW3]; rw [World.cell?_alloc_at _ _ _ _ rfl]; rfl
              have hc3 := (hB3.cell (World.block_lt_of_cell? wr _ hcell)).trans hcell
              have e1 := (hB3.cell (World.block_lt_of_cell? wr _ hv1)).trans hv1
              have e2 := (hB3.frozen (World.block_lt_of_cell? wr _ hv1)).trans hv2
              have HPW3 := Lib.hid (HPW.out.below hB3)
              have HBD3 := Lib.hid (HBD.out.below hB3)
              clear hW3 hcell hne1 b0 b1 b2 hB3 hv1 hv2 HPW HBD
              go_quiet ((go_at_call 57; exact Calls.quiet_of_same (HC.out _)))
              go_wp2_with fail
              have hPG : P < G := HPG.out
              go_cut [] (fun wx => ∃ kd, wx = (W3.drewN kd).setCell ⟨P, 2 + j, none⟩ (.int .i64 x))
              case first =>
                go_region_with (go_at_call 58; refine (HNUM.out _).mono ?_; rintro e w' ⟨rfl, rfl⟩)
                all_goals
                  go_wp2_with fail
                  go_meet
                  exact ⟨_, rfl⟩
              case rest =>
                obtain ⟨kd, hcut⟩ := hcut
                rw [hcut]
                clear hcut
                obtain ⟨W4, hW4⟩ : ∃ W4, W4 = (W3.drewN (kd)).setCell ⟨P, 2 + j, none⟩ (.int .i64 x) := ⟨_, rfl⟩
                rw [← hW4]
                have hPW4 : PW w w.heap.size P (w.heap.size + 1) ⟨n.toArray⟩ v (piecesC 44 f) r (vals.set j x) W4 := by
                  rw [hW4]; exact (HPW3.out.below (below_drewN (Below.refl _ _) (kd))).set j hlt x
                have hBD4 : BndAt P G W4 := by
                  rw [hW4]; exact (HBD3.out.below (below_drewN (Below.refl _ _) (kd))).set (by omega) _ _
                have ht4 : Heap.Touch (· = P) (W3.drewN (kd)) W4 := by rw [hW4]; exact (Heap.Touch.refl (· = P) _).setCell (.inl rfl) _
                have f1 : W4.cell? ⟨wr.heap.size, 1, none⟩ = some (.pointer (some ⟨P, 2 + j, none⟩)) := (ht4.cell (World.block_lt_of_cell? W3 _ d1) (by show ¬ wr.heap.size = P; omega)).trans d1
                have f2 := (hPW4.val j hlt).1
                rw [show (vals.set j x).getD j 0 = x from by simp [List.getD, hPW4.len, HLEN.out, hlt]] at f2
                have HPW4 := Lib.hid hPW4
                have HBD4 := Lib.hid hBD4
                by_cases hx : x ≤ 0
                · have HXX := Lib.hid (HX.out hx)
                  have z := ten (by have := hPW4.zero; rw [zeroArr_eq] at this; exact this)
                  obtain ⟨z0, z1, z2, z3, z4, z5, z6, z7, z8, z9, zf⟩ := z
                  clear hPW4 hBD4 ht4 hW4 e1 e2 d0 d1 hc3 HPW3 HBD3
                  go_wp2_with fail
                  refine bodyPost_ret (v := .tuple #[.agg #[.string ⟨#[]⟩, .slice none 0 0, .int .i64 0, .int .i64 0, .int .i64 0, .int .i64 0, .int .i64 0, .int .i64 0, .int .i64 0, .int .i64 0], .int .i64 3]) (by simp [results, Tryd.results17, go_sem, z0, z1, z2, z3, z4, z5, z6, z7, z8, z9, zf]) rfl ?_
                  exact parse_zero HM.out HPW4.out 3 (by rw [← HA.out, HXX.out]; rfl)
                · have hxp : 0 < x := by omega
                  have HYY := Lib.hid (HY.out hxp)
                  clear hPW4 hBD4 ht4 hW4 e1 e2 d0 d1 hc3 HPW3 HBD3
                  go_wp2_with fail
                  exact ⟨⟨j + 1, c + 1, if m' = 0 then 2 + c else 2 + c + 1, m', _, by omega, by omega, fun h => by rw [if_neg (by omega)]; omega, by split <;> rfl, by go_num, HYY.out, HPW4.out, HBD4.out⟩, by simp [intOf]; omega⟩
        · have hltz : ¬ (j : Int) < 8 := by omega
          obtain rfl : j = 8 := by omega
          have HFIN : Hid ((0 < m ∧ Ends words [] r = none) ∨ (m = 0 ∧ Ends words [] r = some vals)) := Lib.hid (by
            by_cases hm : m = 0
            · exact .inr ⟨hm, hps.all (by omega) (by omega)⟩
            · exact .inl ⟨by omega, hps.over (by omega)⟩)
          have HPW := Lib.hid hpw
          clear hps hpw hbd ho
          go_wp2_with fail
          go_meet
          exact ⟨_, _, _, rfl, HFIN.out, HPW.out⟩
    case rest =>
      obtain ⟨o3, m, vals, rfl, hfin, hpw⟩ := hcut
      obtain ⟨ao, vcap, rfl, _⟩ := id hpw.strs
      generalize (piecesC 44 f).length = vlen at *
      have HPW := Lib.hid hpw
      clear HPW2 HB2 HO HPG
      rcases hfin with ⟨hm, hE⟩ | ⟨rfl, hE⟩
      · have hz := ten (by have := hpw.zero; rw [zeroArr_eq] at this; exact this)
        obtain ⟨z0, z1, z2, z3, z4, z5, z6, z7, z8, z9, zf⟩ := hz
        have HE := Lib.hid hE
        have hm2 : (0 : Int) < (m : Int) := by omega
        clear hpw hE
        go_wp2_with fail
        refine bodyPost_ret (v := .tuple #[.agg #[.string ⟨#[]⟩, .slice none 0 0, .int .i64 0, .int .i64 0, .int .i64 0, .int .i64 0, .int .i64 0, .int .i64 0, .int .i64 0, .int .i64 0], .int .i64 3]) (by simp [results, Tryd.results17, go_sem, z0, z1, z2, z3, z4, z5, z6, z7, z8, z9, zf]) rfl ?_
        exact parse_zero HM.out HPW.out 3 (by rw [← HA.out, HE.out]; rfl)
      · obtain ⟨x0, x1, x2, x3, x4, x5, x6, x7, rfl⟩ := eight hpw.len
        have hy := ten hpw.plan
        obtain ⟨y0, y1, y2, y3, y4, y5, y6, y7, y8, y9, yf⟩ := hy
        have hnsz : (⟨n.toArray⟩ : ByteArray).size ≤ maxLen := by
          have h1 := hnl
          have : (1024 : Nat) ≤ maxLen := by unfold maxLen; decide
          show n.toArray.size ≤ _
          rw [List.size_toArray]; omega
        have hchk := check_any ⟨n.toArray⟩ (.slice ao vlen vcap) (piecesC 44 f) x0 x1 x2 x3 x4 x5 x6 x7 wc hnsz hpw.strs (fun i => by have := piecesC_each 44 f i; omega) hpw.inv.1
        have HE := Lib.hid hE
        generalize hpe : planErr n (piecesC 44 f) [x0, x1, x2, x3, x4, x5, x6, x7] = er at *
        have hchk' : Calls Tryd.prog 48 #[.agg #[.string ⟨n.toArray⟩, .slice ao vlen vcap, .int .i64 x0, .int .i64 x1, .int .i64 x2, .int .i64 x3, .int .i64 x4, .int .i64 x5, .int .i64 x6, .int .i64 x7]] wc (IntRet wc er) := hchk
        have HPE := Lib.hid hpe
        have HCHK := Lib.hid hchk'
        clear hpw hE hpe hchk hchk'
        go_wp2_with fail
        refine HCHK.out.mono ?_
        rintro e w4 ⟨rfl, hI4⟩
        have hpw4 := HPW.out.below hI4.2
        have hz := ten (by have := hpw4.zero; rw [zeroArr_eq] at this; exact this)
        obtain ⟨z0, z1, z2, z3, z4, z5, z6, z7, z8, z9, zf⟩ := hz
        have hy := ten hpw4.plan
        clear y0 y1 y2 y3 y4 y5 y6 y7 y8 y9 yf
        obtain ⟨y0, y1, y2, y3, y4, y5, y6, y7, y8, y9, yf⟩ := hy
        have HPW4 := Lib.hid hpw4
        clear hpw4 hI4 HPW
        by_cases he : er = 0
        · subst he
          go_wp2_with fail
          refine bodyPost_ret (v := .tuple #[.agg #[.string ⟨n.toArray⟩, .slice ao vlen vcap, .int .i64 x0, .int .i64 x1, .int .i64 x2, .int .i64 x3, .int .i64 x4, .int .i64 x5, .int .i64 x6, .int .i64 x7], .int .i64 0]) (by simp [results, Tryd.results17, go_sem, z0, z1, z2, z3, z4, z5, z6, z7, z8, z9, zf]) rfl ?_
          exact parse_good HM.out HPW4.out rfl (by rw [← HA.out, HE.out]; unfold ansP; simp only [HPE.out]; rfl)
        · have dn : ((er : Int) != 0) = true := by simpa using he
          have HER := Lib.hid he
          clear he
          go_wp2_with fail
          refine bodyPost_ret (v := .tuple #[.agg #[.string ⟨#[]⟩, .slice none 0 0, .int .i64 0, .int .i64 0, .int .i64 0, .int .i64 0, .int .i64 0, .int .i64 0, .int .i64 0, .int .i64 0], .int .i64 er]) (by simp [results, Tryd.results17, go_sem, z0, z1, z2, z3, z4, z5, z6, z7, z8, z9, zf]) rfl ?_
          exact parse_zero HM.out HPW4.out er (by rw [← HA.out, HE.out]; unfold ansP; simp only [HPE.out, HER.out, if_false])

theorem parse_ret {w w' : World} {x : Option PlanP × Nat} (k : Nat) (hx : x = (none, k)) (hI : Inv w w') :
    ParsePost w x (.returned (.tuple #[.agg #[.string ⟨#[]⟩, .slice none 0 0, .int .i64 0, .int .i64 0, .int .i64 0, .int .i64 0, .int .i64 0, .int .i64 0, .int .i64 0, .int .i64 0], .int .i64 k])) w' := by
  subst hx
  exact ⟨hI, ByteArray.empty, .slice none 0 0, 0, 0, 0, 0, 0, 0, 0, 0, rfl, rfl, rfl, rfl⟩

set_option maxHeartbeats 1000000 in
set_option maxRecDepth 100000 in
theorem parse_long (s : ByteArray) (w : World) (hs : s.size ≤ maxLen) (h : 1024 < s.size) (hm : ML w) (x : Option PlanP × Nat) (hx : x = (none, 2)) :
    Calls Tryd.prog 17 #[.string s] w (ParsePost w x) := by
  have HM := Lib.hid hm
  have HX := Lib.hid hx
  clear hm hx
  unfold maxLen at hs
  go_enter Tryd.func17, Tryd.ntmps17
  go_wp2_with fail
  refine bodyPost_ret (v := .tuple #[.agg #[.string ⟨#[]⟩, .slice none 0 0, .int .i64 0, .int .i64 0, .int .i64 0, .int .i64 0, .int .i64 0, .int .i64 0, .int .i64 0, .int .i64 0], .int .i64 2]) (by simp [results, Tryd.results17, go_sem]) rfl ?_
  exact parse_ret 2 HX.out (Inv.made HM.out _)

set_option maxHeartbeats 1000000 in
set_option maxRecDepth 100000 in
theorem parse_one (s : ByteArray) (w : World) (h : s.size ≤ 1024) (hm : ML w) (t : Tok) (hp : piecesC 32 s.data.toList = [t]) (x : Option PlanP × Nat) (hx : x = (none, 3)) :
    Calls Tryd.prog 17 #[.string s] w (ParsePost w x) := by
  have hsplit := split_c 32 s (w.alloc (.cells zeroArr 29)) (by omega) ((Inv.made hm _).1)
  rw [hp] at hsplit
  have HS := Lib.hid hsplit
  have HM := Lib.hid hm
  have HX := Lib.hid hx
  clear hm hx hsplit hp
  go_enter Tryd.func17, Tryd.ntmps17
  go_wp2_with fail
  refine HS.out.mono ?_
  rintro e w1 ⟨rfl, _, hb⟩
  have hI1 : Inv w w1 := Inv.step (Inv.made HM.out _) hb
  have hz1 : w1.heap[w.heap.size]? = some (.cells zeroArr 29 (0, 0)) := (hb.block _ (by simp)).trans (heap_alloc_new w _)
  rw [zeroArr_eq] at hz1
  obtain ⟨z0, z1, z2, z3, z4, z5, z6, z7, z8, z9, zf⟩ := ten hz1
  have HI1 := Lib.hid hI1
  clear hI1 hz1 hb
  go_wp2_with fail
  refine bodyPost_ret (v := .tuple #[.agg #[.string ⟨#[]⟩, .slice none 0 0, .int .i64 0, .int .i64 0, .int .i64 0, .int .i64 0, .int .i64 0, .int .i64 0, .int .i64 0, .int .i64 0], .int .i64 3]) (by simp [results, Tryd.results17, go_sem, z0, z1, z2, z3, z4, z5, z6, z7, z8, z9, zf]) rfl ?_
  have hb := below10 (.string ⟨#[]⟩) (.slice none 0 0) (.int .i64 0) (.int .i64 0) (.int .i64 0) (.int .i64 0) (.int .i64 0) (.int .i64 0) (.int .i64 0) (.int .i64 0) HI1.out.2 (Nat.le_refl _)
  exact parse_ret 3 HX.out ⟨HM.out.below hb, hb⟩

theorem parse_any (s : ByteArray) (w : World) (hs : s.size ≤ maxLen) (hm : ML w) :
    Calls Tryd.prog 17 #[.string s] w (ParsePost w (parseP s.data.toList)) := by
  rw [parseP_ends]
  have hl : s.data.toList.length = s.size := by simp
  rw [hl]
  by_cases h : 1024 < s.size
  · rw [if_pos h]; exact parse_long s w hs h hm _ rfl
  · rw [if_neg h]
    rcases hp : piecesC 32 s.data.toList with _ | ⟨n, _ | ⟨f, r⟩⟩
    · exact absurd hp (piecesC_ne 32 _)
    · exact parse_one s w (by omega) hm n hp _ rfl
    · have := parse_words s w (by omega) hm n f r hp
      unfold ansP at this
      exact this

end Go.Proofs.YtglgbidcmkncgaaDoor.Subj
