/- Parts of the proof, joined: A consumer in memory: the program's, or the reference's; the wait of a plan.; Messages that are still to come: one after another. No program here.; How many messages are still to come; a delivery that is told: (*Consumer).left, (*Consumer).told, walked.; What is due is delivered again: (*Consumer).again, walked. -/
import Derived.Test.YtapmhpnkpjgefaaDoorConsumerRulesUptoM6
import Derived.Test.YtapmhpnkpjgefaaDoorConsumerRulesUptoM17
import Derived.Test.YtapmhpnkpjgefaaDoorConsumerRulesUptoM25
import Derived.Test.YtapmhpnkpjgefaaDoorConsumerRulesUptoM26
import Derived.Deep.RegionHeld3
namespace Go.Proofs.YtapmhpnkpjgefaaDoor.Con
open Go.RowKit Heap
open Subj (Tok TakerP Ints WaitIs waitC_none waitC_some waitR_none waitR_some)

def pdC (p : Pd) : List Value := [.int .i64 p.seq, .int .i64 p.nth, .int .i64 p.due]
def pdsV (l : List Pd) : List Value := l.flatMap pdC

theorem pdsV_cons (p : Pd) (l : List Pd) : pdsV (p :: l) = pdC p ++ pdsV l := rfl
theorem pdsV_append (a b : List Pd) : pdsV (a ++ b) = pdsV a ++ pdsV b := by simp [pdsV]
theorem pdsV_one (l : List Pd) : ∀ u ∈ pdsV l, u.oneCell' = true := by
  intro u hu
  obtain ⟨e, _, h⟩ := List.mem_flatMap.1 hu
  simp only [pdC, List.mem_cons, List.not_mem_nil, or_false] at h
  rcases h with rfl | rfl | rfl <;> rfl
theorem pdsV_take (A : List Pd) (k : Nat) : (pdsV A).take (k * 3) = pdsV (A.take k) := by
  induction A generalizing k with
  | nil => simp [pdsV]
  | cons a r ih =>
    cases k with
    | zero => simp [pdsV]
    | succ k =>
      have hl : (pdC a).length = 3 := rfl
      rw [pdsV_cons, List.take_append, hl, show (k + 1) * 3 - 3 = k * 3 by omega, ih, List.take_of_length_le (by rw [hl]; omega)]
      rfl
theorem pdsV_drop (A : List Pd) (k : Nat) : (pdsV A).drop (k * 3) = pdsV (A.drop k) := by
  induction A generalizing k with
  | nil => simp [pdsV]
  | cons a r ih =>
    cases k with
    | zero => simp [pdsV]
    | succ k =>
      have hl : (pdC a).length = 3 := rfl
      rw [pdsV_cons, List.drop_append, hl, show (k + 1) * 3 - 3 = k * 3 by omega, ih, List.drop_of_length_le (by rw [hl]; omega)]
      rfl
theorem pdsV_at (l : List Pd) (k : Nat) (p : Pd) (h : l[k]? = some p) (i : Nat) (hi : i < 3) : (pdsV l)[k * 3 + i]? = (pdC p)[i]? := by
  induction l generalizing k with
  | nil => simp at h
  | cons q l ih =>
    rw [pdsV_cons]
    cases k with
    | zero =>
      simp at h; subst h
      rw [List.getElem?_append_left (by simp [pdC]; omega)]
      simp
    | succ k =>
      rw [List.getElem?_append_right (by simp [pdC]; omega)]
      rw [show (k + 1) * 3 + i - (pdC q).length = k * 3 + i by simp [pdC]; omega]
      exact ih k (by simpa using h)
theorem pdsV_set (l : List Pd) (k : Nat) (p : Pd) (h : l[k]? = some p) (a b : Int) : ((pdsV l).set (k * 3 + 1) (.int .i64 a)).set (k * 3 + 2) (.int .i64 b) = pdsV (l.set k ⟨p.seq, a, b⟩) := by
  induction l generalizing k with
  | nil => simp at h
  | cons q l ih =>
    rw [pdsV_cons]
    cases k with
    | zero => simp at h; subst h; rfl
    | succ k =>
      have ih := ih k (by simpa using h)
      show ((pdC q ++ pdsV l).set _ _).set _ _ = pdC q ++ pdsV (l.set k _)
      rw [← ih]
      have hl : (pdC q).length = 3 := rfl
      rw [List.set_append, if_neg (by rw [hl]; omega), List.set_append, if_neg (by rw [hl]; omega), hl]
      rw [show (k + 1) * 3 + 1 - 3 = k * 3 + 1 by omega, show (k + 1) * 3 + 2 - 3 = k * 3 + 2 by omega]
theorem pdsV_set2 (l : List Pd) (k : Nat) (p : Pd) (h : l[k]? = some p) (b : Int) : (pdsV l).set (k * 3 + 2) (.int .i64 b) = pdsV (l.set k ⟨p.seq, p.nth, b⟩) := by
  rw [← pdsV_set l k p h p.nth b]
  congr 1
  symm
  have h1 := pdsV_at l k p h 1 (by omega)
  obtain ⟨h2, h3⟩ := List.getElem?_eq_some_iff.1 (h1.trans (show (pdC p)[1]? = some (.int .i64 p.nth) from rfl))
  rw [← h3, List.set_getElem_self]

section
variable {e : TypeId} {w : World} {g off n cap : Nat} {l : List Pd}

/-- A delivery's cells in a row of them. -/
theorem cells_pd (h : Row w e 3 (.slice (some ⟨g, off, none⟩) n cap) n (pdsV l)) (k : Nat) (p : Pd) (hp : l[k]? = some p) (hk : k < n) :
    w.cell? ⟨g, off + k * 3, none⟩ = some (.int .i64 p.seq) ∧ w.cell? ⟨g, off + k * 3 + 1, none⟩ = some (.int .i64 p.nth) ∧ w.cell? ⟨g, off + k * 3 + 2, none⟩ = some (.int .i64 p.due) ∧
      w.frozen? ⟨g, off + k * 3 + 1, none⟩ = false ∧ w.frozen? ⟨g, off + k * 3 + 2, none⟩ = false := by
  have f : ∀ i, i < 3 → w.cell? ⟨g, off + k * 3 + i, none⟩ = (pdC p)[i]? ∧ w.frozen? ⟨g, off + k * 3 + i, none⟩ = false := fun i hi => by
    have := h.cell (k * 3 + i) (by omega)
    rw [← Nat.add_assoc] at this
    exact ⟨by rw [this.1, pdsV_at l k p hp i hi], this.2⟩
  exact ⟨(f 0 (by omega)).1, (f 1 (by omega)).1, (f 2 (by omega)).1, (f 1 (by omega)).2, (f 2 (by omega)).2⟩
end

/-- A plan's cells. -/
def takerV (t : TakerP) (vb : Value) : Value := .agg #[.string ⟨t.name.toArray⟩, .string ⟨t.filt.toArray⟩, .int .i64 t.src, .int .i64 t.start, .int .i64 t.ack, .int .i64 t.wait, vb, .int .i64 t.most, .int .i64 t.pend, .bool t.push]
def conC (t : TakerP) (vb v : Value) (c : Cn) : Array Value :=
  #[.string ⟨t.name.toArray⟩, .string ⟨t.filt.toArray⟩, .int .i64 t.src, .int .i64 t.start, .int .i64 t.ack, .int .i64 t.wait, vb, .int .i64 t.most, .int .i64 t.pend, .bool t.push, .int .i64 c.place, .int .i64 c.count, v]

/-- A consumer at K: of type tc, its deliveries of type tp. -/
structure CAt (tc tp : TypeId) (W : World) (K : Nat) (t : TakerP) (vb v : Value) (c : Cn) (w : World) : Prop where
  cell : w.heap[K]? = some (.cells (conC t vb v c) tc (0, 0))
  row : Row w tp 3 v c.l.length (pdsV c.l)
  back : Ints w vb t.back
  old : W.heap.size ≤ K
  mine : ∀ k, own v k → W.heap.size ≤ k ∧ k ≠ K
  fb : ∀ k, own vb k → k < w.heap.size ∧ k ≠ K ∧ ¬ own v k
  below : Below W.heap.size W w

/-- A consumer that has come of another one. -/
def NextC (tc tp : TypeId) (W : World) (K : Nat) (t : TakerP) (vb v : Value) (w : World) (c' : Cn) (w' : World) : Prop :=
  ∃ v', CAt tc tp W K t vb v' c' w' ∧ Heap.Touch (fun k => k = K ∨ own v k) w w' ∧ ∀ k, own v' k → own v k ∨ w.heap.size ≤ k

theorem Ints.touch {F : Nat → Prop} {w w' : World} {v : Value} {zs : List Int} (h : Ints w v zs) (ht : Heap.Touch F w w') (hn : ∀ k, own v k → ¬ F k) : Ints w' v zs := by
  obtain ⟨ao, cap, rfl, hc, hat⟩ := h
  refine ⟨ao, cap, rfl, hc, fun hne => ?_⟩
  obtain ⟨g, off, rfl, h2⟩ := hat hne
  refine ⟨g, off, rfl, fun k hk => ?_⟩
  have h3 := h2 k hk
  exact (World.cell?_of_block (a := ⟨g, off + k, none⟩) (ht.block g (World.block_lt_of_cell? w _ h3) (hn g (by simp [own, Value.ownBlock])))).trans h3

section
variable {tc tp : TypeId} {W w w1 : World} {K : Nat} {t : TakerP} {vb v v2 : Value} {c c2 : Cn}

theorem CAt.touch {F : Nat → Prop} (h : CAt tc tp W K t vb v c w) (ht : Heap.Touch F w w1) (hF : ∀ k, F k → W.heap.size ≤ k) (fK : ¬ F K) (fv : ∀ k, own v k → ¬ F k) (fb : ∀ k, own vb k → ¬ F k) : CAt tc tp W K t vb v c w1 :=
  ⟨(ht.block K (heap_lt h.cell) fK).trans h.cell, h.row.kept fun k hk hlt => ht.block k hlt (fv k hk), Ints.touch h.back ht fb, h.old, h.mine, fun k hk => ⟨Nat.lt_of_lt_of_le (h.fb k hk).1 ht.size, (h.fb k hk).2⟩, h.below.trans (ht.below h.below.size hF)⟩

theorem CAt.next (h : CAt tc tp W K t vb v c w) (hb : Below w.heap.size w w1) : CAt tc tp W K t vb v c w1 :=
  ⟨(hb.block K (heap_lt h.cell)).trans h.cell, h.row.kept fun k _ hk => hb.block k hk, h.back.below hb, h.old, h.mine, fun k hk => ⟨Nat.lt_of_lt_of_le (h.fb k hk).1 hb.size, (h.fb k hk).2⟩, h.below.trans (hb.mono h.below.size)⟩

theorem NextC.same (h : CAt tc tp W K t vb v c w) (hb : Below w.heap.size w w1) : NextC tc tp W K t vb v w c w1 := ⟨v, h.next hb, Heap.Touch.ofBelow hb, fun _ hk => .inl hk⟩

theorem touch_K (w : World) (K j : Nat) (u : Value) : Heap.Touch (fun k => k = K) w (w.setCell ⟨K, j, none⟩ u) := Heap.Touch.setCell (F := fun k => k = K) (p := ⟨K, j, none⟩) (Heap.Touch.refl _ w) (.inl rfl) _

/-- Its cells are written anew, its list lies elsewhere or is another one. -/
theorem CAt.put (h : CAt tc tp W K t vb v c w) (ht : Heap.Touch (fun k => k = K ∨ own v k) w w1) (hc : w1.heap[K]? = some (.cells (conC t vb v2 c2) tc (0, 0))) (hr : Row w1 tp 3 v2 c2.l.length (pdsV c2.l)) (ho : ∀ k, own v2 k → (own v k ∨ w.heap.size ≤ k)) (hK : ∀ k, own v2 k → k ≠ K) :
    CAt tc tp W K t vb v2 c2 w1 := by
  have hF : ∀ k, (k = K ∨ own v k) → W.heap.size ≤ k := fun k hk => by
    rcases hk with rfl | hk
    · exact h.old
    · exact (h.mine k hk).1
  refine ⟨hc, hr, Ints.touch h.back ht fun k hk hn => ?_, h.old, fun k hk => ⟨?_, hK k hk⟩, fun k hk => ⟨Nat.lt_of_lt_of_le (h.fb k hk).1 ht.size, (h.fb k hk).2.1, fun hn => ?_⟩, h.below.trans (ht.below h.below.size hF)⟩
  · rcases hn with rfl | hn
    · exact (h.fb k hk).2.1 rfl
    · exact (h.fb k hk).2.2 hn
  · rcases ho k hk with e | e
    · exact (h.mine k e).1
    · exact Nat.le_trans h.below.size e
  · rcases ho k hn with e | e
    · exact (h.fb k hk).2.2 e
    · have := (h.fb k hk).1; omega

theorem CAt.ne (h : CAt tc tp W K t vb v c w) : ∀ k, own v k → k ≠ K := fun k hk => (h.mine k hk).2

theorem NextC.after {c1 c2 : Cn} {w2 : World} (h : NextC tc tp W K t vb v w c1 w1) (hn : ∀ v1, CAt tc tp W K t vb v1 c1 w1 → NextC tc tp W K t vb v1 w1 c2 w2) : NextC tc tp W K t vb v w c2 w2 := by
  obtain ⟨v1, h1, t1, o1⟩ := h
  obtain ⟨v2, h2, t2, o2⟩ := hn v1 h1
  refine ⟨v2, h2, t1.trans t2 (fun k hk e => ?_), fun k hk => ?_⟩
  · rcases e with e | e
    · exact .inl e
    · rcases o1 k e with e | e
      · exact .inr e
      · omega
  · rcases o2 k hk with e | e
    · exact o1 k e
    · exact .inr (Nat.le_trans t1.size e)

/-- The cells as they are read. -/
theorem CAt.cells (h : CAt tc tp W K t vb v c w) :
    w.cell? ⟨K, 0, none⟩ = some (.string ⟨t.name.toArray⟩) ∧ w.cell? ⟨K, 1, none⟩ = some (.string ⟨t.filt.toArray⟩) ∧ w.cell? ⟨K, 2, none⟩ = some (.int .i64 t.src) ∧ w.cell? ⟨K, 3, none⟩ = some (.int .i64 t.start) ∧
    w.cell? ⟨K, 4, none⟩ = some (.int .i64 t.ack) ∧ w.cell? ⟨K, 5, none⟩ = some (.int .i64 t.wait) ∧ w.cell? ⟨K, 6, none⟩ = some vb ∧ w.cell? ⟨K, 7, none⟩ = some (.int .i64 t.most) ∧ w.cell? ⟨K, 8, none⟩ = some (.int .i64 t.pend) ∧
    w.cell? ⟨K, 9, none⟩ = some (.bool t.push) ∧ w.cell? ⟨K, 10, none⟩ = some (.int .i64 c.place) ∧ w.cell? ⟨K, 11, none⟩ = some (.int .i64 c.count) ∧ w.cell? ⟨K, 12, none⟩ = some v ∧ ∀ j, w.frozen? ⟨K, j, none⟩ = false := by
  have hc := h.cell
  refine ⟨?_, ?_, ?_, ?_, ?_, ?_, ?_, ?_, ?_, ?_, ?_, ?_, ?_, fun j => frozen_of_row w K j _ _ hc⟩ <;> (rw [cell_of_row w K _ _ _ _ hc]; rfl)
end

section
variable {w : World} {t : TakerP} {vb : Value}

theorem wait_c (hB : Ints w vb t.back) (hl : t.back.length ≤ 1048576) (nth : Int) : Calls Tryd.prog 21 #[takerV t vb, .int .i64 nth] w (WaitIs w (waitT t nth)) := by
  obtain ⟨ao, cap, rfl, hc, hat⟩ := hB
  unfold waitT takerV
  by_cases h0 : t.back.length = 0
  · rw [if_pos h0, h0]
    exact waitC_none _ _ _ _ _ _ _ _ _ _ _ _ _
  · rw [if_neg h0]
    obtain ⟨g, off, rfl, hz⟩ := hat (fun e => h0 (by rw [e]; rfl))
    exact waitC_some _ _ _ _ _ _ g off cap _ (backI t nth) t.back _ _ _ nth w hz rfl hl (by omega) (by unfold backI; omega)

theorem wait_r (hB : Ints w vb t.back) (hl : t.back.length ≤ 1048576) (nth : Int) : Calls Tryd.prog 26 #[takerV t vb, .int .i64 nth] w (WaitIs w (waitT t nth)) := by
  obtain ⟨ao, cap, rfl, hc, hat⟩ := hB
  unfold waitT takerV
  by_cases h0 : t.back.length = 0
  · rw [if_pos h0, h0]
    exact waitR_none _ _ _ _ _ _ _ _ _ _ _ _ _
  · rw [if_neg h0]
    obtain ⟨g, off, rfl, hz⟩ := hat (fun e => h0 (by rw [e]; rfl))
    exact waitR_some _ _ _ _ _ _ g off cap _ (backI t nth) t.back _ _ _ nth w hz rfl hl (by omega) (by unfold backI; omega)
end
end Go.Proofs.YtapmhpnkpjgefaaDoor.Con

namespace Go.Proofs.YtapmhpnkpjgefaaDoor.Con
open Subj (TakerP)
open Sto (tk seekR)
open Rec (Rc far)

/-- Where the next one is sought behind j of them. -/
def placeQ (p0 : Int) (G : List Rc) : Nat → Int
  | 0 => p0
  | j + 1 => match G[j]? with
    | some x => x.seq + 1
    | none => p0

theorem placeQ_step {p0 : Int} {G : List Rc} {j : Nat} {x : Rc} (h : G[j]? = some x) : placeQ p0 G (j + 1) = x.seq + 1 := by
  show (match G[j]? with | some x => x.seq + 1 | none => p0) = _
  rw [h]

theorem filter_behind {G : List Rc} (hr : G.Pairwise fun a b => a.seq < b.seq) {j : Nat} {x : Rc} (h : G[j]? = some x) : G.filter (fun y => decide (x.seq + 1 ≤ y.seq)) = G.drop (j + 1) := by
  obtain ⟨hj, e⟩ := List.getElem?_eq_some_iff.1 h
  have hG : G = G.take j ++ x :: G.drop (j + 1) := by rw [← e, ← List.drop_eq_getElem_cons hj, List.take_append_drop]
  conv => lhs; rw [hG]
  rw [hG, List.pairwise_append, List.pairwise_cons] at hr
  rw [List.filter_append, List.filter_cons_of_neg (by simp; omega), List.filter_eq_nil_iff.2 (fun y hy => by
    have := hr.2.2 y hy x (by simp)
    simp; omega), List.nil_append, List.filter_eq_self.2 (fun y hy => by
    have := hr.2.1.1 y hy
    simp; omega)]

theorem find_want {t : TakerP} {L G : List Rc} {p0 : Int} (hr : L.Pairwise fun a b => a.seq < b.seq) (hG : L.filter (want t p0) = G) {j : Nat} (hj : j ≤ G.length) : L.find? (want t (placeQ p0 G j)) = G[j]? := by
  rw [← List.head?_filter]
  cases j with
  | zero => rw [show placeQ p0 G 0 = p0 from rfl, hG, List.head?_eq_getElem?]
  | succ j =>
    obtain ⟨x, hx⟩ : ∃ x, G[j]? = some x := ⟨_, List.getElem?_eq_getElem (by omega)⟩
    have hgr : G.Pairwise fun a b => a.seq < b.seq := by rw [← hG]; exact hr.sublist List.filter_sublist
    have hxp : p0 ≤ x.seq := by
      have hm := List.mem_of_getElem? hx
      rw [← hG] at hm
      have := (List.mem_filter.1 hm).2
      unfold want at this
      rw [Bool.and_eq_true, decide_eq_true_eq] at this
      exact this.1
    rw [placeQ_step hx]
    have e : L.filter (want t (x.seq + 1)) = G.filter (fun y => decide (x.seq + 1 ≤ y.seq)) := by
      rw [← hG, List.filter_filter]
      refine List.filter_congr fun y _ => ?_
      unfold want
      by_cases h1 : x.seq + 1 ≤ y.seq
      · rw [decide_eq_true h1, decide_eq_true (show p0 ≤ y.seq by omega)]; simp
      · rw [decide_eq_false h1]; simp
    rw [e, filter_behind hgr hx, List.head?_drop]

theorem left_len (t : TakerP) (L : List Rc) (p : Int) : leftC t L p = (L.filter (want t p)).length := List.countP_eq_length_filter

theorem placeQ_range {p0 : Int} {G : List Rc} (h0 : 0 ≤ p0 ∧ p0 ≤ far + 1) (h : ∀ r ∈ G, 1 ≤ r.seq ∧ r.seq ≤ far) (j : Nat) : 0 ≤ placeQ p0 G j ∧ placeQ p0 G j ≤ far + 1 := by
  cases j with
  | zero => exact h0
  | succ j =>
    cases hx : G[j]? with
    | none => show 0 ≤ (match G[j]? with | some x => x.seq + 1 | none => p0) ∧ (match G[j]? with | some x => x.seq + 1 | none => p0) ≤ far + 1
              rw [hx]; exact h0
    | some x => rw [placeQ_step hx]; have := h x (List.mem_of_getElem? hx); omega

theorem seek_want {t : TakerP} {L : List Rc} {q : Int} {i : Nat} (h1 : ∀ r ∈ L.take i, r.seq < q) (h2 : ∀ r ∈ L.drop i, q ≤ r.seq) : (L.drop i).find? (tk t.filt) = L.find? (want t q) := by
  conv => rhs; rw [← List.take_append_drop i L]
  rw [List.find?_append]
  have e1 : (L.take i).find? (want t q) = none := by
    rw [List.find?_eq_none]
    intro x hx
    have := h1 x hx
    unfold want
    rw [decide_eq_false (by omega)]
    simp
  rw [e1, Option.none_or]
  have : ∀ M : List Rc, (∀ r ∈ M, q ≤ r.seq) → M.find? (tk t.filt) = M.find? (want t q) := by
    intro M
    induction M with
    | nil => intro _; rfl
    | cons a l ih =>
      intro hM
      rw [List.find?_cons, List.find?_cons, ih fun r hr => hM r (by simp [hr])]
      have : want t q a = tk t.filt a := by unfold want; rw [decide_eq_true (hM a (by simp)), Bool.true_and]
      rw [this]
  exact this _ h2
end Go.Proofs.YtapmhpnkpjgefaaDoor.Con

namespace Go.Proofs.YtapmhpnkpjgefaaDoor.Con
open Go.RowKit Heap
open Subj (Tok TakerP ML errT errT_facts)
open Sto (StoreAt Right seekR tk recV next_any parts sixC Parts below6 set6)
open Rec (Rc far)

/-- A delivery as a value. -/
def delV (d : Dl) : Value := .agg #[.int .i64 d.seq, .string ⟨d.subj.toArray⟩, .string ⟨d.data.toArray⟩, .int .i64 d.count, .int .i64 d.nth, .int .i64 d.left]

theorem str_of (l : List UInt8) : (⟨l.toArray⟩ : ByteArray).data.toList = l := by simp

abbrev tc : TypeId := 63
abbrev tp : TypeId := 70

section
variable {W w : World} {F : Nat → Prop} {D B K k : Nat} {L : List Rc} {last : Int} {t : TakerP} {vb v : Value} {c : Cn}

theorem filt_len (ht : errT t = 0) : t.filt.length ≤ 135 := Rec.err_len (errT_facts ht).2.1

/-- The store's Next, asked with a consumer's filter. -/
theorem next_want (hA : StoreAt W F D B L last w) (hm : ML W) (ht : errT t = 0) (q : Int) (hq : 0 ≤ q ∧ q ≤ far + 1) :
    Calls Tryd.prog 20 #[.pointer (some ⟨D, 0, none⟩), .string ⟨t.filt.toArray⟩, .int .i64 q] w fun e w' => e = .returned (.tuple #[recV (seekR 0 (L.find? (want t q))).1, .int .i64 ((seekR 0 (L.find? (want t q))).2 : Nat)]) ∧ Below w.heap.size w w' := by
  have hf := filt_len ht
  have hfar : far = 1099511627776 := rfl
  refine (next_any hA hm ⟨t.filt.toArray⟩ (by show t.filt.toArray.size ≤ _; simp; omega) q (by omega)).mono ?_
  rintro e w' ⟨i, h1, h2, rfl, hb⟩
  refine ⟨?_, hb⟩
  rw [str_of, (errT_facts ht).2.1, seek_want h1 h2]

set_option maxHeartbeats 2000000 in
set_option maxRecDepth 100000 in
theorem left_c (h : CAt tc tp W K t vb v c w) (hk : 1 ≤ c.place ∧ c.place ≤ far + 1) (hA : StoreAt W F D B L last w) (hm : ML W) (ht : errT t = 0) :
    Calls Tryd.prog 41 #[.pointer (some ⟨K, 0, none⟩), .pointer (some ⟨D, 0, none⟩)] w fun e w' => e = .returned (.int .i64 (leftC t L c.place : Nat)) ∧ Below w.heap.size w w' := by
  obtain ⟨I, hR⟩ := hA.right
  obtain ⟨G, hG⟩ : ∃ G, L.filter (want t c.place) = G := ⟨_, rfl⟩
  have hgl : leftC t L c.place = G.length := by rw [left_len, hG]
  rw [hgl]
  have hg200 : G.length ≤ 200 := by rw [← hG]; exact Nat.le_trans (List.length_filter_le _ _) hR.few
  have hgs : ∀ r ∈ G, 1 ≤ r.seq ∧ r.seq ≤ far := fun r hr => by
    rw [← hG] at hr
    exact seq_pos hR r (List.mem_filter.1 hr).1
  obtain ⟨fb, hfb⟩ : ∃ fb : ByteArray, (⟨t.filt.toArray⟩ : ByteArray) = fb := ⟨_, rfl⟩
  have hnw := fun w' (hb : Below w.heap.size w w') q hq => next_want (hA.next hb) hm ht q hq
  have hcl := fun w' (hb : Below w.heap.size w w') => (h.next hb).cells
  have hlt := heap_lt h.cell
  rw [hfb] at hnw hcl
  obtain ⟨_, c1, _, _, _, _, _, _, _, _, c10, _, _, _⟩ := hcl w (Below.refl _ _)
  have hfar : far = 1099511627776 := rfl
  have hpr := fun j => placeQ_range (p0 := c.place) (G := G) (by omega) hgs j
  have hfw := fun j hj => find_want hR.rise hG (j := j) hj
  have HNW := Lib.hid hnw; have HCL := Lib.hid hcl; have HPR := Lib.hid hpr; have HFW := Lib.hid hfw; have HGS := Lib.hid hgs
  obtain ⟨p0, hp0⟩ : ∃ p0, c.place = p0 := ⟨_, rfl⟩
  rw [hp0] at c10 HCL HPR HFW
  clear h hA hR hG hgl hgs hfb hnw hcl hpr hfw hp0 hk hm ht
  go_enter Tryd.func41, Tryd.ntmps41
  go_wp2_with fail
  go_loopw [5, 6] (fun n at_ wr => ∃ j : Nat, j ≤ G.length ∧ n = .int .i64 j ∧ at_ = .int .i64 (placeQ p0 G j) ∧ Hid (Below w.heap.size w wr)) (fun n _ _ => G.length - (intOf n).toNat)
  case atStart => exact ⟨0, Nat.zero_le _, rfl, rfl, Lib.hid (Below.refl _ _)⟩
  case round =>
    obtain ⟨j, hj, rfl, rfl, HB⟩ := hrel
    clear c1 c10
    obtain ⟨_, c1, _, _, _, _, _, _, _, _, c10, _, _, _⟩ := HCL.out wr HB.out
    have hltr : K < wr.heap.size := Nat.lt_of_lt_of_le hlt HB.out.size
    have hnx := HNW.out wr HB.out (placeQ p0 G j) (HPR.out j)
    rw [HFW.out j hj] at hnx
    have hnr := HPR.out j
    obtain ⟨q, hq⟩ : ∃ q, placeQ p0 G j = q := ⟨_, rfl⟩
    rw [hq] at hnx hnr
    rw [hq]
    have HQ := Lib.hid hq
    clear hq
    by_cases hjl : j < G.length
    · obtain ⟨x, hx⟩ : ∃ x, G[j]? = some x := ⟨_, List.getElem?_eq_getElem hjl⟩
      have hst := placeQ_step (p0 := p0) hx
      have hxs := HGS.out x (List.mem_of_getElem? hx)
      obtain ⟨s, hd, d, hp⟩ := parts x
      rw [hx, show seekR 0 (some x) = (x, 0) from rfl] at hnx
      simp only [recV] at hnx
      rw [hp.s1, hp.h1, hp.d1] at hnx
      have HNX := Lib.hid hnx; have HST := Lib.hid hst
      have hw1 : IntKind.i64.wrap (x.seq + 1) = x.seq + 1 := IntWalk.i64_in _ (by omega)
      have hjb : (j : Int) ≤ 200 := by omega
      clear hnx hx hp hst
      go_wp2_with fail
      refine HNX.out.mono ?_
      rintro e w1 ⟨rfl, h1⟩
      have HB1 := Lib.hid (HB.out.trans (h1.mono HB.out.size))
      obtain ⟨w2, hw2⟩ : ∃ w2, w2 = w1.alloc (.cells #[.int .i64 x.kind, .int .i64 x.seq, .int .i64 x.time, .string s, .string hd, .string d] 42) := ⟨_, rfl⟩
      have hb2 : Below w1.heap.size w1 w2 := by rw [hw2]; exact (Below.refl _ _).alloc (Nat.le_refl _) _
      have he2 : w2.heap[w1.heap.size]? = some (.cells #[.int .i64 x.kind, .int .i64 x.seq, .int .i64 x.time, .string s, .string hd, .string d] 42 (0, 0)) := by rw [hw2]; exact heap_alloc_new w1 _
      obtain ⟨bx, hbx⟩ : ∃ bx, w1.heap.size = bx := ⟨_, rfl⟩
      rw [hbx] at he2
      have HB2 := Lib.hid (HB1.out.trans (hb2.mono HB1.out.size)); have HBX := Lib.hid hbx
      obtain ⟨q0, q1, q2, q3, q4, q5⟩ := sixC he2
      have hbl := heap_lt he2
      clear h1 hb2 he2 hbx HB HB1 HNX c1 c10
      go_upto_region 5 with fail
      rw [← hw2, HBX.out]
      clear hw2
      go_wp2_with fail
      exact ⟨⟨j + 1, by omega, by go_num, by rw [HST.out], HB2⟩, by simp [intOf]; omega⟩
    · obtain rfl : j = G.length := by omega
      rw [List.getElem?_eq_none_iff.2 (Nat.le_refl _), show seekR 0 (none : Option Rc) = (Rc.zero, 4) from rfl] at hnx
      simp only [recV] at hnx
      have HNX := Lib.hid hnx
      clear hnx
      go_wp2_with fail
      refine HNX.out.mono ?_
      rintro e w1 ⟨rfl, h1⟩
      have HB1 := Lib.hid ((HB.out.trans (h1.mono HB.out.size)).alloc (Nat.le_trans HB.out.size h1.size) (.cells #[.int .i64 0, .int .i64 0, .int .i64 0, .string ⟨#[]⟩, .string ⟨#[]⟩, .string ⟨#[]⟩] 42))
      clear h1 HNX HB
      go_wp2_with fail
      go_ret
      exact ⟨rfl, HB1.out⟩

/-- A consumer and a store side by side. -/
structure PairAt (W : World) (F : Nat → Prop) (D B : Nat) (L : List Rc) (last : Int) (K : Nat) (t : TakerP) (vb v : Value) (c : Cn) (w : World) : Prop where
  st : StoreAt W F D B L last w
  con : CAt tc tp W K t vb v c w
  fK : ¬ F K
  fv : ∀ k, own v k → ¬ F k
  fb : ∀ k, own vb k → ¬ F k

variable {w1 : World} {L' : List Rc} {last' : Int} {B' : Nat} {c' : Cn}

theorem PairAt.next (h : PairAt W F D B L last K t vb v c w) (hb : Below w.heap.size w w1) : PairAt W F D B L last K t vb v c w1 := ⟨h.st.next hb, h.con.next hb, h.fK, h.fv, h.fb⟩

theorem PairAt.of (h : PairAt W F D B L last K t vb v c w) {v' : Value} (hc : CAt tc tp W K t vb v' c' w1) (ht : Heap.Touch (fun k => k = K ∨ own v k) w w1) (ho : ∀ k, own v' k → own v k ∨ w.heap.size ≤ k) : PairAt W F D B L last K t vb v' c' w1 := by
  refine ⟨h.st.kept hc.below ht.size fun k hk hlt => ht.block k hlt fun e => ?_, hc, h.fK, fun k hk hF => ?_, h.fb⟩
  · rcases e with rfl | e
    · exact h.fK hk
    · exact h.fv k e hk
  · rcases ho k hk with e | e
    · exact h.fv k e hF
    · have := h.st.bF k hF; omega

theorem PairAt.turn (h : PairAt W F D B L last K t vb v c w) (hn : NextC tc tp W K t vb v w c' w1) : ∃ v', PairAt W F D B L last K t vb v' c' w1 ∧ ∀ k, own v' k → own v k ∨ w.heap.size ≤ k := by
  obtain ⟨v', hC, ht, ho⟩ := hn
  exact ⟨v', h.of hC ht ho, ho⟩

theorem PairAt.store (h : PairAt W F D B L last K t vb v c w) (hn : Sto.NextSt W F D B' w L' last' w1) : ∃ F', PairAt W F' D B' L' last' K t vb v c w1 ∧ ∀ k, F' k → F k ∨ w.heap.size ≤ k := by
  obtain ⟨⟨F', hS, hF⟩, ht⟩ := hn
  refine ⟨F', ⟨hS, h.con.touch ht h.st.newF h.fK h.fv h.fb, fun hk => ?_, fun k hk hk2 => ?_, fun k hk hk2 => ?_⟩, hF⟩
  · rcases hF K hk with e | e
    · exact h.fK e
    · have := heap_lt h.con.cell; omega
  · rcases hF k hk2 with e | e
    · exact h.fv k hk e
    · have := h.con.row.lt k hk; omega
  · rcases hF k hk2 with e | e
    · exact h.fb k hk e
    · have := (h.con.fb k hk).1; omega

theorem PairAt.below (h : PairAt W F D B L last K t vb v c w) : Below W.heap.size W w := h.con.below

/-- Another count, another place. -/
theorem CAt.set (h : CAt tc tp W K t vb v c w) {j : Nat} {u : Value} (hc : (conC t vb v c).setIfInBounds j u = conC t vb v c') (hl : c'.l = c.l) : CAt tc tp W K t vb v c' (w.setCell ⟨K, j, none⟩ u) ∧ Heap.Touch (fun k => k = K ∨ own v k) w (w.setCell ⟨K, j, none⟩ u) := by
  have ht : Heap.Touch (fun k => k = K ∨ own v k) w (w.setCell ⟨K, j, none⟩ u) := (touch_K w K j u).mono fun k _ e => .inl e
  refine ⟨h.put ht ?_ ?_ (fun k hk => .inl hk) h.ne, ht⟩
  · rw [← hc]; exact heap_setCell_same _ _ _ _ _ _ h.cell
  · rw [hl]; exact h.row.kept fun k hk hlt => (touch_K w K j u).block k hlt (h.ne k hk)

theorem CAt.setCount (h : CAt tc tp W K t vb v c w) (n : Int) : CAt tc tp W K t vb v ⟨c.place, n, c.l⟩ (w.setCell ⟨K, 11, none⟩ (.int .i64 n)) ∧ Heap.Touch (fun k => k = K ∨ own v k) w (w.setCell ⟨K, 11, none⟩ (.int .i64 n)) :=
  h.set (c' := ⟨c.place, n, c.l⟩) (by simp [conC]) rfl
theorem CAt.setPlace (h : CAt tc tp W K t vb v c w) (n : Int) : CAt tc tp W K t vb v ⟨n, c.count, c.l⟩ (w.setCell ⟨K, 10, none⟩ (.int .i64 n)) ∧ Heap.Touch (fun k => k = K ∨ own v k) w (w.setCell ⟨K, 10, none⟩ (.int .i64 n)) :=
  h.set (c' := ⟨n, c.count, c.l⟩) (by simp [conC]) rfl

theorem touch_set6 {F : Nat → Prop} {a w : World} {R : Nat} (h : Heap.Touch F a w) (hR : F R ∨ a.heap.size ≤ R) (a0 a1 a2 a3 a4 a5 : Value) : Heap.Touch F a ((((((w.setCell ⟨R, 0, none⟩ a0).setCell ⟨R, 1, none⟩ a1).setCell ⟨R, 2, none⟩ a2).setCell ⟨R, 3, none⟩ a3).setCell ⟨R, 4, none⟩ a4).setCell ⟨R, 5, none⟩ a5) :=
  (((((h.setCell (p := ⟨R, 0, none⟩) hR _).setCell (p := ⟨R, 1, none⟩) hR _).setCell (p := ⟨R, 2, none⟩) hR _).setCell (p := ⟨R, 3, none⟩) hR _).setCell (p := ⟨R, 4, none⟩) hR _).setCell (p := ⟨R, 5, none⟩) hR _

theorem heap_set6 (w : World) {R k : Nat} (h : k ≠ R) (a0 a1 a2 a3 a4 a5 : Value) : ((((((w.setCell ⟨R, 0, none⟩ a0).setCell ⟨R, 1, none⟩ a1).setCell ⟨R, 2, none⟩ a2).setCell ⟨R, 3, none⟩ a3).setCell ⟨R, 4, none⟩ a4).setCell ⟨R, 5, none⟩ a5).heap[k]? = w.heap[k]? := by
  rw [heap_setCell_other _ _ _ _ h, heap_setCell_other _ _ _ _ h, heap_setCell_other _ _ _ _ h, heap_setCell_other _ _ _ _ h, heap_setCell_other _ _ _ _ h, heap_setCell_other _ _ _ _ h]

theorem res_del {fn : Func} (R8 : Nat) (hf : fn.results = #[.cell R8 49]) (tmps : Array Value) (w : World) (R : Nat) {a0 a1 a2 a3 a4 a5 : Value}
    (h2 : tmps.getD R8 undef = .pointer (some ⟨R, 0, none⟩)) (hR : w.heap[R]? = some (.cells #[a0, a1, a2, a3, a4, a5] 49 (0, 0))) :
    (results fn tmps).run Tryd.prog w = .ok (.agg #[a0, a1, a2, a3, a4, a5]) w := by
  obtain ⟨z0, z1, z2, z3, z4, z5⟩ := sixC hR
  simp only [Array.getD_eq_getD_getElem?] at h2
  simp [results, hf, go_sem, h2, z0, z1, z2, z3, z4, z5]

set_option maxHeartbeats 2000000 in
set_option maxRecDepth 100000 in
theorem told_c (h : PairAt W F D B L last K t vb v c w) (hk : 1 ≤ c.place ∧ c.place ≤ far + 1) (hn : 0 ≤ c.count ∧ c.count ≤ 1000000000) (hm : ML W) (ht : errT t = 0) (x : Rc) (nth : Int) :
    Calls Tryd.prog 22 #[.pointer (some ⟨K, 0, none⟩), .pointer (some ⟨D, 0, none⟩), Sto.recV x, .int .i64 nth] w fun e w' => e = .returned (delV (tellP t L c x nth).2) ∧ CAt tc tp W K t vb v (tellP t L c x nth).1 w' ∧ Heap.Touch (fun k => k = K) w w' := by
  obtain ⟨s, hd, d, hp⟩ := parts x
  unfold tellP delV Sto.recV
  rw [hp.s1, hp.h1, hp.d1]
  simp only
  obtain ⟨w1, hw1⟩ : ∃ w1, w1 = w.alloc (.cells #[.int .i64 x.kind, .int .i64 x.seq, .int .i64 x.time, .string s, .string hd, .string d] 42) := ⟨_, rfl⟩
  have hb1 : Below w.heap.size w w1 := by rw [hw1]; exact (Below.refl _ _).alloc (Nat.le_refl _) _
  have he1 : w1.heap[w.heap.size]? = some (.cells #[.int .i64 x.kind, .int .i64 x.seq, .int .i64 x.time, .string s, .string hd, .string d] 42 (0, 0)) := by rw [hw1]; exact heap_alloc_new w _
  obtain ⟨bx, hbx⟩ : ∃ bx, w.heap.size = bx := ⟨_, rfl⟩
  obtain ⟨w2, hw2⟩ : ∃ w2, w2 = w1.alloc (.cells #[.int .i64 0, .string ⟨#[]⟩, .string ⟨#[]⟩, .int .i64 0, .int .i64 0, .int .i64 0] 49) := ⟨_, rfl⟩
  have hb2 : Below w1.heap.size w1 w2 := by rw [hw2]; exact (Below.refl _ _).alloc (Nat.le_refl _) _
  have he2 : w2.heap[w1.heap.size]? = some (.cells #[.int .i64 0, .string ⟨#[]⟩, .string ⟨#[]⟩, .int .i64 0, .int .i64 0, .int .i64 0] 49 (0, 0)) := by rw [hw2]; exact heap_alloc_new w1 _
  obtain ⟨rb, hrb⟩ : ∃ rb, w1.heap.size = rb := ⟨_, rfl⟩
  have hbw := hb1.trans (hb2.mono hb1.size)
  have h2 := h.next hbw
  have he1' := (hb2.block w.heap.size (heap_lt he1)).trans he1
  rw [hbx] at he1'
  rw [hrb] at he2
  have hKl := heap_lt h.con.cell
  have hlr : bx < rb ∧ K < bx := by have := heap_lt he1; omega
  have h3 := h2.con.setCount (c.count + 1)
  have hp3 : PairAt W F D B L last K t vb v ⟨c.place, c.count + 1, c.l⟩ (w2.setCell ⟨K, 11, none⟩ (.int .i64 (c.count + 1))) := h2.of h3.1 h3.2 fun k hk => .inl hk
  have he13 : (w2.setCell ⟨K, 11, none⟩ (.int .i64 (c.count + 1))).heap[bx]? = _ := (heap_setCell_other _ _ _ _ (show bx ≠ K by omega)).trans he1'
  have he23 : (w2.setCell ⟨K, 11, none⟩ (.int .i64 (c.count + 1))).heap[rb]? = _ := (heap_setCell_other _ _ _ _ (show rb ≠ K by omega)).trans he2
  have ht3 : Heap.Touch (fun k => k = K) w (w2.setCell ⟨K, 11, none⟩ (.int .i64 (c.count + 1))) := (Heap.Touch.ofBelow hbw).after (touch_K w2 K 11 _)
  obtain ⟨w3, hw3⟩ : ∃ w3, w3 = w2.setCell ⟨K, 11, none⟩ (.int .i64 (c.count + 1)) := ⟨_, rfl⟩
  rw [← hw3] at hp3 he13 he23 ht3
  have hlf := fun w' (hb : Below w3.heap.size w3 w') => left_c (hp3.next hb).con hk (hp3.next hb).st hm ht
  obtain ⟨lf, hlfe⟩ : ∃ lf, leftC t L c.place = lf := ⟨_, rfl⟩
  simp only [hlfe] at hlf
  rw [hlfe]
  have c11 := h2.con.cells.2.2.2.2.2.2.2.2.2.2.2.1
  have cf := h2.con.cells.2.2.2.2.2.2.2.2.2.2.2.2.2
  have d11 := hp3.con.cells.2.2.2.2.2.2.2.2.2.2.2.1
  have hKl2 := heap_lt h2.con.cell
  obtain ⟨q0, q1, q2, q3, q4, q5⟩ := sixC he13
  have hw : IntKind.i64.wrap (c.count + 1) = c.count + 1 := IntWalk.i64_in _ (by omega)
  have HRC := Lib.hid (show bx + 1 = rb by rw [← hrb, ← hbx, hw1]; simp)
  have HN0 := Lib.hid (show W.heap.size ≤ w.heap.size ∧ (∀ k, own v k → k < w.heap.size) ∧ ∀ k, own vb k → k < w.heap.size from ⟨h.con.below.size, fun k hk => h.con.row.lt k hk, fun k hk => (h.con.fb k hk).1⟩)
  have HLF := Lib.hid hlf; have HP3 := Lib.hid hp3; have HT3 := Lib.hid ht3; have HE1 := Lib.hid he13; have HE2 := Lib.hid he23; have HBX := Lib.hid hbx; have HRB := Lib.hid hrb
  clear h hb1 he1 hb2 he2 hbw h2 he1' h3 hp3 he13 he23 ht3 hlf hlfe hbx hrb hm ht hp
  go_enter Tryd.func22, Tryd.ntmps22
  go_upto_region 1 with fail
  rw [← hw1, ← hw2, HBX.out, HRC.out]
  clear hw1 hw2
  go_upto_region 2 with fail
  rw [← hw3]
  clear hw3 c11 cf hKl2
  go_region_held3 (fun w' => w'.cell? ⟨bx, 1, none⟩ = some (.int .i64 x.seq) ∧ w'.cell? ⟨bx, 3, none⟩ = some (.string s) ∧ w'.cell? ⟨bx, 5, none⟩ = some (.string d) ∧ w'.cell? ⟨K, 11, none⟩ = some (.int .i64 (c.count + 1))) (first | (with_reducible exact ⟨q1, q3, q5, d11⟩) | (with_reducible exact ⟨z1, z3, z5, zK⟩) | (with_reducible assumption) | go_keep)
    ((go_at_call 41; ((refine (HLF.out _ (Below.refl _ _).drew).mono ?_); rintro e w4 ⟨rfl, h4⟩; have hb4 : Below w3.heap.size w3 w4 := (Below.refl _ _).drew.trans h4; have e1 := (hb4.block bx (heap_lt HE1.out)).trans HE1.out; have e2 := (hb4.block rb (heap_lt HE2.out)).trans HE2.out; obtain ⟨q0, q1, q2, q3, q4, q5⟩ := sixC e1; obtain ⟨r0, r1, r2, r3, r4, r5⟩ := sixC e2; have rf : ∀ j, w4.frozen? ⟨rb, j, none⟩ = false := (fun j => frozen_of_row w4 rb j _ _ e2); have d11 := (HP3.out.next hb4).con.cells.2.2.2.2.2.2.2.2.2.2.2.1; have hrl := heap_lt e2; obtain ⟨z0, z1, z2, z3, z4, z5⟩ := sixC ((heap_set6 w4 (show bx ≠ rb from Nat.ne_of_lt hlr.1) (.int .i64 x.seq) (.string s) (.string d) (.int .i64 (c.count + 1)) (.int .i64 nth) (.int .i64 lf)).trans e1); have zK := (World.cell?_of_block (a := ⟨K, 11, none⟩) (heap_set6 w4 (show K ≠ rb from by omega) (.int .i64 x.seq) (.string s) (.string d) (.int .i64 (c.count + 1)) (.int .i64 nth) (.int .i64 lf))).trans d11; clear h4)))
  have hT4 := HT3.out.after (Heap.Touch.ofBelow hb4)
  have hP4 := HP3.out.next hb4
  have hbr : w.heap.size ≤ rb ∧ w.heap.size = bx ∧ bx < rb := ⟨by have := HBX.out; omega, HBX.out, hlr.1⟩
  have HFI := Lib.hid (show CAt tc tp W K t vb v ⟨c.place, c.count + 1, c.l⟩ (((((((w4.setCell ⟨rb, 0, none⟩ (.int .i64 x.seq)).setCell ⟨rb, 1, none⟩ (.string s)).setCell ⟨rb, 2, none⟩ (.string d)).setCell ⟨rb, 3, none⟩ (.int .i64 (c.count + 1))).setCell ⟨rb, 4, none⟩ (.int .i64 nth)).setCell ⟨rb, 5, none⟩ (.int .i64 lf))) ∧ Heap.Touch (fun k => k = K) w ((((((w4.setCell ⟨rb, 0, none⟩ (.int .i64 x.seq)).setCell ⟨rb, 1, none⟩ (.string s)).setCell ⟨rb, 2, none⟩ (.string d)).setCell ⟨rb, 3, none⟩ (.int .i64 (c.count + 1))).setCell ⟨rb, 4, none⟩ (.int .i64 nth)).setCell ⟨rb, 5, none⟩ (.int .i64 lf)) from by
    refine ⟨hP4.con.touch (F := fun k => k = rb) (touch_set6 (F := fun k => k = rb) (R := rb) (Heap.Touch.refl _ w4) (.inl rfl) _ _ _ _ _ _) (fun k hk => ?_) (fun e => ?_) (fun k hk e => ?_) (fun k hk e => ?_), touch_set6 hT4 (.inr hbr.1) _ _ _ _ _ _⟩
    · have := HN0.out.1; omega
    · omega
    · have := HN0.out.2.1 k hk; omega
    · have := HN0.out.2.2 k hk; omega)
  have HR6 := Lib.hid (set6 (.int .i64 x.seq) (.string s) (.string d) (.int .i64 (c.count + 1)) (.int .i64 nth) (.int .i64 lf) e2)
  clear hT4 hP4 e1 e2 hb4
  go_wp2_with fail
  refine bodyPost_ret (v := .agg #[.int .i64 x.seq, .string s, .string d, .int .i64 (c.count + 1), .int .i64 nth, .int .i64 lf]) (res_del 8 Tryd.results22 _ _ rb rfl HR6.out) rfl ?_
  exact ⟨rfl, HFI.out⟩
end
end Go.Proofs.YtapmhpnkpjgefaaDoor.Con

namespace Go.Proofs.YtapmhpnkpjgefaaDoor.Con
open Go.RowKit Heap
open Subj (Tok TakerP ML errT errT_facts)
open Sto (StoreAt Right seekR tk recV parts sixC Parts set6 getQ get_any GetPost)
open Rec (Rc far)

section
variable {W w w1 : World} {F : Nat → Prop} {D B K k : Nat} {L : List Rc} {last : Int} {t : TakerP} {vb v : Value} {c : Cn} {g off n cap i : Nat} {p : Pd}

theorem pdsV_set1 (l : List Pd) (k : Nat) (p : Pd) (h : l[k]? = some p) (a : Int) : (pdsV l).set (k * 3 + 1) (.int .i64 a) = pdsV (l.set k ⟨p.seq, a, p.due⟩) := by
  rw [← pdsV_set l k p h a p.due]
  symm
  have h1 := pdsV_at l k p h 2 (by omega)
  obtain ⟨h2, h3⟩ := List.getElem?_eq_some_iff.1 (h1.trans (show (pdC p)[2]? = some (.int .i64 p.due) from rfl))
  apply List.ext_getElem?
  intro j
  rw [List.getElem?_set]
  split
  · rename_i hj
    subst hj
    rw [List.getElem?_set_ne (by omega), List.length_set, if_pos h2, List.getElem?_eq_getElem h2, h3]
  · rfl

theorem CAt.setRow (h : CAt tc tp W K t vb (.slice (some ⟨g, off, none⟩) n cap) c w) (hn : n = c.l.length) (j : Nat) (hj : j < n * 3) (u : Value) {l : List Pd} (hl : (pdsV c.l).set j u = pdsV l) (hll : l.length = c.l.length) :
    CAt tc tp W K t vb (.slice (some ⟨g, off, none⟩) n cap) ⟨c.place, c.count, l⟩ (w.setCell ⟨g, off + j, none⟩ u) ∧ Heap.Touch (fun k => own (.slice (some ⟨g, off, none⟩) n cap) k) w (w.setCell ⟨g, off + j, none⟩ u) := by
  subst hn
  have hg : own (.slice (some ⟨g, off, none⟩) c.l.length cap) g := by simp [own, Value.ownBlock]
  have ht : Heap.Touch (fun k => own (.slice (some ⟨g, off, none⟩) c.l.length cap) k) w (w.setCell ⟨g, off + j, none⟩ u) := (Heap.Touch.refl _ w).setCell (.inl hg) _
  refine ⟨h.put (c2 := ⟨c.place, c.count, l⟩) (ht.mono fun _ _ e => .inr e) ?_ ?_ (fun k hk => .inl hk) h.ne, ht⟩
  · exact (ht.block K (heap_lt h.cell) (fun e => h.ne K e rfl)).trans h.cell
  · show Row _ tp 3 _ l.length (pdsV l)
    rw [hll, ← hl]
    exact h.row.set j hj u

theorem CAt.setNth (h : CAt tc tp W K t vb (.slice (some ⟨g, off, none⟩) n cap) c w) (hn : n = c.l.length) (hp : c.l[i]? = some p) (a : Int) :
    CAt tc tp W K t vb (.slice (some ⟨g, off, none⟩) n cap) ⟨c.place, c.count, c.l.set i ⟨p.seq, a, p.due⟩⟩ (w.setCell ⟨g, off + i * 3 + 1, none⟩ (.int .i64 a)) ∧ Heap.Touch (fun k => own (.slice (some ⟨g, off, none⟩) n cap) k) w (w.setCell ⟨g, off + i * 3 + 1, none⟩ (.int .i64 a)) := by
  have hi := (List.getElem?_eq_some_iff.1 hp).1
  have := h.setRow hn (i * 3 + 1) (by omega) (.int .i64 a) (pdsV_set1 c.l i p hp a) (by rw [List.length_set])
  rw [← Nat.add_assoc] at this
  exact this
theorem CAt.setDue (h : CAt tc tp W K t vb (.slice (some ⟨g, off, none⟩) n cap) c w) (hn : n = c.l.length) (hp : c.l[i]? = some p) (a : Int) :
    CAt tc tp W K t vb (.slice (some ⟨g, off, none⟩) n cap) ⟨c.place, c.count, c.l.set i ⟨p.seq, p.nth, a⟩⟩ (w.setCell ⟨g, off + i * 3 + 2, none⟩ (.int .i64 a)) ∧ Heap.Touch (fun k => own (.slice (some ⟨g, off, none⟩) n cap) k) w (w.setCell ⟨g, off + i * 3 + 2, none⟩ (.int .i64 a)) := by
  have hi := (List.getElem?_eq_some_iff.1 hp).1
  have := h.setRow hn (i * 3 + 2) (by omega) (.int .i64 a) (pdsV_set2 c.l i p hp a) (by rw [List.length_set])
  rw [← Nat.add_assoc] at this
  exact this

/-- The list is put anew into its cell. -/
theorem CAt.setList {v2 : Value} {l : List Pd} (h : CAt tc tp W K t vb v c w) (ht : Heap.Touch (own v) w w1) (hr : Row w1 tp 3 v2 l.length (pdsV l)) (ho : ∀ k, own v2 k → own v k ∨ w.heap.size ≤ k) :
    CAt tc tp W K t vb v2 ⟨c.place, c.count, l⟩ (w1.setCell ⟨K, 12, none⟩ v2) ∧ Heap.Touch (fun k => k = K ∨ own v k) w (w1.setCell ⟨K, 12, none⟩ v2) := by
  have hK1 := (ht.block K (heap_lt h.cell) fun e => h.ne K e rfl).trans h.cell
  have hne : ∀ k, own v2 k → k ≠ K := fun k hk e => by
    subst e
    rcases ho k hk with e | e
    · exact h.ne k e rfl
    · have := heap_lt h.cell; omega
  have htt : Heap.Touch (fun k => k = K ∨ own v k) w (w1.setCell ⟨K, 12, none⟩ v2) := (ht.mono fun _ _ e => .inr e).setCell (p := ⟨K, 12, none⟩) (.inl (.inl rfl)) _
  refine ⟨h.put (c2 := ⟨c.place, c.count, l⟩) htt ?_ ?_ ho hne, htt⟩
  · rw [heap_setCell_same _ _ _ _ _ _ hK1]
    simp [conC]
  · exact hr.kept fun k hk hlt => heap_setCell_other _ _ _ _ (hne k hk)

/-- The round of 'again'. -/
def AgS (W : World) (F : Nat → Prop) (D B : Nat) (L : List Rc) (last : Int) (K : Nat) (t : TakerP) (vb v0 : Value) (c : Cn) (_now : Int) (rb : Nat) (w : World) (A R : List Pd) (wr : World) : Prop :=
  ∃ v, PairAt W F D B L last K t vb v ⟨c.place, c.count, A ++ R⟩ wr ∧ Heap.Touch (fun k => k = K ∨ own v0 k) w wr ∧ (∀ k, own v k → own v0 k ∨ rb < k) ∧ wr.heap[rb]? = some (.cells #[.int .i64 0, .string ⟨#[]⟩, .string ⟨#[]⟩, .int .i64 0, .int .i64 0, .int .i64 0] 49 (0, 0))

def AgP (t : TakerP) (L : List Rc) (now : Int) (l A R : List Pd) : Prop := againP t L now l = (A ++ (againP t L now R).1, (againP t L now R).2) ∧ ∀ p ∈ A ++ R, p ∈ l

theorem AgP.keep {now : Int} {l A R : List Pd} (h : AgP t L now l A (p :: R)) (hd : now < p.due) : AgP t L now l (A ++ [p]) R := by
  refine ⟨?_, fun q hq => h.2 q (by simpa using hq)⟩
  rw [h.1]
  conv => lhs; unfold againP
  rw [if_pos hd]
  simp

theorem AgP.drop {now : Int} {l A R : List Pd} (h : AgP t L now l A (p :: R)) (hd : ¬ now < p.due) (hg : getQ L p.seq = none ∨ (0 < t.most ∧ t.most ≤ p.nth)) : AgP t L now l A R := by
  refine ⟨?_, fun q hq => h.2 q (by rcases List.mem_append.1 hq with h | h <;> simp [h])⟩
  rw [h.1]
  conv => lhs; unfold againP
  rw [if_neg hd]
  rcases hg with hg | hg
  · rw [hg]
  · cases getQ L p.seq with
    | none => rfl
    | some x => simp only [if_pos hg]

theorem AgP.hit {now : Int} {l A R : List Pd} {x : Rc} (h : AgP t L now l A (p :: R)) (hd : ¬ now < p.due) (hg : getQ L p.seq = some x) (hm : ¬ (0 < t.most ∧ t.most ≤ p.nth)) :
    againP t L now l = (A ++ ⟨p.seq, p.nth + 1, now + waitT t (p.nth + 1)⟩ :: R, some (⟨p.seq, p.nth + 1, now + waitT t (p.nth + 1)⟩, x)) := by
  rw [h.1]
  conv => lhs; unfold againP
  rw [if_neg hd, hg]
  simp only [if_neg hm]

theorem AgP.end_ {now : Int} {l A : List Pd} (h : AgP t L now l A []) : againP t L now l = (A, none) := by
  rw [h.1]; simp [againP]

/-- What is told of what is due. -/
def AgainPost (W : World) (K : Nat) (t : TakerP) (vb v : Value) (L : List Rc) (c : Cn) (w : World) (o : List Pd × Option (Pd × Rc)) (e : Ending) (w' : World) : Prop :=
  match o with
  | (l, some (p, x)) => e = .returned (.tuple #[delV (tellP t L ⟨c.place, c.count, l⟩ x p.nth).2, .bool true]) ∧ NextC tc tp W K t vb v w ⟨c.place, c.count + 1, l⟩ w'
  | (l, none) => e = .returned (.tuple #[delV Dl.zero, .bool false]) ∧ NextC tc tp W K t vb v w ⟨c.place, c.count, l⟩ w'

theorem res_del2 {fn : Func} (R8 T7 : Nat) (hf : fn.results = #[.cell R8 49, .tmp T7]) (tmps : Array Value) (w : World) (R : Nat) {a0 a1 a2 a3 a4 a5 b : Value}
    (h2 : tmps.getD R8 undef = .pointer (some ⟨R, 0, none⟩)) (h3 : tmps.getD T7 undef = b) (hR : w.heap[R]? = some (.cells #[a0, a1, a2, a3, a4, a5] 49 (0, 0))) :
    (results fn tmps).run Tryd.prog w = .ok (.tuple #[.agg #[a0, a1, a2, a3, a4, a5], b]) w := by
  obtain ⟨z0, z1, z2, z3, z4, z5⟩ := sixC hR
  simp only [Array.getD_eq_getD_getElem?] at h2 h3
  simp [results, hf, go_sem, h2, h3, z0, z1, z2, z3, z4, z5]
end
end Go.Proofs.YtapmhpnkpjgefaaDoor.Con
