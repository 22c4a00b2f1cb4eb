/- Parts of the proof, joined: The reference's consumer: what its Next is walked with. -/
import Derived.Test.YthhgfdeegnimjaaGreatDoorConsumerPlaysUptoM31
import Derived.Test.YthhgfdeegnimjaaGreatDoorConsumerPlaysUptoM44
import Derived.Test.YthhgfdeegnimjaaGreatDoorConsumerPlaysUptoM46
namespace Go.Proofs.YthhgfdeegnimjaaGreatDoor.Hnd
open Go.RowKit Heap Con
open Subj (Tok TakerP ML errT errT_facts)
open Sto (ChAt Right seekR tk recV parts sixC Parts set6 getQ get_ch GetPost)
open Rec (Rc far)
open Idx (Ents)

section
variable {W w w1 : World} {C K k : Nat} {vC : Value} {L : List Rc} {last : Int} {t : TakerP} {vb v : Value} {c : Cn} {g off n cap i : Nat} {p : Pd}

theorem setRow_h (h : CAt th tq W K t vb (.slice (some ⟨g, off, none⟩) n cap) c w) (hn : n = c.l.length) (j : Nat) (hj : j < n * 3) (u : Value) {l : List Pd} (hl : (pdsV c.l).set j u = pdsV l) (hll : l.length = c.l.length) :
    CAt th tq W K t vb (.slice (some ⟨g, off, none⟩) n cap) ⟨c.place, c.count, l⟩ (w.setCell ⟨g, off + j, none⟩ u) ∧ Heap.Touch (fun k => own (.slice (some ⟨g, off, none⟩) n cap) k) w (w.setCell ⟨g, off + j, none⟩ u) := by
  subst hn
  have hg : own (.slice (some ⟨g, off, none⟩) c.l.length cap) g := by simp [own, Value.ownBlock]
  have ht : Heap.Touch (fun k => own (.slice (some ⟨g, off, none⟩) c.l.length cap) k) w (w.setCell ⟨g, off + j, none⟩ u) := (Heap.Touch.refl _ w).setCell (.inl hg) _
  refine ⟨h.put (c2 := ⟨c.place, c.count, l⟩) (ht.mono fun _ _ e => .inr e) ?_ ?_ (fun k hk => .inl hk) h.ne, ht⟩
  · exact (ht.block K (heap_lt h.cell) (fun e => h.ne K e rfl)).trans h.cell
  · show Row _ tq 3 _ l.length (pdsV l)
    rw [hll, ← hl]
    exact h.row.set j hj u

theorem setNth_h (h : CAt th tq W K t vb (.slice (some ⟨g, off, none⟩) n cap) c w) (hn : n = c.l.length) (hp : c.l[i]? = some p) (a : Int) :
    CAt th tq W K t vb (.slice (some ⟨g, off, none⟩) n cap) ⟨c.place, c.count, c.l.set i ⟨p.seq, a, p.due⟩⟩ (w.setCell ⟨g, off + i * 3 + 1, none⟩ (.int .i64 a)) ∧ Heap.Touch (fun k => own (.slice (some ⟨g, off, none⟩) n cap) k) w (w.setCell ⟨g, off + i * 3 + 1, none⟩ (.int .i64 a)) := by
  have hi := (List.getElem?_eq_some_iff.1 hp).1
  have := setRow_h h hn (i * 3 + 1) (by omega) (.int .i64 a) (pdsV_set1 c.l i p hp a) (by rw [List.length_set])
  rw [← Nat.add_assoc] at this
  exact this
theorem setDue_h (h : CAt th tq W K t vb (.slice (some ⟨g, off, none⟩) n cap) c w) (hn : n = c.l.length) (hp : c.l[i]? = some p) (a : Int) :
    CAt th tq W K t vb (.slice (some ⟨g, off, none⟩) n cap) ⟨c.place, c.count, c.l.set i ⟨p.seq, p.nth, a⟩⟩ (w.setCell ⟨g, off + i * 3 + 2, none⟩ (.int .i64 a)) ∧ Heap.Touch (fun k => own (.slice (some ⟨g, off, none⟩) n cap) k) w (w.setCell ⟨g, off + i * 3 + 2, none⟩ (.int .i64 a)) := by
  have hi := (List.getElem?_eq_some_iff.1 hp).1
  have := setRow_h h hn (i * 3 + 2) (by omega) (.int .i64 a) (pdsV_set2 c.l i p hp a) (by rw [List.length_set])
  rw [← Nat.add_assoc] at this
  exact this

/-- The list is put anew into its cell. -/
theorem setList_h {v2 : Value} {l : List Pd} (h : CAt th tq W K t vb v c w) (ht : Heap.Touch (own v) w w1) (hr : Row w1 tq 3 v2 l.length (pdsV l)) (ho : ∀ k, own v2 k → own v k ∨ w.heap.size ≤ k) :
    CAt th tq W K t vb v2 ⟨c.place, c.count, l⟩ (w1.setCell ⟨K, 12, none⟩ v2) ∧ Heap.Touch (fun k => k = K ∨ own v k) w (w1.setCell ⟨K, 12, none⟩ v2) := by
  have hK1 := (ht.block K (heap_lt h.cell) fun e => h.ne K e rfl).trans h.cell
  have hne : ∀ k, own v2 k → k ≠ K := fun k hk e => by
    subst e
    rcases ho k hk with e | e
    · exact h.ne k e rfl
    · have := heap_lt h.cell; omega
  have htt : Heap.Touch (fun k => k = K ∨ own v k) w (w1.setCell ⟨K, 12, none⟩ v2) := (ht.mono fun _ _ e => .inr e).setCell (p := ⟨K, 12, none⟩) (.inl (.inl rfl)) _
  refine ⟨h.put (c2 := ⟨c.place, c.count, l⟩) htt ?_ ?_ ho hne, htt⟩
  · rw [heap_setCell_same _ _ _ _ _ _ hK1]
    simp [conC]
  · exact hr.kept fun k hk hlt => heap_setCell_other _ _ _ _ (hne k hk)


end
section
variable {W w w1 : World} {C K k : Nat} {vC : Value} {L : List Rc} {last : Int} {t : TakerP} {vb v : Value} {c : Cn}

/-- The consumer's cells, a store into a block that is none of its own. -/
theorem set6_h {v : Value} (h : CAt th tq W K t vb v c w) {rb : Nat} (h0 : W.heap.size ≤ rb) (h1 : K ≠ rb) (h2 : ∀ k, own v k → k ≠ rb) (h3 : ∀ k, own vb k → k ≠ rb) (a0 a1 a2 a3 a4 a5 : Value) :
    CAt th tq W K t vb v c ((((((w.setCell ⟨rb, 0, none⟩ a0).setCell ⟨rb, 1, none⟩ a1).setCell ⟨rb, 2, none⟩ a2).setCell ⟨rb, 3, none⟩ a3).setCell ⟨rb, 4, none⟩ a4).setCell ⟨rb, 5, none⟩ a5) :=
  h.touch (F := fun k => k = rb) (touch_set6 (F := fun k => k = rb) (R := rb) (Heap.Touch.refl _ w) (.inl rfl) _ _ _ _ _ _) (fun k hk => by omega) h1 h2 h3

/-- What a consumer's Next leaves, seen from its beginning: the result's block is rb. -/
def NxH (W : World) (K : Nat) (t : TakerP) (vb v : Value) (w : World) (rb : Nat) (c' : Cn) (w' : World) : Prop :=
  ∃ v', CAt th tq W K t vb v' c' w' ∧ Heap.Touch (fun k => k = K ∨ own v k) w w' ∧ (∀ k, own v' k → own v k ∨ rb < k) ∧ ∃ a0 a1 a2 a3 a4 a5, w'.heap[rb]? = some (.cells #[a0, a1, a2, a3, a4, a5] 47 (0, 0))

def NextPostH (W : World) (K : Nat) (t : TakerP) (vb v : Value) (w : World) (o : Cn × Dl × Nat) (e : Ending) (w' : World) : Prop :=
  e = .returned (.tuple #[delV o.2.1, .int .i64 (o.2.2 : Nat)]) ∧ NextC th tq W K t vb v w o.1 w'

theorem NxH.put {rb : Nat} {c' : Cn} (h : NxH W K t vb v w rb c' w1) (hrb : w.heap.size = rb) (hW : W.heap.size ≤ w.heap.size) (hK : K < rb) (hv : ∀ k, own v k → k < rb) (hvb : ∀ k, own vb k → k < rb) (b0 b1 b2 b3 b4 b5 : Value) :
    NextC th tq W K t vb v w c' ((((((w1.setCell ⟨rb, 0, none⟩ b0).setCell ⟨rb, 1, none⟩ b1).setCell ⟨rb, 2, none⟩ b2).setCell ⟨rb, 3, none⟩ b3).setCell ⟨rb, 4, none⟩ b4).setCell ⟨rb, 5, none⟩ b5) ∧
    ((((((w1.setCell ⟨rb, 0, none⟩ b0).setCell ⟨rb, 1, none⟩ b1).setCell ⟨rb, 2, none⟩ b2).setCell ⟨rb, 3, none⟩ b3).setCell ⟨rb, 4, none⟩ b4).setCell ⟨rb, 5, none⟩ b5).heap[rb]? = some (.cells #[b0, b1, b2, b3, b4, b5] 47 (0, 0)) := by
  obtain ⟨v', hc, ht, ho, a0, a1, a2, a3, a4, a5, hr⟩ := h
  refine ⟨⟨v', set6_h hc (by omega) (by omega) (fun k hk e => ?_) (fun k hk e => ?_) _ _ _ _ _ _, touch_set6 ht (.inr (by omega)) _ _ _ _ _ _, fun k hk => (ho k hk).imp id fun h => by omega⟩, Sto.set6 _ _ _ _ _ _ hr⟩
  · rcases ho k hk with h | h
    · have := hv k h; omega
    · omega
  · have := hvb k hk; omega


theorem HPair.of {v' : Value} {c' : Cn} (h : HPair W C vC L last K t vb v c w) (h1 : CAt th tq W K t vb v' c' w1) (ht : Heap.Touch (fun k => k = K ∨ own v k) w w1) (ho : ∀ k, own v' k → own v k ∨ w.heap.size ≤ k) : HPair W C vC L last K t vb v' c' w1 := by
  have hnv : ∀ k, own v' k → k ≠ C ∧ ¬ own vC k := fun k hk => by
    rcases ho k hk with e | e
    · exact h.nv k e
    · refine ⟨fun e2 => ?_, fun e2 => ?_⟩
      · have := heap_lt h.ch.cell; omega
      · have := h.ch.row.lt k e2; omega
  refine ⟨⟨(ht.block C (heap_lt h.ch.cell) fun e => ?_).trans h.ch.cell, h.ch.row.kept fun k hk hlt => ht.block k hlt fun e => ?_, h.ch.old, h.ch.mine, h1.below⟩, h1, h.nK, hnv⟩
  · rcases e with e | e
    · exact h.nK.1 e.symm
    · exact (h.nv C e).1 rfl
  · rcases e with rfl | e
    · exact h.nK.2 hk
    · exact (h.nv k e).2 hk

/-- One pending delivery more: what is told of the worlds on the way. -/
theorem append_held {v2 : Value} {wc w6 : World} {rb bq n : Nat} {l1 : List Pd} {z0 z1 : Obj} {q d : Int} (hp : HPair W C vC L last K t vb v2 ⟨c.place, c.count, l1⟩ wc) (hn : l1.length = n) (hT : Heap.Touch (fun k => k = K ∨ own v k) w wc) (hO : ∀ k, own v2 k → own v k ∨ rb < k)
    (hR : wc.heap[rb]? = some z0) (hE : wc.heap[bq]? = some z1) (hrb : w.heap.size = rb) (hKr : K < rb) (hvr : ¬ own v rb) (hKb : K < bq) (hvb : ∀ k, own v2 k → k < bq) (hb6 : Below wc.heap.size wc w6) :
    HPair W C vC L last K t vb v2 ⟨c.place, c.count, l1⟩ (w6.alloc (.cells #[.int .i64 q, .int .i64 1, .int .i64 d] 154)) ∧ Row (w6.alloc (.cells #[.int .i64 q, .int .i64 1, .int .i64 d] 154)) tq 3 v2 n (pdsV l1) ∧
    (∀ j u, ([.int .i64 q, .int .i64 1, .int .i64 d] : List Value)[j]? = some u → (w6.alloc (.cells #[.int .i64 q, .int .i64 1, .int .i64 d] 154)).cell? ((⟨w6.heap.size, 0, none⟩ : Addr).add j) = some u) ∧
    ∀ v3 w7, Row w7 tq 3 v3 (n + 1) (pdsV l1 ++ [.int .i64 q, .int .i64 1, .int .i64 d]) → Heap.Touch (own v2) (w6.alloc (.cells #[.int .i64 q, .int .i64 1, .int .i64 d] 154)) w7 → (∀ k, own v3 k → own v2 k ∨ (w6.alloc (.cells #[.int .i64 q, .int .i64 1, .int .i64 d] 154)).heap.size ≤ k) →
      (∃ v3', HPair W C vC L last K t vb v3' ⟨c.place, c.count, l1 ++ [⟨q, 1, d⟩]⟩ (w7.setCell ⟨K, 12, none⟩ v3) ∧ Heap.Touch (fun k => k = K ∨ own v k) w (w7.setCell ⟨K, 12, none⟩ v3) ∧ (∀ k, own v3' k → own v k ∨ rb < k) ∧ (w7.setCell ⟨K, 12, none⟩ v3).heap[rb]? = some z0 ∧ (w7.setCell ⟨K, 12, none⟩ v3).heap[bq]? = some z1) ∧
      w7.cell? ⟨K, 12, none⟩ = some v2 ∧ (∀ j, w7.frozen? ⟨K, j, none⟩ = false) ∧ K < w7.heap.size := by
  have hba : Below wc.heap.size wc (w6.alloc (.cells #[.int .i64 q, .int .i64 1, .int .i64 d] 154)) := hb6.alloc hb6.size _
  have hpa := hp.next hba
  refine ⟨hpa, by have := hpa.hd.row; simp only [hn] at this; exact this, fun j u hj => ?_, fun v3 w7 r7 t7 o7 => ?_⟩
  · rw [Addr.add_lit, cell_of_row _ w6.heap.size (0 + j) _ _ _ (heap_alloc_new w6 _), Nat.zero_add]
    rcases j with _ | _ | _ | j
    · simpa using hj
    · simpa using hj
    · simpa using hj
    · simp at hj
  · have h7 := setList_h hpa.hd (l := l1 ++ [⟨q, 1, d⟩]) t7 (by rw [List.length_append, List.length_singleton, hn, pdsV_append]; exact r7) o7
    have hp7 := hpa.of h7.1 h7.2 o7
    have hK7 := (t7.block K (heap_lt hpa.hd.cell) (fun e => hpa.hd.ne K e rfl)).trans hpa.hd.cell
    have hrl := heap_lt hR
    have hel := heap_lt hE
    refine ⟨⟨v3, hp7, (hT.after (Heap.Touch.ofBelow hba)).trans h7.2 (fun k hk e => ?_), fun k hk => ?_, ?_, ?_⟩, by rw [cell_of_row w7 K 12 _ _ _ hK7]; rfl, fun j => frozen_of_row w7 K j _ _ hK7, heap_lt hK7⟩
    · rcases e with e | e
      · exact .inl e
      · rcases hO k e with e | e
        · exact .inr e
        · omega
    · rcases o7 k hk with e | e
      · exact hO k e
      · right; have := hba.size; omega
    · refine (h7.2.block rb (Nat.lt_of_lt_of_le hrl hba.size) (fun e => ?_)).trans ((hba.block rb hrl).trans hR)
      rcases e with e | e
      · omega
      · rcases hO rb e with e | e
        · exact hvr e
        · omega
    · refine (h7.2.block bq (Nat.lt_of_lt_of_le hel hba.size) (fun e => ?_)).trans ((hba.block bq hel).trans hE)
      rcases e with e | e
      · omega
      · have := hvb bq e; omega

/-- The round of the reference's Next. -/
def AgH (W : World) (C : Nat) (vC : Value) (L : List Rc) (last : Int) (K : Nat) (t : TakerP) (vb v0 : Value) (c : Cn) (rb : Nat) (w : World) (A R : List Pd) (wr : World) : Prop :=
  ∃ v, HPair W C vC L last K t vb v ⟨c.place, c.count, A ++ R⟩ wr ∧ Heap.Touch (fun k => k = K ∨ own v0 k) w wr ∧ (∀ k, own v k → own v0 k ∨ rb < k) ∧ wr.heap[rb]? = some (.cells #[.int .i64 0, .string ⟨#[]⟩, .string ⟨#[]⟩, .int .i64 0, .int .i64 0, .int .i64 0] 47 (0, 0))

/-- The round in plain Lean: a part of the list is seen. -/
def AgQ (t : TakerP) (L : List Rc) (now : Int) (l A R : List Pd) : Prop := AgP t L now l A R ∧ (A ++ R).Sublist l

theorem AgQ.keep {now : Int} {l A R : List Pd} {p : Pd} (h : AgQ t L now l A (p :: R)) (hd : now < p.due) : AgQ t L now l (A ++ [p]) R := ⟨h.1.keep hd, by simpa using h.2⟩
theorem AgQ.drop {now : Int} {l A R : List Pd} {p : Pd} (h : AgQ t L now l A (p :: R)) (hd : ¬ now < p.due) (hg : getQ L p.seq = none ∨ (0 < t.most ∧ t.most ≤ p.nth)) : AgQ t L now l A R :=
  ⟨h.1.drop hd hg, List.Sublist.trans (List.Sublist.append_left (List.sublist_cons_self _ _) _) h.2⟩
theorem AgQ.out {now : Int} {l A R : List Pd} {p : Pd} (h : AgQ t L now l A (p :: R)) (hr : l.Pairwise fun a b => a.seq < b.seq) : outL (A ++ p :: R) p.seq = A ++ R := by
  rw [outL_at (i := A.length) (hr.sublist h.2) (by rw [List.getElem?_append_right (Nat.le_refl _), Nat.sub_self]; rfl), List.eraseIdx_append_of_length_le (Nat.le_refl _), Nat.sub_self]
  rfl

theorem lenH (h : CAt th tq W K t vb v c w) : Con.lenC K w = c.l.length := by
  obtain ⟨a, cc, hv⟩ := h.row.slice
  have := h.cells.2.2.2.2.2.2.2.2.2.2.2.2.1
  unfold Con.lenC
  rw [this, hv]

theorem seek_h {I : Ents} (h : ChAt W C vC L last w) (hR : Right L last I) (ht : errT t = 0) (q : Int) :
    Calls Tryz.prog 64 #[.pointer (some ⟨C, 0, none⟩), .string ⟨t.filt.toArray⟩, .int .i64 q, .bool false] w fun e w' => e = .returned (.tuple #[recV (seekR 0 (L.find? (want t q))).1, .int .i64 ((seekR 0 (L.find? (want t q))).2 : Nat)]) ∧ Below w.heap.size w w' := by
  have hf := filt_len ht
  have h1 := Sto.seek_ch h hR ⟨t.filt.toArray⟩ (by show t.filt.toArray.size ≤ _; simp; omega) q false
  rw [str_of, (errT_facts ht).2.1] at h1
  exact h1

/-- A held one in its box. -/
theorem threeC {bx : Nat} {a0 a1 a2 : Value} {ty : TypeId} (h : w.heap[bx]? = some (.cells #[a0, a1, a2] ty (0, 0))) : w.cell? ⟨bx, 0, none⟩ = some a0 ∧ w.cell? ⟨bx, 1, none⟩ = some a1 ∧ w.cell? ⟨bx, 2, none⟩ = some a2 :=
  ⟨by rw [cell_of_row w bx 0 _ _ _ h]; rfl, by rw [cell_of_row w bx 1 _ _ _ h]; rfl, by rw [cell_of_row w bx 2 _ _ _ h]; rfl⟩
end
end Go.Proofs.YthhgfdeegnimjaaGreatDoor.Hnd
