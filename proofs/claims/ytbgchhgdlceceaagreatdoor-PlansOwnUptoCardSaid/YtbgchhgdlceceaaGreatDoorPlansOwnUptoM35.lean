/- Parts of the proof, joined: (*Log).Rewrite, walked.; LogFront in plain Lean: what a log tells behind a stop.; The first entry for which a predicate holds: slices.IndexFunc, walked (XDrawRun turned to entries).; The reference's index, a list of entries, in memory: at, Get.; The reference's index: Drop. -/
import Derived.Test.YtbgchhgdlceceaaGreatDoorPlansOwnUptoM34
import Derived.Shelf.SlicesQ.Load
import Derived.Lib.SlBy
namespace Go.Proofs.YtbgchhgdlceceaaGreatDoor.Log
open Go.RowKit Heap Dsk
open Subj (ML)
open Rec (Rc recErr recA rcOf codedL ml_alloc)
open Sto (recsV RecsAt Fits parts sixC)

/-! what it computes -/
theorem getF_above {A : List FileP} {n : Int} (h : ∀ x ∈ A, x.n < n) : getF A n = none := by
  cases h2 : getF A n with
  | none => rfl
  | some p =>
    obtain ⟨e1, e2⟩ := getF_n h2
    have := h p e2
    omega

theorem insF_above : ∀ {A : List FileP} (q : FileP), (∀ x ∈ A, x.n < q.n) → insF A q = A ++ [q]
  | [], _, _ => rfl
  | a :: r, q, h => by
    have h1 := h a (by simp)
    unfold insF
    rw [if_neg (by omega), insF_above q fun x hx => h x (List.mem_cons_of_mem _ hx)]
    rfl

theorem getF_last {A : List FileP} (p : FileP) (h : ∀ x ∈ A, x.n < p.n) : getF (A ++ [p]) p.n = some p := by
  induction A with
  | nil => simp [getF]
  | cons a r ih =>
    have h1 := h a (by simp)
    simp only [List.cons_append, getF]
    rw [if_neg (by omega)]
    exact ih fun x hx => h x (List.mem_cons_of_mem _ hx)

theorem setF_last : ∀ {A : List FileP} (p q : FileP), (∀ x ∈ A, x.n < q.n) → p.n = q.n → setF (A ++ [p]) q = A ++ [q]
  | [], p, q, _, e => by simp [setF, e]
  | a :: r, p, q, h, e => by
    have h1 := h a (by simp)
    simp only [List.cons_append, setF]
    rw [if_neg (by omega), setF_last p q (fun x hx => h x (List.mem_cons_of_mem _ hx)) e]

end Go.Proofs.YtbgchhgdlceceaaGreatDoor.Log

namespace Go.Proofs.YtbgchhgdlceceaaGreatDoor.Log
open Dsk Rec

theorem textsL_cons (r : Rc) (l : List Rc) : textsL (r :: l) = codedL r ++ textsL l := rfl
theorem textsL_append (a b : List Rc) : textsL (a ++ b) = textsL a ++ textsL b := by simp [textsL]

/-- A front of some records' texts: some of the records. -/
theorem scan_front : ∀ (g : List Rc) (t : Nat), (∀ r ∈ g, recErr r = 0) → ∃ c, c ≤ g.length ∧ scan ((textsL g).take t) = (g.take c, (textsL (g.take c)).length) ∧ ∀ k, k ≤ g.length → (textsL (g.take k)).length ≤ t → k ≤ c
  | [], t, _ => ⟨0, by simp, by simp [textsL, scan_nil], fun k hk _ => by simpa using hk⟩
  | r :: g, t, h => by
    have hr := h r (by simp)
    have hl := codedL_len hr
    by_cases hlt : t < (codedL r).length
    · refine ⟨0, by simp, ?_, fun k hk hle => ?_⟩
      · rw [textsL_cons, List.take_append_of_le_length (by omega)]
        have := decL_front hr t hlt
        rw [scan_bad (by rw [this]; simp)]
        simp [textsL]
      · cases k with
        | zero => omega
        | succ k =>
          rw [List.take_succ_cons, textsL_cons, List.length_append] at hle
          omega
    · obtain ⟨c, hc, hs, hm⟩ := scan_front g (t - (codedL r).length) fun x hx => h x (List.mem_cons_of_mem _ hx)
      refine ⟨c + 1, by simp; omega, ?_, fun k hk hle => ?_⟩
      · have e : (textsL (r :: g)).take t = codedL r ++ (textsL g).take (t - (codedL r).length) := by
          rw [textsL_cons, List.take_append]
          rw [List.take_of_length_le (by omega)]
        rw [e]
        have hd := decL_coded hr ((textsL g).take (t - (codedL r).length))
        rw [scan_step (by intro e2; have := congrArg List.length e2; rw [List.length_append, List.length_nil] at this; omega) (by rw [hd]), hd]
        simp only [List.drop_left]
        rw [hs]
        simp only [List.take_succ_cons, textsL_cons, List.length_append]
      · cases k with
        | zero => omega
        | succ k =>
          rw [List.take_succ_cons, textsL_cons, List.length_append] at hle
          simp only [List.length_cons] at hk
          have := hm k (by omega) (by omega)
          omega

theorem scan_all {g : List Rc} (h : ∀ r ∈ g, recErr r = 0) : scan (textsL g) = (g, (textsL g).length) := by
  obtain ⟨c, hc, hs, hm⟩ := scan_front g (textsL g).length h
  have := hm g.length (Nat.le_refl _) (by rw [List.take_length]; exact Nat.le_refl _)
  obtain rfl : c = g.length := by omega
  rw [List.take_length, List.take_of_length_le (Nat.le_refl _)] at hs
  exact hs

/-- Blocks that are whole and sure, of these records. -/
def Good : List FileP → List Rc → Prop
  | [], l => l = []
  | p :: r, l => ∃ g gs, l = g ++ gs ∧ p.text = textsL g ∧ p.sure = p.text.length ∧ Good r gs

theorem Good.snoc {g : List Rc} {p : FileP} (hp : p.text = textsL g) (hs : p.sure = p.text.length) : ∀ {A : List FileP} {l : List Rc}, Good A l → Good (A ++ [p]) (l ++ g)
  | [], l, h => by
    have h : l = [] := h
    subst h
    exact ⟨g, [], by simp, hp, hs, rfl⟩
  | a :: r, l, ⟨g0, gs, e, h1, h2, h3⟩ => ⟨g0, gs ++ g, by rw [e, List.append_assoc], h1, h2, h3.snoc hp hs⟩

theorem Good.crash {K : Nat} : ∀ {A : List FileP} {l : List Rc}, Good A l → crashD A K = A
  | [], _, _ => rfl
  | a :: r, l, ⟨g0, gs, e, h1, h2, h3⟩ => by
    have := h3.crash (K := K)
    unfold crashD at this ⊢
    rw [List.map_cons, this]
    congr 1
    obtain ⟨n, t, s⟩ := a
    simp only at h2
    subst h2
    unfold keptF
    simp

theorem Good.open_ (q : FileP) : ∀ {A : List FileP} {l : List Rc}, Good A l → (∀ r ∈ l, recErr r = 0) → openD (A ++ [q]) = (l ++ (openD [q]).1, A ++ (openD [q]).2)
  | [], l, h, _ => by
    have h : l = [] := h
    subst h
    simp
  | a :: r, l, ⟨g0, gs, e, h1, h2, h3⟩, hr => by
    have hsc := scan_all (g := g0) fun x hx => hr x (by rw [e]; exact List.mem_append_left _ hx)
    have ih := h3.open_ q fun x hx => hr x (by rw [e]; exact List.mem_append_right _ hx)
    rw [List.cons_append]
    conv => lhs; unfold openD
    rw [h1, hsc, ih]
    simp only
    rw [if_neg (by omega), e]
    simp

/-- What always is so of the log's blocks: all that was appended, and how many of these are sure. -/
structure Inv (A : List FileP) (all : List Rc) (sure : Nat) : Prop where
  ok : ∀ r ∈ all, recErr r = 0
  parts : ∃ pre p gp gl c, A = pre ++ [p] ∧ all = gp ++ gl ∧ Good pre gp ∧ p.text = textsL gl ∧ c ≤ gl.length ∧ (textsL (gl.take c)).length ≤ p.sure ∧ sure ≤ gp.length + c

theorem Inv.start (n : Int) : Inv [⟨n, [], 0⟩] [] 0 := ⟨fun _ h => (by cases h), [], _, [], [], 0, rfl, rfl, rfl, rfl, Nat.le_refl _, by simp [textsL], Nat.le_refl _⟩

theorem Inv.add {A : List FileP} {all : List Rc} {sure : Nat} {room size : Int} {r : Rc} (h : Inv A all sure) (hs : Sorted A) :
    ((logD room size A r).2 = 0 → Inv (logD room size A r).1 (all ++ [r]) sure) ∧ ((logD room size A r).2 ≠ 0 → Inv (logD room size A r).1 all sure) := by
  unfold logD
  by_cases her : recErr r ≠ 0
  · rw [if_pos her]
    exact ⟨fun e => absurd e her, fun _ => h⟩
  · rw [if_neg her]
    have hok2 : ∀ x ∈ all ++ [r], recErr x = 0 := fun x hx => by
      rcases List.mem_append.1 hx with hx | hx
      · exact h.ok x hx
      · simp at hx; subst hx; omega
    obtain ⟨pre, p, gp, gl, c, rfl, rfl, hg, ht, hc, hcs, hsu⟩ := h.parts
    have hlt : ∀ x ∈ pre, x.n < p.n := fun x hx => by
      have := List.pairwise_append.1 hs
      exact this.2.2 x hx p (by simp)
    have hok := h.ok
    unfold putD
    rw [List.getLast?_append]
    simp only [List.getLast?_singleton, Option.some_or]
    by_cases hroll : 0 < p.text.length ∧ size < p.text.length + (codedL r).length
    · rw [if_pos hroll]
      have e : (syncD (pre ++ [p]) p.n).1 = pre ++ [⟨p.n, p.text, p.text.length⟩] := by
        unfold syncD
        rw [getF_last p hlt]
        simp only
        exact setF_last p ⟨p.n, p.text, p.text.length⟩ hlt rfl
      rw [e]
      have hlt2 : ∀ x ∈ pre ++ [(⟨p.n, p.text, p.text.length⟩ : FileP)], x.n < p.n + 1 := fun x hx => by
        rcases List.mem_append.1 hx with hx | hx
        · have := hlt x hx; omega
        · simp at hx; subst hx; simp only; omega
      have hstay : Inv (pre ++ [⟨p.n, p.text, p.text.length⟩]) (gp ++ gl) sure := ⟨hok, pre, _, gp, gl, c, rfl, rfl, hg, ht, hc, by
        simp only
        rw [ht]
        conv => rhs; rw [← List.take_append_drop c gl, textsL_append, List.length_append]
        omega, hsu⟩
      have hgrow : Inv ((pre ++ [⟨p.n, p.text, p.text.length⟩]) ++ [⟨p.n + 1, codedL r, 0⟩]) ((gp ++ gl) ++ [r]) sure :=
        ⟨hok2, _, _, gp ++ gl, [r], 0, rfl, rfl, Good.snoc (p := ⟨p.n, p.text, p.text.length⟩) ht rfl hg, by simp [textsL], by simp, by simp [textsL], by rw [List.length_append]; omega⟩
      unfold appD
      rw [getF_above hlt2]
      split
      · exact ⟨fun e => (by cases e), fun _ => hstay⟩
      · split
        · exact ⟨fun e => (by cases e), fun _ => hstay⟩
        · simp only
          split
          · exact ⟨fun e => (by cases e), fun _ => hstay⟩
          · refine ⟨fun _ => ?_, fun e => absurd rfl e⟩
            simp only
            rw [insF_above ⟨p.n + 1, codedL r, 0⟩ hlt2]
            exact hgrow
    · rw [if_neg hroll]
      unfold appD
      rw [getF_last p hlt]
      split
      · exact ⟨fun e => (by cases e), fun _ => h⟩
      · split
        · exact ⟨fun e => (by cases e), fun _ => h⟩
        · simp only
          refine ⟨fun _ => ?_, fun e => absurd rfl e⟩
          rw [setF_last p ⟨p.n, p.text ++ codedL r, p.sure⟩ hlt rfl]
          refine ⟨hok2, pre, _, gp, gl ++ [r], c, rfl, by rw [List.append_assoc], hg, by simp only; rw [ht, textsL_append]; simp [textsL], by rw [List.length_append]; omega, ?_, hsu⟩
          rw [List.take_append_of_le_length hc]
          exact hcs

/-- LogFront's law. -/
theorem Inv.front {A : List FileP} {all : List Rc} {sure : Nat} (h : Inv A all sure) (hsure : ∀ p ∈ A, p.sure ≤ p.text.length) (K : Nat) :
    ∃ m, sure ≤ m ∧ m ≤ all.length ∧ (openD (crashD A K)).1 = all.take m ∧ (openD (openD (crashD A K)).2).1 = all.take m := by
  obtain ⟨pre, p, gp, gl, c, rfl, rfl, hg, ht, hc, hcs, hsu⟩ := h.parts
  have hcr : crashD (pre ++ [p]) K = pre ++ [keptF K p] := by
    have := hg.crash (K := K)
    unfold crashD at this ⊢
    rw [List.map_append, this]
    rfl
  have hps := hsure p (by simp)
  have hokp : ∀ r ∈ gp, recErr r = 0 := fun r hr => h.ok r (List.mem_append_left _ hr)
  have hokl : ∀ r ∈ gl, recErr r = 0 := fun r hr => h.ok r (List.mem_append_right _ hr)
  obtain ⟨c2, hc2, hsc, hmx⟩ := scan_front gl (p.sure + min K (p.text.length - p.sure)) hokl
  have hle := hmx c hc (by omega)
  have hkt : (keptF K p).text = (textsL gl).take (p.sure + min K (p.text.length - p.sure)) := by unfold keptF; simp only; rw [ht]
  have ho1 : openD [keptF K p] = (gl.take c2, [⟨p.n, textsL (gl.take c2), (textsL (gl.take c2)).length⟩]) ∨ (openD [keptF K p] = (gl.take c2, [keptF K p]) ∧ scan (keptF K p).text = (gl.take c2, (textsL (gl.take c2)).length) ∧ ¬ (textsL (gl.take c2)).length < (keptF K p).text.length) := by
    rw [← hkt] at hsc
    by_cases hb : (textsL (gl.take c2)).length < (keptF K p).text.length
    · left
      unfold openD
      rw [hsc]
      simp only
      rw [if_pos hb]
      congr 1
      have e : (keptF K p).text.take (textsL (gl.take c2)).length = textsL (gl.take c2) := by
        rw [hkt, List.take_take, Nat.min_eq_left (by
          rw [hkt, List.length_take] at hb; omega)]
        conv => lhs; rw [← List.take_append_drop c2 gl, textsL_append]
        rw [List.take_append_drop]
        exact List.take_left
      rw [e]
      rfl
    · right
      refine ⟨?_, hsc, hb⟩
      unfold openD
      rw [hsc]
      simp only
      rw [if_neg hb]
      simp [openD]
  have htk : (gp ++ gl).take (gp.length + c2) = gp ++ gl.take c2 := by rw [List.take_append]; simp [List.take_of_length_le]
  refine ⟨gp.length + c2, by omega, by rw [List.length_append]; omega, ?_, ?_⟩
  · rw [hcr, hg.open_ _ hokp, htk]
    rcases ho1 with e | ⟨e, _, _⟩ <;> rw [e]
  · rw [hcr, hg.open_ _ hokp, htk]
    rcases ho1 with e | ⟨e, hs, hb⟩
    · rw [e]
      simp only
      rw [hg.open_ _ hokp]
      simp only
      have h2 := scan_all (g := gl.take c2) fun r hr => hokl r (List.mem_of_mem_take hr)
      unfold openD
      rw [h2]
      simp only
      rw [if_neg (by omega)]
      simp [openD]
    · rw [e]
      simp only
      rw [hg.open_ _ hokp, e]
end Go.Proofs.YtbgchhgdlceceaaGreatDoor.Log

namespace Go.Proofs.YtbgchhgdlceceaaGreatDoor.Shf
open Go.RowKit Heap Idx
open Subj (Tok ML pieces)

end Go.Proofs.YtbgchhgdlceceaaGreatDoor.Shf

namespace Go.Proofs.YtbgchhgdlceceaaGreatDoor.Shf
open Go.RowKit Heap Idx
open Subj (Tok ML pieces)

structure ShelfAt (W : World) (G : Nat → Prop) (E : Nat) (L : Ents) (w : World) : Prop where
  few : L.length ≤ 100
  short : ∀ e ∈ L, e.1.length ≤ 200
  below : Below W.heap.size W w
  newG : ∀ k, G k → W.heap.size ≤ k
  bG : ∀ k, G k → k < w.heap.size
  gE : G E
  mem : ∃ v, w.heap[E]? = some (.cells #[v] 275 (0, 0)) ∧ Row w 124 2 v L.length (entV L) ∧ ∀ k, own v k → G k

/-- A shelf that has come of another one. -/
def NextS (W : World) (G : Nat → Prop) (E : Nat) (w : World) (L' : Ents) (w' : World) : Prop :=
  (∃ G', ShelfAt W G' E L' w' ∧ ∀ k, G' k → G k ∨ w.heap.size ≤ k) ∧ Heap.Touch G w w'

section
variable {W w w' : World} {G : Nat → Prop} {E : Nat} {L : Ents}

theorem ShelfAt.kept (h : ShelfAt W G E L w) (hb : Below W.heap.size W w') (hsz : w.heap.size ≤ w'.heap.size) (hs : Same G w w') : ShelfAt W G E L w' := by
  obtain ⟨v, h1, h2, h3⟩ := h.mem
  exact ⟨h.few, h.short, hb, h.newG, fun k hk => Nat.lt_of_lt_of_le (h.bG k hk) hsz, h.gE, v, (hs E h.gE (heap_lt h1)).trans h1, h2.kept (fun k hk hlt => hs k (h3 k hk) hlt), h3⟩

theorem ShelfAt.next (h : ShelfAt W G E L w) (hb : Below w.heap.size w w') : ShelfAt W G E L w' :=
  h.kept (h.below.trans (hb.mono h.below.size)) hb.size fun k _ hk => hb.block k hk

theorem NextS.refl (h : ShelfAt W G E L w) (hb : Below w.heap.size w w') : NextS W G E w L w' := ⟨⟨G, h.next hb, fun _ hk => .inl hk⟩, Heap.Touch.ofBelow hb⟩

end
end Go.Proofs.YtbgchhgdlceceaaGreatDoor.Shf

namespace Go.Proofs.YtbgchhgdlceceaaGreatDoor.Shf
open Go.RowKit Heap Idx
open Subj (Tok ML pieces)

/-- Another list in the shelf's place. -/
theorem ShelfAt.put {W w w3 : World} {G : Nat → Prop} {E : Nat} {L L' : Ents} {a0 v3 : Value} (h : ShelfAt W G E L w) (hf : L'.length ≤ 100) (hs : ∀ e ∈ L', e.1.length ≤ 200) (hE : w3.heap[E]? = some (.cells #[a0] 275 (0, 0)))
    (ht : Heap.Touch G w w3) (hr : Row w3 124 2 v3 L'.length (entV L')) (ho : ∀ k, own v3 k → G k ∨ w.heap.size ≤ k) (hne : ¬ own v3 E) : NextS W G E w L' (w3.setCell ⟨E, 0, none⟩ v3) := by
  have hE4 := heap_setCell_same w3 E 0 _ _ v3 hE
  have hlt := heap_lt hE4
  have tf : Heap.Touch G w (w3.setCell ⟨E, 0, none⟩ v3) := ht.setCell (.inl h.gE) _
  refine ⟨⟨fun k => (G k ∨ w.heap.size ≤ k) ∧ k < (w3.setCell ⟨E, 0, none⟩ v3).heap.size, ⟨hf, hs, h.below.trans (tf.below h.below.size h.newG), fun k hk => ?_, fun k hk => hk.2, ⟨.inl h.gE, hlt⟩, v3, hE4, ?_, fun k hk => ⟨ho k hk, ?_⟩⟩, fun k hk => hk.1⟩, tf⟩
  · rcases hk.1 with hk | hk
    · exact h.newG k hk
    · exact Nat.le_trans h.below.size hk
  · refine hr.kept fun j hj _ => heap_setCell_other _ _ _ _ (fun e => ?_)
    exact hne (by rw [← show j = E from e]; exact hj)
  · have := hr.lt k hk
    have h2 : (w3.setCell ⟨E, 0, none⟩ v3).heap.size = w3.heap.size := by simp [World.setCell]
    rw [h2]; exact this

section
variable {W w : World} {G : Nat → Prop} {E : Nat} {A : Ents}
end
end Go.Proofs.YtbgchhgdlceceaaGreatDoor.Shf
