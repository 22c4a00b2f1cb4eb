/- The first entry for which a predicate holds: slices.IndexFunc, walked (XDrawRun turned to entries). -/
import Derived.Test.YtpmffneohcbhbaaDoorIdxWalk
import Derived.Shelf.SlicesQ.Load
import Derived.Deep.LoopGhost
import Derived.Lib.SlBy
namespace Go.Proofs.YtpmffneohcbhbaaDoor.Shf
open Go.RowKit Heap Idx
open Subj (Tok ML pieces)

theorem entV_at (l : Ents) (k : Nat) (p : (Tok × Int)) (h : l[k]? = some p) (i : Nat) (hi : i < 2) : (entV l)[k * 2 + i]? = (entC p)[i]? := by
  induction l generalizing k with
  | nil => simp at h
  | cons q l ih =>
    show (entC q ++ entV l)[k * 2 + i]? = _
    cases k with
    | zero =>
      simp at h; subst h
      rw [List.getElem?_append_left (by simp [entC]; omega)]
      simp
    | succ k =>
      rw [List.getElem?_append_right (by simp [entC]; omega)]
      rw [show (k + 1) * 2 + i - (entC q).length = k * 2 + i by simp [entC]; omega]
      exact ih k (by simpa using h)

/-- A predicate on the entries of a list: what a call of it answers in every world that C holds of. -/
def Tells (l : Ents) (g : Nat) (lb : Array Value) (p : (Tok × Int) → Bool) (C : World → Prop) : Prop :=
  ∀ (W : World) (x : (Tok × Int)), x ∈ l → C W → Calls Tryd.prog g (#[.agg #[.string ⟨x.1.toArray⟩, .int .i64 x.2]] ++ lb) W fun e w' => e = .returned (.bool (p x)) ∧ Below W.heap.size W w'

def KeptBy (v : Value) (C : World → Prop) : Prop := ∀ W W', C W → Heap.Touch (own v) W W' → C W'

theorem cells_pull {w : World} {g off n cap : Nat} {l : Ents} (h : Row w 40 2 (.slice (some ⟨g, off, none⟩) n cap) n (entV l)) (k : Nat) (p : (Tok × Int)) (hp : l[k]? = some p) (hk : k < n) :
    w.cell? ⟨g, off + k * 2, none⟩ = some (.string ⟨p.1.toArray⟩) ∧ w.cell? ⟨g, off + k * 2 + 1, none⟩ = some (.int .i64 p.2) := by
  have e : ∀ i, i < 2 → w.cell? ⟨g, off + k * 2 + i, none⟩ = (entC p)[i]? := fun i hi => by
    rw [show off + k * 2 + i = off + (k * 2 + i) by omega, (h.cell (k * 2 + i) (by omega)).1, entV_at l k p hp i hi]
  exact ⟨e 0 (by omega), e 1 (by omega)⟩

theorem frozen_pull {w : World} {g off n cap : Nat} {l : Ents} (h : Row w 40 2 (.slice (some ⟨g, off, none⟩) n cap) n (entV l)) (k : Nat) (hk : k < n) :
    w.frozen? ⟨g, off + k * 2, none⟩ = false ∧ w.frozen? ⟨g, off + k * 2 + 1, none⟩ = false := by
  have e : ∀ i, i < 2 → w.frozen? ⟨g, off + k * 2 + i, none⟩ = false := fun i hi => by
    rw [show off + k * 2 + i = off + (k * 2 + i) by omega, (h.cell (k * 2 + i) (by omega)).2]
  exact ⟨e 0 (by omega), e 1 (by omega)⟩

/-- The first place where p holds, or none. -/
theorem first_cases (p : (Tok × Int) → Bool) (l : Ents) : (∀ x ∈ l, p x = false) ∨ ∃ k x, l[k]? = some x ∧ p x = true ∧ ∀ y ∈ l.take k, p y = false := by
  induction l with
  | nil => exact .inl (fun x h => by cases h)
  | cons y l ih =>
    cases hy : p y with
    | true => exact .inr ⟨0, y, rfl, hy, fun z h => by simp at h⟩
    | false =>
      rcases ih with h | ⟨k, x, hk, hx, h⟩
      · exact .inl fun z hz => by
          rcases List.mem_cons.1 hz with rfl | hz
          · exact hy
          · exact h z hz
      · exact .inr ⟨k + 1, x, by simpa using hk, hx, fun z hz => by
          rw [List.take_succ_cons] at hz
          rcases List.mem_cons.1 hz with rfl | hz
          · exact hy
          · exact h z hz⟩

set_option maxHeartbeats 2000000 in
set_option maxRecDepth 100000 in
theorem index_any (g : Nat) (lb : Array Value) (p : (Tok × Int) → Bool) (C : World → Prop) (eg : ∀ args w, (callFunc g args).run Tryd.prog w = .ok (.enter g args) w)
    (v : Value) (l : Ents) (w : World) (hrow : Row w 40 2 v l.length (entV l)) (hl : l.length ≤ 1000) (hC : C w) (hk : KeptBy v C) (hp : Tells l g lb p C)
    (r : Int) (hr : (r = -1 ∧ ∀ x ∈ l, p x = false) ∨ ∃ (k : Nat) (x : (Tok × Int)), r = (k : Int) ∧ l[k]? = some x ∧ p x = true ∧ ∀ y ∈ l.take k, p y = false) :
    Calls Tryd.prog 65 #[v, .func (.func g) #[] lb] w fun e w' => e = .returned (.int .i64 r) ∧ Below w.heap.size w w' := by
  rcases hrow.2 with ⟨rfl, h0⟩ | ⟨b, off, cap, cur, rfl, hg, _⟩
  · obtain rfl : l = [] := List.eq_nil_of_length_eq_zero h0
    have : r = -1 := by
      rcases hr with h | ⟨k, x, _, h, _⟩
      · exact h.1
      · simp at h
    subst this
    clear hrow hr hp hk
    go_enter Tryd.func65, Tryd.ntmps65
    go_wp2_with fail
    go_loopw [5, 8] (fun _ i wr => i = .int .i64 0 ∧ wr = w) (fun _ _ _ => 0)
    case atStart => exact ⟨rfl, rfl⟩
    case round =>
      obtain ⟨rfl, rfl⟩ := hrel
      go_wp2
      go_ret
      exact ⟨rfl, Below.refl _ _⟩
  · have hb : b < w.heap.size := heap_lt hg
    have HR := Lib.hid hrow; have HQ := Lib.hid hr; have HP := Lib.hid hp; have HKB := Lib.hid hk; have HCC := Lib.hid hC
    clear hrow hr hp hk hC hg
    generalize hn : l.length = n at *
    have HN := Lib.hid hn
    clear hn
    go_enter Tryd.func65, Tryd.ntmps65
    go_wp2_with fail
    go_loopw [5, 8] (fun _ i wr => ∃ k : Nat, k ≤ n ∧ i = .int .i64 k ∧ Below w.heap.size w wr ∧ Hid (∀ y ∈ l.take k, p y = false)) (fun _ i _ => n - (intOf i).toNat)
    case atStart => exact ⟨0, Nat.zero_le _, rfl, Below.refl _ _, Lib.hid fun y h => by simp at h⟩
    case round =>
      obtain ⟨k, hkn, rfl, BW, A⟩ := hrel
      have BB := Lib.hid BW
      by_cases hlt : k < n
      · have hltz : (k : Int) < (n : Int) := by omega
        have hlt' : k < l.length := by rw [HN.out]; exact hlt
        obtain ⟨x, hx⟩ : ∃ x, l[k]? = some x := ⟨l[k], List.getElem?_eq_getElem hlt'⟩
        have hrow' := HR.out.kept (w' := wr) (fun j _ hj => BW.block j hj)
        obtain ⟨c0, c1⟩ := cells_pull hrow' k x hx hlt
        have hcall := HP.out wr x (List.mem_of_getElem? hx) (HKB.out w wr HCC.out (Heap.Touch.ofBelow BW))
        have X := Lib.hid hx
        clear hrow' hx BW
        cases hq : p x with
        | true =>
          rw [hq] at hcall
          have hrk : r = (k : Int) := by
            rcases HQ.out with ⟨_, h⟩ | ⟨k', x', rfl, h1, h2, h3⟩
            · have := h x (List.mem_of_getElem? X.out)
              rw [hq] at this; cases this
            · have e : k' = k := by
                rcases Nat.lt_trichotomy k' k with hlt2 | hlt2 | hlt2
                · have := A.out x' (List.mem_of_getElem? (i := k') (by rw [List.getElem?_take, if_pos hlt2]; exact h1))
                  rw [h2] at this; cases this
                · exact hlt2
                · have := h3 x (List.mem_of_getElem? (i := k) (by rw [List.getElem?_take, if_pos hlt2]; exact X.out))
                  rw [hq] at this; cases this
              rw [e]
          subst hrk
          go_wp2_with (go_at_fn g; refine hcall.mono ?_; rintro e w' ⟨rfl, hb'⟩)
          go_ret
          exact ⟨rfl, BB.out.trans (hb'.mono BB.out.size)⟩
        | false =>
          rw [hq] at hcall
          go_wp2_with (go_at_fn g; refine hcall.mono ?_; rintro e w' ⟨rfl, hb'⟩)
          refine ⟨⟨k + 1, by omega, by go_num, BB.out.trans (hb'.mono BB.out.size), Lib.hid fun y hy => ?_⟩, by simp [intOf]; omega⟩
          obtain ⟨j, hj, rfl⟩ := List.mem_iff_getElem.1 hy
          rw [List.length_take] at hj
          rw [List.getElem_take]
          by_cases e : j = k
          · subst e
            have := X.out
            rw [List.getElem?_eq_getElem hlt'] at this
            simp at this
            rw [this]; exact hq
          · exact A.out _ (List.mem_of_getElem? (i := j) (by rw [List.getElem?_take, if_pos (by omega)]; exact List.getElem?_eq_getElem (by omega)))
      · have hltz : ¬ (k : Int) < (n : Int) := by omega
        obtain rfl : k = n := by omega
        have hrk : r = -1 := by
          rcases HQ.out with ⟨h, _⟩ | ⟨k', x', rfl, h1, h2, h3⟩
          · exact h
          · have h4 := (List.getElem?_eq_some_iff.1 h1).1
            have := A.out x' (List.mem_of_getElem? (i := k') (by rw [List.getElem?_take, if_pos (by rw [← HN.out]; exact h4)]; exact h1))
            rw [h2] at this; cases this
        subst hrk
        go_wp2
        go_ret
        exact ⟨rfl, BB.out⟩

end Go.Proofs.YtpmffneohcbhbaaDoor.Shf
