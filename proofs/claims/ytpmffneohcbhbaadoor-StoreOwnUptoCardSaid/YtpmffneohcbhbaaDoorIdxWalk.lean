/- (*node).walk, walked by its own recursion. -/
import Derived.Test.YtpmffneohcbhbaaDoorIdxGet
import Derived.Test.YtpmffneohcbhbaaDoorShfIns
namespace Go.Proofs.YtpmffneohcbhbaaDoor.Idx
open Go.RowKit Heap
open Subj (Tok ML pieces StrsAt strAt Strs)

def entC (e : Tok × Int) : List Value := [.string ⟨e.1.toArray⟩, .int .i64 e.2]
def entV (l : Ents) : List Value := l.flatMap entC

theorem entV_len (l : Ents) : (entV l).length = l.length * 2 := by
  induction l with
  | nil => rfl
  | cons p l ih =>
    show (entC p ++ entV l).length = _
    rw [List.length_append, ih]
    simp [entC]; omega
theorem entV_append (a b : Ents) : entV (a ++ b) = entV a ++ entV b := by simp [entV]
theorem entV_one (l : Ents) : ∀ u ∈ entV l, u.oneCell' = true := by
  intro u hu
  obtain ⟨e, _, h⟩ := List.mem_flatMap.1 hu
  simp only [entC, List.mem_cons, List.not_mem_nil, or_false] at h
  rcases h with rfl | rfl <;> rfl

theorem toldL_append (a b : List (List Tok × Int)) : toldL (a ++ b) = toldL a ++ toldL b := by simp [toldL]
theorem toldL_len (a : List (List Tok × Int)) : (toldL a).length = a.length := by simp [toldL]

/-- What a walk leaves: so many entries more. -/
def WalkPost (w : World) (v : Value) (A : Ents) (e : Ending) (w' : World) : Prop :=
  ∃ v', e = .returned v' ∧ Row w' 40 2 v' A.length (entV A) ∧ Heap.Touch (own v) w w' ∧ ∀ k, own v' k → own v k ∨ w.heap.size ≤ k

/-- The slice of entries lies apart from the tree, and above W. -/
def OutOk (W : World) (M : Nat → Prop) (v : Value) : Prop := ∀ k, own v k → W.heap.size ≤ k ∧ ¬ M k

section
variable {W : World} {M : Nat → Prop} {x : Nat} {H : Hp} {vf : Nat → Value} {cnt N : Nat}

theorem IdxAt.touched {w w' : World} {v : Value} (h : IdxAt W M x H vf cnt w) (ho : OutOk W M v) (ht : Heap.Touch (own v) w w') : IdxAt W M x H vf cnt w' :=
  h.kept (h.below.trans (ht.below h.below.size fun k hk => (ho k hk).1)) ht.size (ht.same fun k hM hk => (ho k hk).2 hM)

theorem OutOk.next {w : World} {v v' : Value} (h : IdxAt W M x H vf cnt w) (ho : OutOk W M v) (hv : ∀ k, own v' k → own v k ∨ w.heap.size ≤ k) : OutOk W M v' := fun k hk => by
  rcases hv k hk with h1 | h1
  · exact ho k h1
  · exact ⟨Nat.le_trans h.below.size h1, fun hM => by have := h.bM k hM; omega⟩

theorem WalkPost.ext {w : World} {v : Value} {A B : Ents} {e : Ending} {w' : World} (h : WalkPost w v A e w') (hAB : A = B) : WalkPost w v B e w' := hAB ▸ h

/-- One call behind another. -/
theorem WalkPost.after {w w1 w' : World} {v v1 : Value} {A : Ents} {e : Ending} (ht : Heap.Touch (own v) w w1) (hv : ∀ k, own v1 k → own v k ∨ w.heap.size ≤ k) (h : WalkPost w1 v1 A e w') : WalkPost w v A e w' := by
  obtain ⟨v', rfl, h1, h2, h3⟩ := h
  refine ⟨v', rfl, h1, ht.trans h2 fun k hk hf => ?_, fun k hk => ?_⟩
  · rcases hv k hf with e | e
    · exact e
    · omega
  · rcases h3 k hk with e | e
    · exact hv k e
    · exact .inr (Nat.le_trans ht.size e)

set_option maxHeartbeats 4000000 in
set_option maxRecDepth 100000 in
/-- The filter is at its end. -/
theorem walk_nil {w : World} (hM : IdxAt W M x H vf cnt w) {b : Nat} {nd : NodeP} (hb : H b = some nd) (d : Nat) (ao : Option Addr) (cap : Nat) (v : Value) (acc : Ents) (hrow : Row w 40 2 v acc.length (entV acc)) (hlen : acc.length ≤ 1000000) :
    Calls Tryd.prog 59 #[ptrV b, .slice ao 0 cap, .string ⟨(joinT nd.path).toArray⟩, v] w (WalkPost w v (acc ++ toldL (walkP H d b []))) := by
  obtain ⟨c0, c1, c2, c3, cf⟩ := node_of (hM.node b nd hb)
  have hblt := hM.lt hb
  rw [walkP_nil hb]
  cases hh : nd.has with
  | false =>
    rw [hh] at c2
    have HF := Lib.hid (show WalkPost w v (acc ++ toldL []) (.returned v) w from ⟨v, rfl, by simpa [toldL] using hrow, Heap.Touch.refl _ _, fun k hk => .inl hk⟩)
    clear hM hb hrow hh c0 c1 c3
    go_enter Tryd.func59, Tryd.ntmps59
    go_wp2_with fail
    go_ret
    exact HF.out
  | true =>
    rw [hh] at c2
    obtain ⟨S, hS⟩ : ∃ S : ByteArray, (⟨(joinT nd.path).toArray⟩ : ByteArray) = S := ⟨_, rfl⟩
    have hel : entV (acc ++ toldL [(nd.path, nd.n)]) = entV acc ++ [.string S, .int .i64 nd.n] := by rw [entV_append, ← hS]; rfl
    rw [hS]
    have hr1 : Row (w.alloc (.cells #[.string S, .int .i64 nd.n] 40)) 40 2 v acc.length (entV acc) := hrow.kept fun k _ hk => Below.heap_alloc _ _ _ hk
    have hnews : ∀ j u, ([.string S, .int .i64 nd.n] : List Value)[j]? = some u → (w.alloc (.cells #[.string S, .int .i64 nd.n] 40)).cell? ((⟨w.heap.size, 0, none⟩ : Addr).add j) = some u := fun j u hj => by
      rw [Addr.add_lit, cell_of_row _ w.heap.size (0 + j) _ _ _ (heap_alloc_new w _), Nat.zero_add]
      rcases j with _ | _ | j
      · simpa using hj
      · simpa using hj
      · simp at hj
    have hone : ∀ u ∈ ([.string S, .int .i64 nd.n] : List Value), u.oneCell' = true := by
      intro u hu
      simp only [List.mem_cons, List.not_mem_nil, or_false] at hu
      rcases hu with rfl | rfl <;> rfl
    obtain ⟨i0, hi, hz0, hz1, hz2⟩ := info_parts Shf.Ins.info_el
    have HR := Lib.hid hr1; have HN := Lib.hid hnews; have HO := Lib.hid hone; have HEL := Lib.hid hel
    clear hM hb hrow hh c0 c1 hS hel hr1 hnews hone
    go_enter Tryd.func59, Tryd.ntmps59
    go_wp2_with (at_builtin; refine Heap.wpList_append_row _ rfl (.tmp 19) (.tmp 26) 26 rfl 40 i0 _ 2 24 Tryd.underlying26 hi hz0 hz1 hz2 rfl (by decide) _ acc.length _ rfl HR.out ⟨w.heap.size, 0, none⟩ 1 1 [.string S, .int .i64 nd.n] rfl rfl HN.out HO.out (by unfold maxLen; omega) (by omega) ?_)
    intro v2 w3 r3 t3 o3
    have HF := Lib.hid (show WalkPost w v (acc ++ toldL [(nd.path, nd.n)]) (.returned v2) w3 from ⟨v2, rfl, by rw [HEL.out, List.length_append]; exact r3, ((Heap.Touch.refl _ w).alloc _).after t3, fun k hk => by
      rcases o3 k hk with h | h
      · exact .inl h
      · exact .inr (by first | omega | (simp at h; omega))⟩)
    clear r3 t3 o3
    go_wp2
    go_ret
    exact HF.out
end
end Go.Proofs.YtpmffneohcbhbaaDoor.Idx
