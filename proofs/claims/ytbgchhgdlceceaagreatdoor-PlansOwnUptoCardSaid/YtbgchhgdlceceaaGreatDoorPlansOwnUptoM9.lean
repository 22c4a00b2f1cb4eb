/- Parts of the proof, joined: The tree of nodes in memory.; A token's place among a node's kids: slices.BinarySearchFunc, walked.; (*Index).find, walked. -/
import Derived.Test.YtbgchhgdlceceaaGreatDoorPlansOwnUptoM8
import Derived.Deep.LoopGhost
import Derived.Deep.CutRange
namespace Go.Proofs.YtbgchhgdlceceaaGreatDoor.Idx
open Go.RowKit Heap
open Subj (Tok ML pieces)

abbrev ptrV (k : Nat) : Value := .pointer (some ⟨k, 0, none⟩)
def kidsV (l : List Nat) : List Value := l.map ptrV

/-- A node's block: the root's holds the count, too. -/
def nodeO (x : Nat) (cnt : Nat) (b : Nat) (nd : NodeP) (v : Value) : Obj :=
  if b = x then .cells #[.string ⟨nd.tok.toArray⟩, v, .bool nd.has, .int .i64 nd.n, .int .i64 cnt] 222 (0, 0)
  else .cells #[.string ⟨nd.tok.toArray⟩, v, .bool nd.has, .int .i64 nd.n] 220 (0, 0)

structure IdxAt (W : World) (M : Nat → Prop) (x : Nat) (H : Hp) (vf : Nat → Value) (cnt : Nat) (w : World) : Prop where
  below : Below W.heap.size W w
  newM : ∀ k, M k → W.heap.size ≤ k
  bM : ∀ k, M k → k < w.heap.size
  node : ∀ b nd, H b = some nd → w.heap[b]? = some (nodeO x cnt b nd (vf b))
  row : ∀ b nd, H b = some nd → Row w 276 1 (vf b) nd.kids.length (kidsV nd.kids)
  mem : ∀ b nd, H b = some nd → M b ∧ ∀ k, own (vf b) k → M k
  apart : ∀ b nd c nc k, H b = some nd → H c = some nc → own (vf b) k → own (vf c) k → b = c

theorem node_cnt {x cnt : Nat} {nd : NodeP} {v : Value} {w : World} (h : w.heap[x]? = some (nodeO x cnt x nd v)) (m : Nat) : (w.setCell ⟨x, 4, none⟩ (.int .i64 m)).heap[x]? = some (nodeO x m x nd v) := by
  unfold nodeO at h ⊢
  rw [if_pos rfl] at h ⊢
  rw [heap_setCell_same _ _ _ _ _ _ h]; rfl

theorem node_cnt_ne {x cnt m b : Nat} {nd : NodeP} {v : Value} (h : b ≠ x) : nodeO x cnt b nd v = nodeO x m b nd v := by
  unfold nodeO; rw [if_neg h, if_neg h]

/-- A row of pointers is no node. -/
theorem own_ne {w : World} {x cnt b n : Nat} {nd : NodeP} {v u : Value} {xs : List Value} (h : w.heap[b]? = some (nodeO x cnt b nd v)) (hr : Row w 276 1 u n xs) : ¬ own u b := fun ho => by
  rcases hr.2 with ⟨rfl, _⟩ | ⟨g, off, cap, cur, rfl, hg, _⟩
  · simp [own, Value.ownBlock] at ho
  · simp [own, Value.ownBlock] at ho
    subst ho
    unfold nodeO at h
    rw [hg] at h
    split at h <;> simp at h

abbrev Grow (M : Nat → Prop) (w w' : World) : Nat → Prop := fun k => (M k ∨ w.heap.size ≤ k) ∧ k < w'.heap.size

def updF (vf : Nat → Value) (b : Nat) (v : Value) : Nat → Value := fun k => if k = b then v else vf k

namespace IdxAt
variable {W w w' : World} {M : Nat → Prop} {x : Nat} {H : Hp} {vf : Nat → Value} {cnt : Nat}

theorem kept (h : IdxAt W M x H vf cnt w) (hb : Below W.heap.size W w') (hsz : w.heap.size ≤ w'.heap.size) (hs : Same M w w') : IdxAt W M x H vf cnt w' := by
  refine ⟨hb, h.newM, fun k hk => Nat.lt_of_lt_of_le (h.bM k hk) hsz, fun b nd e => ?_, fun b nd e => ?_, h.mem, h.apart⟩
  · rw [hs b (h.mem b nd e).1 (h.bM _ (h.mem b nd e).1)]; exact h.node b nd e
  · exact (h.row b nd e).kept fun k hk hlt => hs k ((h.mem b nd e).2 k hk) hlt

theorem next (h : IdxAt W M x H vf cnt w) (hb : Below w.heap.size w w') : IdxAt W M x H vf cnt w' :=
  h.kept (h.below.trans (hb.mono h.below.size)) hb.size fun k _ hk => hb.block k hk

theorem lt (h : IdxAt W M x H vf cnt w) {b : Nat} {nd : NodeP} (e : H b = some nd) : b < w.heap.size := h.bM _ (h.mem b nd e).1
theorem newB (h : IdxAt W M x H vf cnt w) {b : Nat} {nd : NodeP} (e : H b = some nd) : W.heap.size ≤ b := h.newM _ (h.mem b nd e).1

theorem fresh (h : IdxAt W M x H vf cnt w) {k : Nat} (hk : w.heap.size ≤ k) : H k = none := by
  cases e : H k with
  | none => rfl
  | some nd => have := h.lt e; omega

/-- One node is turned. -/
theorem set (h : IdxAt W M x H vf cnt w) {b : Nat} {nd nd' : NodeP} {v' : Value} (hb : H b = some nd) (ht : Heap.Touch (fun k => k = b ∨ own (vf b) k) w w')
    (hn : w'.heap[b]? = some (nodeO x cnt b nd' v')) (hr : Row w' 276 1 v' nd'.kids.length (kidsV nd'.kids)) (ho : ∀ k, own v' k → own (vf b) k ∨ w.heap.size ≤ k) :
    IdxAt W (Grow M w w') x (upd H b nd') (updF vf b v') cnt w' ∧ Heap.Touch M w w' := by
  have htM : Heap.Touch M w w' := ht.mono fun k _ hk => by
    rcases hk with rfl | hk
    · exact (h.mem _ _ hb).1
    · exact (h.mem _ _ hb).2 k hk
  have other : ∀ c nc, c ≠ b → H c = some nc → w'.heap[c]? = w.heap[c]? := fun c nc hc e => ht.block c (h.lt e) (by
    rintro (e2 | e2)
    · exact hc e2
    · exact own_ne (h.node c nc e) (h.row b nd hb) e2)
  refine ⟨⟨h.below.trans (htM.below h.below.size h.newM), fun k hk => ?_, fun k hk => hk.2, fun c nc e => ?_, fun c nc e => ?_, fun c nc e => ?_, fun c nc d ndd k e1 e2 o1 o2 => ?_⟩, htM⟩
  · rcases hk.1 with hk | hk
    · exact h.newM k hk
    · exact Nat.le_trans h.below.size hk
  · unfold upd at e
    unfold updF
    split at e
    · rename_i ec
      subst ec
      cases e
      rw [if_pos rfl]; exact hn
    · rename_i ec
      rw [if_neg ec, other c nc ec e]; exact h.node c nc e
  · unfold upd at e
    unfold updF
    split at e
    · rename_i ec
      subst ec
      cases e
      rw [if_pos rfl]; exact hr
    · rename_i ec
      rw [if_neg ec]
      refine (h.row c nc e).kept fun k hk hlt => ht.block k hlt ?_
      rintro (rfl | e2)
      · exact own_ne (h.node _ _ hb) (h.row c nc e) hk
      · exact ec (h.apart c nc b nd k e hb hk e2)
  · unfold upd at e
    unfold updF
    split at e
    · rename_i ec
      subst ec
      rw [if_pos rfl]
      refine ⟨⟨.inl (h.mem _ _ hb).1, heap_lt hn⟩, fun k hk => ⟨?_, hr.lt k hk⟩⟩
      rcases ho k hk with h2 | h2
      · exact .inl ((h.mem _ _ hb).2 k h2)
      · exact .inr h2
    · rename_i ec
      rw [if_neg ec]
      have := h.mem c nc e
      exact ⟨⟨.inl this.1, Nat.lt_of_lt_of_le (h.bM _ this.1) ht.size⟩, fun k hk => ⟨.inl (this.2 k hk), Nat.lt_of_lt_of_le (h.bM _ (this.2 k hk)) ht.size⟩⟩
  · unfold upd at e1 e2
    unfold updF at o1 o2
    by_cases e3 : c = b
    · by_cases e4 : d = b
      · rw [e3, e4]
      · rw [if_pos e3] at o1
        rw [if_neg e4] at o2 e2
        rcases ho k o1 with h2 | h2
        · exact absurd (h.apart d ndd b nd k e2 hb o2 h2) e4
        · have := h.bM k ((h.mem d ndd e2).2 k o2); omega
    · by_cases e4 : d = b
      · rw [if_neg e3] at o1 e1
        rw [if_pos e4] at o2
        rcases ho k o2 with h2 | h2
        · exact absurd (h.apart c nc b nd k e1 hb o1 h2) e3
        · have := h.bM k ((h.mem c nc e1).2 k o1); omega
      · rw [if_neg e3] at o1 e1
        rw [if_neg e4] at o2 e2
        exact h.apart c nc d ndd k e1 e2 o1 o2

/-- A node more, without kids. -/
theorem add (h : IdxAt W M x H vf cnt w) {k : Nat} {nk : NodeP} (hk : w.heap[k]? = some (nodeO x cnt k nk (.slice none 0 0))) (hn : nk.kids = []) (hM : ¬ M k) (hW : W.heap.size ≤ k) :
    IdxAt W (fun j => M j ∨ j = k) x (upd H k nk) (updF vf k (.slice none 0 0)) cnt w := by
  have hne : ∀ c nc, H c = some nc → c ≠ k := fun c nc e e2 => hM (by rw [← e2]; exact (h.mem c nc e).1)
  have hnil : ∀ j, ¬ own (.slice none 0 0) j := fun j hj => by simp [own, Value.ownBlock] at hj
  refine ⟨h.below, fun j hj => ?_, fun j hj => ?_, fun c nc e => ?_, fun c nc e => ?_, fun c nc e => ?_, fun c nc d ndd j e1 e2 o1 o2 => ?_⟩
  · rcases hj with hj | rfl
    · exact h.newM j hj
    · exact hW
  · rcases hj with hj | rfl
    · exact h.bM j hj
    · exact heap_lt hk
  · unfold upd at e
    unfold updF
    split at e
    · rename_i ec
      subst ec; cases e
      rw [if_pos rfl]; exact hk
    · rename_i ec
      rw [if_neg ec]; exact h.node c nc e
  · unfold upd at e
    unfold updF
    split at e
    · rename_i ec
      subst ec; cases e
      rw [if_pos rfl, hn]; exact Row.nil _ _ _
    · rename_i ec
      rw [if_neg ec]; exact h.row c nc e
  · unfold upd at e
    unfold updF
    split at e
    · rename_i ec
      subst ec
      rw [if_pos rfl]
      exact ⟨.inr rfl, fun j hj => absurd hj (hnil j)⟩
    · rename_i ec
      rw [if_neg ec]
      exact ⟨.inl (h.mem c nc e).1, fun j hj => .inl ((h.mem c nc e).2 j hj)⟩
  · unfold upd at e1 e2
    unfold updF at o1 o2
    split at e1
    · rename_i ec
      rw [if_pos ec] at o1
      exact absurd o1 (hnil j)
    · rename_i ec
      rw [if_neg ec] at o1
      split at e2
      · rename_i ed
        rw [if_pos ed] at o2
        exact absurd o2 (hnil j)
      · rename_i ed
        rw [if_neg ed] at o2
        exact h.apart c nc d ndd j e1 e2 o1 o2

/-- The count is turned. -/
theorem count (h : IdxAt W M x H vf cnt w) {nd : NodeP} (hx : H x = some nd) (m : Nat) : IdxAt W M x H vf m (w.setCell ⟨x, 4, none⟩ (.int .i64 m)) ∧ Heap.Touch M w (w.setCell ⟨x, 4, none⟩ (.int .i64 m)) := by
  have ht : Heap.Touch (fun k => k = x) w (w.setCell ⟨x, 4, none⟩ (.int .i64 m)) := Heap.Touch.setCell (F := fun k => k = x) (p := ⟨x, 4, none⟩) (Heap.Touch.refl _ w) (.inl rfl) _
  have htM : Heap.Touch M w (w.setCell ⟨x, 4, none⟩ (.int .i64 m)) := ht.mono fun k _ e => by subst e; exact (h.mem _ _ hx).1
  refine ⟨⟨h.below.trans (htM.below h.below.size h.newM), h.newM, fun k hk => Nat.lt_of_lt_of_le (h.bM k hk) ht.size, fun b nb e => ?_, fun b nb e => ?_, h.mem, h.apart⟩, htM⟩
  · by_cases hb : b = x
    · subst hb
      exact node_cnt (h.node b nb e) m
    · rw [ht.block b (h.lt e) hb, h.node b nb e, node_cnt_ne hb]
  · exact (h.row b nb e).kept fun k hk hlt => ht.block k hlt fun e2 => own_ne (h.node x nd hx) (h.row b nb e) (e2 ▸ hk)

theorem ext {H' : Hp} {vf' : Nat → Value} (h : IdxAt W M x H vf cnt w) (hH : H' = H) (hv : vf' = vf) : IdxAt W M x H' vf' cnt w := by subst hH hv; exact h

end IdxAt
end Go.Proofs.YtbgchhgdlceceaaGreatDoor.Idx

namespace Go.Proofs.YtbgchhgdlceceaaGreatDoor.Idx
open Go.RowKit Heap
open Subj (Tok ML pieces)

/-- i kids stand ahead of the token; is it there? -/
structure Placed (H : Hp) (ks : List Nat) (t : Tok) (i : Nat) (fd : Bool) : Prop where
  le : i ≤ ks.length
  lo : ∀ x ∈ ks.take i, cb (tokH H x) t < 0
  hi : ∀ x ∈ ks.drop i, 0 ≤ cb (tokH H x) t
  yes : fd = true → ∃ k, ks[i]? = some k ∧ tokH H k = t
  no : fd = false → ∀ k ∈ ks, tokH H k ≠ t

theorem Placed.hi' {H : Hp} {ks : List Nat} {t : Tok} {i : Nat} (h : Placed H ks t i false) : ∀ x ∈ ks.drop i, cb t (tokH H x) < 0 := fun x hx => by
  have h1 := h.hi x hx
  have h2 := h.no rfl x (List.mem_of_mem_drop hx)
  rcases cb_cases (tokH H x) t with ⟨_, e⟩ | ⟨e, _⟩ | ⟨_, e⟩
  · exact absurd e h2
  · omega
  · omega

section
variable {W w : World} {M : Nat → Prop} {x : Nat} {H : Hp} {vf : Nat → Value} {cnt N : Nat}

end
end Go.Proofs.YtbgchhgdlceceaaGreatDoor.Idx

namespace Go.Proofs.YtbgchhgdlceceaaGreatDoor.Idx
open Go.RowKit Heap
open Subj (Tok ML pieces StrsAt strAt)

set_option maxRecDepth 100000 in
theorem split_dot (s : ByteArray) (w : World) (hs : s.size ≤ 1048576) (hm : ML w) :
    Calls Tryz.prog 151 #[.string s, .string ⟨#[46]⟩] w fun e w' => e = .returned (.slice (some ⟨w.heap.size, 0, none⟩) (pieces s.data.toList).length (pieces s.data.toList).length) ∧ StrsAt w' w.heap.size 0 (pieces s.data.toList) ∧ Below w.heap.size w w' := by
  obtain ⟨m, hm⟩ := hm
  have hc := Tryz.strings_Split s ⟨#[46]⟩ m w (by omega) hm (by decide)
  rw [Subj.countB_dot] at hc
  refine hc.mono ?_
  rintro e w' ⟨rfl, rfl⟩
  exact ⟨rfl, Subj.strsAt_made w s 9, (Below.refl w.heap.size w).alloc (Nat.le_refl _) _⟩

section
variable {W w : World} {M : Nat → Prop} {x : Nat} {H : Hp} {vf : Nat → Value} {cnt N : Nat}

/-- What 'find' answers. -/
def Found (H : Hp) (x : Nat) (ts : List Tok) (e : Ending) : Prop :=
  (∃ c nd, e = .returned (ptrV c) ∧ Go H x ts c ∧ H c = some nd) ∨ (e = .returned (.pointer none) ∧ ∀ c, ¬ Go H x ts c)

end
end Go.Proofs.YtbgchhgdlceceaaGreatDoor.Idx
