/- Parts of the proof, joined: The tree of nodes in memory.; A token's place among a node's kids: slices.BinarySearchFunc, walked.; (*Index).find, walked. -/
import Derived.Test.YtbgchhgdlceceaaGreatDoorStrmBaseM13
import Derived.Deep.LoopGhost
namespace Go.Proofs.YtbgchhgdlceceaaGreatDoor.Idx
open Go.RowKit Heap
open Subj (Tok ML pieces)

abbrev ptrV (k : Nat) : Value := .pointer (some ⟨k, 0, none⟩)
def kidsV (l : List Nat) : List Value := l.map ptrV

theorem kidsV_len (l : List Nat) : (kidsV l).length = l.length := by simp [kidsV]
theorem kidsV_get (l : List Nat) (i : Nat) : (kidsV l)[i]? = l[i]?.map ptrV := by simp [kidsV]
theorem kidsV_one (l : List Nat) : ∀ u ∈ kidsV l, u.oneCell' = true := by
  intro u hu
  obtain ⟨k, _, rfl⟩ := List.mem_map.1 hu
  rfl

/-- A node's block: the root's holds the count, too. -/
def nodeO (x : Nat) (cnt : Nat) (b : Nat) (nd : NodeP) (v : Value) : Obj :=
  if b = x then .cells #[.string ⟨nd.tok.toArray⟩, v, .bool nd.has, .int .i64 nd.n, .int .i64 cnt] 222 (0, 0)
  else .cells #[.string ⟨nd.tok.toArray⟩, v, .bool nd.has, .int .i64 nd.n] 220 (0, 0)

structure IdxAt (W : World) (M : Nat → Prop) (x : Nat) (H : Hp) (vf : Nat → Value) (cnt : Nat) (w : World) : Prop where
  below : Below W.heap.size W w
  newM : ∀ k, M k → W.heap.size ≤ k
  bM : ∀ k, M k → k < w.heap.size
  node : ∀ b nd, H b = some nd → w.heap[b]? = some (nodeO x cnt b nd (vf b))
  row : ∀ b nd, H b = some nd → Row w 276 1 (vf b) nd.kids.length (kidsV nd.kids)
  mem : ∀ b nd, H b = some nd → M b ∧ ∀ k, own (vf b) k → M k
  apart : ∀ b nd c nc k, H b = some nd → H c = some nc → own (vf b) k → own (vf c) k → b = c

theorem node_of {x cnt b : Nat} {nd : NodeP} {v : Value} {w : World} (h : w.heap[b]? = some (nodeO x cnt b nd v)) :
    w.cell? ⟨b, 0, none⟩ = some (.string ⟨nd.tok.toArray⟩) ∧ w.cell? ⟨b, 1, none⟩ = some v ∧ w.cell? ⟨b, 2, none⟩ = some (.bool nd.has) ∧ w.cell? ⟨b, 3, none⟩ = some (.int .i64 nd.n) ∧ ∀ j, w.frozen? ⟨b, j, none⟩ = false := by
  unfold nodeO at h
  split at h
  · refine ⟨?_, ?_, ?_, ?_, fun j => frozen_of_row w b j _ _ h⟩
    · rw [cell_of_row w b 0 _ _ _ h]; rfl
    · rw [cell_of_row w b 1 _ _ _ h]; rfl
    · rw [cell_of_row w b 2 _ _ _ h]; rfl
    · rw [cell_of_row w b 3 _ _ _ h]; rfl
  · refine ⟨?_, ?_, ?_, ?_, fun j => frozen_of_row w b j _ _ h⟩
    · rw [cell_of_row w b 0 _ _ _ h]; rfl
    · rw [cell_of_row w b 1 _ _ _ h]; rfl
    · rw [cell_of_row w b 2 _ _ _ h]; rfl
    · rw [cell_of_row w b 3 _ _ _ h]; rfl

theorem root_of {x cnt : Nat} {nd : NodeP} {v : Value} {w : World} (h : w.heap[x]? = some (nodeO x cnt x nd v)) : w.cell? ⟨x, 4, none⟩ = some (.int .i64 cnt) := by
  unfold nodeO at h
  rw [if_pos rfl] at h
  rw [cell_of_row w x 4 _ _ _ h]; rfl

/-- A store into a node. -/
theorem node_kids {x cnt b : Nat} {nd : NodeP} {v : Value} {w : World} (h : w.heap[b]? = some (nodeO x cnt b nd v)) (u : Value) (ks : List Nat) : (w.setCell ⟨b, 1, none⟩ u).heap[b]? = some (nodeO x cnt b { nd with kids := ks } u) := by
  unfold nodeO at h ⊢
  split at h
  · rename_i e
    rw [heap_setCell_same _ _ _ _ _ _ h, if_pos e]; rfl
  · rename_i e
    rw [heap_setCell_same _ _ _ _ _ _ h, if_neg e]; rfl
theorem node_has {x cnt b : Nat} {nd : NodeP} {v : Value} {w : World} (h : w.heap[b]? = some (nodeO x cnt b nd v)) (y : Bool) (n : Int) : ((w.setCell ⟨b, 2, none⟩ (.bool y)).setCell ⟨b, 3, none⟩ (.int .i64 n)).heap[b]? = some (nodeO x cnt b { nd with has := y, n := n } v) := by
  unfold nodeO at h ⊢
  split at h
  · rename_i e
    have h1 := heap_setCell_same w b 2 _ _ (.bool y) h
    rw [heap_setCell_same _ _ _ _ _ _ h1, if_pos e]; rfl
  · rename_i e
    have h1 := heap_setCell_same w b 2 _ _ (.bool y) h
    rw [heap_setCell_same _ _ _ _ _ _ h1, if_neg e]; rfl
theorem node_cnt {x cnt : Nat} {nd : NodeP} {v : Value} {w : World} (h : w.heap[x]? = some (nodeO x cnt x nd v)) (m : Nat) : (w.setCell ⟨x, 4, none⟩ (.int .i64 m)).heap[x]? = some (nodeO x m x nd v) := by
  unfold nodeO at h ⊢
  rw [if_pos rfl] at h ⊢
  rw [heap_setCell_same _ _ _ _ _ _ h]; rfl

theorem node_cnt_ne {x cnt m b : Nat} {nd : NodeP} {v : Value} (h : b ≠ x) : nodeO x cnt b nd v = nodeO x m b nd v := by
  unfold nodeO; rw [if_neg h, if_neg h]

/-- A row of pointers is no node. -/
theorem own_ne {w : World} {x cnt b n : Nat} {nd : NodeP} {v u : Value} {xs : List Value} (h : w.heap[b]? = some (nodeO x cnt b nd v)) (hr : Row w 276 1 u n xs) : ¬ own u b := fun ho => by
  rcases hr.2 with ⟨rfl, _⟩ | ⟨g, off, cap, cur, rfl, hg, _⟩
  · simp [own, Value.ownBlock] at ho
  · simp [own, Value.ownBlock] at ho
    subst ho
    unfold nodeO at h
    rw [hg] at h
    split at h <;> simp at h

abbrev Grow (M : Nat → Prop) (w w' : World) : Nat → Prop := fun k => (M k ∨ w.heap.size ≤ k) ∧ k < w'.heap.size

def updF (vf : Nat → Value) (b : Nat) (v : Value) : Nat → Value := fun k => if k = b then v else vf k

namespace IdxAt
variable {W w w' : World} {M : Nat → Prop} {x : Nat} {H : Hp} {vf : Nat → Value} {cnt : Nat}

theorem kept (h : IdxAt W M x H vf cnt w) (hb : Below W.heap.size W w') (hsz : w.heap.size ≤ w'.heap.size) (hs : Same M w w') : IdxAt W M x H vf cnt w' := by
  refine ⟨hb, h.newM, fun k hk => Nat.lt_of_lt_of_le (h.bM k hk) hsz, fun b nd e => ?_, fun b nd e => ?_, h.mem, h.apart⟩
  · rw [hs b (h.mem b nd e).1 (h.bM _ (h.mem b nd e).1)]; exact h.node b nd e
  · exact (h.row b nd e).kept fun k hk hlt => hs k ((h.mem b nd e).2 k hk) hlt

theorem next (h : IdxAt W M x H vf cnt w) (hb : Below w.heap.size w w') : IdxAt W M x H vf cnt w' :=
  h.kept (h.below.trans (hb.mono h.below.size)) hb.size fun k _ hk => hb.block k hk

theorem lt (h : IdxAt W M x H vf cnt w) {b : Nat} {nd : NodeP} (e : H b = some nd) : b < w.heap.size := h.bM _ (h.mem b nd e).1
theorem newB (h : IdxAt W M x H vf cnt w) {b : Nat} {nd : NodeP} (e : H b = some nd) : W.heap.size ≤ b := h.newM _ (h.mem b nd e).1

theorem fresh (h : IdxAt W M x H vf cnt w) {k : Nat} (hk : w.heap.size ≤ k) : H k = none := by
  cases e : H k with
  | none => rfl
  | some nd => have := h.lt e; omega

/-- One node is turned. -/
theorem set (h : IdxAt W M x H vf cnt w) {b : Nat} {nd nd' : NodeP} {v' : Value} (hb : H b = some nd) (ht : Heap.Touch (fun k => k = b ∨ own (vf b) k) w w')
    (hn : w'.heap[b]? = some (nodeO x cnt b nd' v')) (hr : Row w' 276 1 v' nd'.kids.length (kidsV nd'.kids)) (ho : ∀ k, own v' k → own (vf b) k ∨ w.heap.size ≤ k) :
    IdxAt W (Grow M w w') x (upd H b nd') (updF vf b v') cnt w' ∧ Heap.Touch M w w' := by
  have htM : Heap.Touch M w w' := ht.mono fun k _ hk => by
    rcases hk with rfl | hk
    · exact (h.mem _ _ hb).1
    · exact (h.mem _ _ hb).2 k hk
  have other : ∀ c nc, c ≠ b → H c = some nc → w'.heap[c]? = w.heap[c]? := fun c nc hc e => ht.block c (h.lt e) (by
    rintro (e2 | e2)
    · exact hc e2
    · exact own_ne (h.node c nc e) (h.row b nd hb) e2)
  refine ⟨⟨h.below.trans (htM.below h.below.size h.newM), fun k hk => ?_, fun k hk => hk.2, fun c nc e => ?_, fun c nc e => ?_, fun c nc e => ?_, fun c nc d ndd k e1 e2 o1 o2 => ?_⟩, htM⟩
  · rcases hk.1 with hk | hk
    · exact h.newM k hk
    · exact Nat.le_trans h.below.size hk
  · unfold upd at e
    unfold updF
    split at e
    · rename_i ec
      subst ec
      cases e
      rw [if_pos rfl]; exact hn
    · rename_i ec
      rw [if_neg ec, other c nc ec e]; exact h.node c nc e
  · unfold upd at e
    unfold updF
    split at e
    · rename_i ec
      subst ec
      cases e
      rw [if_pos rfl]; exact hr
    · rename_i ec
      rw [if_neg ec]
      refine (h.row c nc e).kept fun k hk hlt => ht.block k hlt ?_
      rintro (rfl | e2)
      · exact own_ne (h.node _ _ hb) (h.row c nc e) hk
      · exact ec (h.apart c nc b nd k e hb hk e2)
  · unfold upd at e
    unfold updF
    split at e
    · rename_i ec
      subst ec
      rw [if_pos rfl]
      refine ⟨⟨.inl (h.mem _ _ hb).1, heap_lt hn⟩, fun k hk => ⟨?_, hr.lt k hk⟩⟩
      rcases ho k hk with h2 | h2
      · exact .inl ((h.mem _ _ hb).2 k h2)
      · exact .inr h2
    · rename_i ec
      rw [if_neg ec]
      have := h.mem c nc e
      exact ⟨⟨.inl this.1, Nat.lt_of_lt_of_le (h.bM _ this.1) ht.size⟩, fun k hk => ⟨.inl (this.2 k hk), Nat.lt_of_lt_of_le (h.bM _ (this.2 k hk)) ht.size⟩⟩
  · unfold upd at e1 e2
    unfold updF at o1 o2
    by_cases e3 : c = b
    · by_cases e4 : d = b
      · rw [e3, e4]
      · rw [if_pos e3] at o1
        rw [if_neg e4] at o2 e2
        rcases ho k o1 with h2 | h2
        · exact absurd (h.apart d ndd b nd k e2 hb o2 h2) e4
        · have := h.bM k ((h.mem d ndd e2).2 k o2); omega
    · by_cases e4 : d = b
      · rw [if_neg e3] at o1 e1
        rw [if_pos e4] at o2
        rcases ho k o2 with h2 | h2
        · exact absurd (h.apart c nc b nd k e1 hb o1 h2) e3
        · have := h.bM k ((h.mem c nc e1).2 k o1); omega
      · rw [if_neg e3] at o1 e1
        rw [if_neg e4] at o2 e2
        exact h.apart c nc d ndd k e1 e2 o1 o2

/-- A node more, without kids. -/
theorem add (h : IdxAt W M x H vf cnt w) {k : Nat} {nk : NodeP} (hk : w.heap[k]? = some (nodeO x cnt k nk (.slice none 0 0))) (hn : nk.kids = []) (hM : ¬ M k) (hW : W.heap.size ≤ k) :
    IdxAt W (fun j => M j ∨ j = k) x (upd H k nk) (updF vf k (.slice none 0 0)) cnt w := by
  have hne : ∀ c nc, H c = some nc → c ≠ k := fun c nc e e2 => hM (by rw [← e2]; exact (h.mem c nc e).1)
  have hnil : ∀ j, ¬ own (.slice none 0 0) j := fun j hj => by simp [own, Value.ownBlock] at hj
  refine ⟨h.below, fun j hj => ?_, fun j hj => ?_, fun c nc e => ?_, fun c nc e => ?_, fun c nc e => ?_, fun c nc d ndd j e1 e2 o1 o2 => ?_⟩
  · rcases hj with hj | rfl
    · exact h.newM j hj
    · exact hW
  · rcases hj with hj | rfl
    · exact h.bM j hj
    · exact heap_lt hk
  · unfold upd at e
    unfold updF
    split at e
    · rename_i ec
      subst ec; cases e
      rw [if_pos rfl]; exact hk
    · rename_i ec
      rw [if_neg ec]; exact h.node c nc e
  · unfold upd at e
    unfold updF
    split at e
    · rename_i ec
      subst ec; cases e
      rw [if_pos rfl, hn]; exact Row.nil _ _ _
    · rename_i ec
      rw [if_neg ec]; exact h.row c nc e
  · unfold upd at e
    unfold updF
    split at e
    · rename_i ec
      subst ec
      rw [if_pos rfl]
      exact ⟨.inr rfl, fun j hj => absurd hj (hnil j)⟩
    · rename_i ec
      rw [if_neg ec]
      exact ⟨.inl (h.mem c nc e).1, fun j hj => .inl ((h.mem c nc e).2 j hj)⟩
  · unfold upd at e1 e2
    unfold updF at o1 o2
    split at e1
    · rename_i ec
      rw [if_pos ec] at o1
      exact absurd o1 (hnil j)
    · rename_i ec
      rw [if_neg ec] at o1
      split at e2
      · rename_i ed
        rw [if_pos ed] at o2
        exact absurd o2 (hnil j)
      · rename_i ed
        rw [if_neg ed] at o2
        exact h.apart c nc d ndd j e1 e2 o1 o2

/-- The count is turned. -/
theorem count (h : IdxAt W M x H vf cnt w) {nd : NodeP} (hx : H x = some nd) (m : Nat) : IdxAt W M x H vf m (w.setCell ⟨x, 4, none⟩ (.int .i64 m)) ∧ Heap.Touch M w (w.setCell ⟨x, 4, none⟩ (.int .i64 m)) := by
  have ht : Heap.Touch (fun k => k = x) w (w.setCell ⟨x, 4, none⟩ (.int .i64 m)) := Heap.Touch.setCell (F := fun k => k = x) (p := ⟨x, 4, none⟩) (Heap.Touch.refl _ w) (.inl rfl) _
  have htM : Heap.Touch M w (w.setCell ⟨x, 4, none⟩ (.int .i64 m)) := ht.mono fun k _ e => by subst e; exact (h.mem _ _ hx).1
  refine ⟨⟨h.below.trans (htM.below h.below.size h.newM), h.newM, fun k hk => Nat.lt_of_lt_of_le (h.bM k hk) ht.size, fun b nb e => ?_, fun b nb e => ?_, h.mem, h.apart⟩, htM⟩
  · by_cases hb : b = x
    · subst hb
      exact node_cnt (h.node b nb e) m
    · rw [ht.block b (h.lt e) hb, h.node b nb e, node_cnt_ne hb]
  · exact (h.row b nb e).kept fun k hk hlt => ht.block k hlt fun e2 => own_ne (h.node x nd hx) (h.row b nb e) (e2 ▸ hk)

theorem ext {H' : Hp} {vf' : Nat → Value} (h : IdxAt W M x H vf cnt w) (hH : H' = H) (hv : vf' = vf) : IdxAt W M x H' vf' cnt w := by subst hH hv; exact h

end IdxAt
end Go.Proofs.YtbgchhgdlceceaaGreatDoor.Idx

namespace Go.Proofs.YtbgchhgdlceceaaGreatDoor.Idx
open Go.RowKit Heap
open Subj (Tok ML pieces)

/-- i kids stand ahead of the token; is it there? -/
structure Placed (H : Hp) (ks : List Nat) (t : Tok) (i : Nat) (fd : Bool) : Prop where
  le : i ≤ ks.length
  lo : ∀ x ∈ ks.take i, cb (tokH H x) t < 0
  hi : ∀ x ∈ ks.drop i, 0 ≤ cb (tokH H x) t
  yes : fd = true → ∃ k, ks[i]? = some k ∧ tokH H k = t
  no : fd = false → ∀ k ∈ ks, tokH H k ≠ t

theorem Placed.hi' {H : Hp} {ks : List Nat} {t : Tok} {i : Nat} (h : Placed H ks t i false) : ∀ x ∈ ks.drop i, cb t (tokH H x) < 0 := fun x hx => by
  have h1 := h.hi x hx
  have h2 := h.no rfl x (List.mem_of_mem_drop hx)
  rcases cb_cases (tokH H x) t with ⟨_, e⟩ | ⟨e, _⟩ | ⟨_, e⟩
  · exact absurd e h2
  · omega
  · omega

theorem mem_take_get {α : Type} {l : List α} {n : Nat} {x : α} (h : x ∈ l.take n) : ∃ j, j < n ∧ l[j]? = some x := by
  obtain ⟨j, hj, e⟩ := List.mem_iff_getElem?.1 h |>.imp fun j hj => (⟨(by
    have := (List.getElem?_eq_some_iff.1 hj).1; rw [List.length_take] at this; omega : j < n), hj⟩ : j < n ∧ (l.take n)[j]? = some x)
  rw [List.getElem?_take, if_pos hj] at e
  exact ⟨j, hj, e⟩
theorem mem_drop_get {α : Type} {l : List α} {n : Nat} {x : α} (h : x ∈ l.drop n) : ∃ j, n ≤ j ∧ l[j]? = some x := by
  obtain ⟨j, hj⟩ := List.mem_iff_getElem?.1 h
  rw [List.getElem?_drop] at hj
  exact ⟨n + j, by omega, hj⟩

section
variable {W w : World} {M : Nat → Prop} {x : Nat} {H : Hp} {vf : Nat → Value} {cnt N : Nat}

/-- The comparison with one kid. -/
theorem cmp_any {nd : NodeP} {b : Nat} (h : w.heap[b]? = some (nodeO x cnt b nd (vf b))) (t : Tok) :
    Calls Tryz.prog 226 #[ptrV b, .string ⟨t.toArray⟩] w fun e w' => e = .returned (.int .i64 (cb nd.tok t)) ∧ Below w.heap.size w w' := by
  obtain ⟨c0, c1, c2, c3, cf⟩ := node_of h
  have hb : b < w.heap.size := heap_lt h
  have hC := fun w => Tryz.strings_Compare ⟨nd.tok.toArray⟩ ⟨t.toArray⟩ w
  simp only at hC
  clear h
  go_enter Tryz.func226, Tryz.ntmps226
  go_wp2_with fail
  refine (hC _).mono ?_
  rintro e w' ⟨rfl, rfl⟩
  go_wp2
  go_ret
  exact ⟨rfl, Below.refl _ _⟩

set_option maxHeartbeats 2000000 in
set_option maxRecDepth 100000 in
theorem search_any (hG : Good N H x) (hM : IdxAt W M x H vf cnt w) {b : Nat} {nd : NodeP} (hb : H b = some nd) (hN : N ≤ 100000) (t : Tok) :
    Calls Tryz.prog 225 #[vf b, .string ⟨t.toArray⟩, .func (.func 226) #[] #[]] w fun e w' =>
      ∃ i fd, e = .returned (.tuple #[.int .i64 (i : Nat), .bool fd]) ∧ Placed H nd.kids t i fd ∧ Below w.heap.size w w' := by
  have hrow := hM.row b nd hb
  have hfew := hG.few b nd hb
  have hcmp : ∀ (w1 : World) (i k : Nat), Below w.heap.size w w1 → nd.kids[i]? = some k → Calls Tryz.prog 226 #[ptrV k, .string ⟨t.toArray⟩] w1 fun e w' => e = .returned (.int .i64 (cb (tokH H k) t)) ∧ Below w1.heap.size w1 w' := fun w1 i k hb1 hk => by
    obtain ⟨kd, hkd, _⟩ := hG.kid b nd k hb (List.mem_of_getElem? hk)
    have := cmp_any ((hM.next hb1).node k kd hkd) t
    rw [tokH_some hkd]; exact this
  have hs := hG.sorted b nd hb
  obtain ⟨n, hn⟩ : ∃ n, nd.kids.length = n := ⟨_, rfl⟩
  have hpw : ∀ (i j : Nat) (k l : Nat), i < j → nd.kids[i]? = some k → nd.kids[j]? = some l → cb (tokH H k) (tokH H l) < 0 := fun i j k l hij h1 h2 => by
    obtain ⟨hi, rfl⟩ := List.getElem?_eq_some_iff.1 h1
    obtain ⟨hj, rfl⟩ := List.getElem?_eq_some_iff.1 h2
    exact List.pairwise_iff_getElem.1 hs i j hi hj hij
  rw [hn] at hrow hfew
  have HN := Lib.hid hn; have HC := Lib.hid hcmp; have HP := Lib.hid hpw
  clear hs hcmp hpw hn
  rcases hrow.2 with ⟨e, h0⟩ | ⟨g, off, cap, cur, e, hg, hle, hcapm, _⟩
  · rw [e]
    subst h0
    have hk0 : nd.kids = [] := List.eq_nil_of_length_eq_zero HN.out
    have HF := Lib.hid (show Placed H nd.kids t 0 false from ⟨Nat.zero_le _, fun x hx => by simp at hx, fun x hx => by rw [hk0] at hx; simp at hx, fun h => (by cases h), fun _ k hk => by rw [hk0] at hk; simp at hk⟩)
    clear hrow hG hM hb e HC HP hk0
    go_enter Tryz.func225, Tryz.ntmps225
    go_wp2_with fail
    go_loopw [9, 10] (fun a b wr => a = .int .i64 0 ∧ b = .int .i64 0 ∧ wr = w) (fun _ _ _ => 0)
    case atStart => exact ⟨rfl, rfl, rfl⟩
    case round =>
      obtain ⟨rfl, rfl, rfl⟩ := hrel
      go_wp2
      go_ret2
      exact ⟨0, false, rfl, HF.out, Below.refl _ _⟩
  · rw [e] at hrow ⊢
    have HR := Lib.hid hrow
    have hglt : g < w.heap.size := heap_lt hg
    clear hrow hG hM hb e hg
    go_enter Tryz.func225, Tryz.ntmps225
    go_wp2_with fail
    go_loopw [9, 10] (fun a b wr => ∃ lo hi : Nat, a = .int .i64 lo ∧ b = .int .i64 hi ∧ lo ≤ hi ∧ hi ≤ n ∧ Below w.heap.size w wr ∧ Hid ((∀ j k, j < lo → nd.kids[j]? = some k → cb (tokH H k) t < 0) ∧ (∀ j k, hi ≤ j → nd.kids[j]? = some k → 0 ≤ cb (tokH H k) t))) (fun a b _ => (intOf b).toNat - (intOf a).toNat)
    case atStart => exact ⟨0, n, rfl, rfl, Nat.zero_le _, Nat.le_refl _, Below.refl _ _, Lib.hid ⟨fun j k hj => absurd hj (Nat.not_lt_zero _), fun j k hj hk => by have h1 := (List.getElem?_eq_some_iff.1 hk).1; rw [HN.out] at h1; omega⟩⟩
    case round =>
      obtain ⟨lo, hi, rfl, rfl, hlh, hin, BW, I⟩ := hrel
      have BB := Lib.hid BW
      by_cases hlt : lo < hi
      · obtain ⟨k, hk⟩ : ∃ k, nd.kids[(lo + hi) / 2]? = some k := ⟨_, List.getElem?_eq_getElem (by rw [HN.out]; omega)⟩
        have hrow' := HR.out.kept (w' := wr) (fun j _ hj => BW.block j hj)
        have cm : wr.cell? ⟨g, off + (lo + hi) / 2, none⟩ = some (ptrV k) := by
          rw [(hrow'.cell ((lo + hi) / 2) (by omega)).1, kidsV_get, hk]; rfl
        have hc := HC.out wr _ k BW hk
        have K := Lib.hid hk
        clear hrow' hk BW
        by_cases hyx : cb (tokH H k) t < 0
        · generalize hz : cb (tokH H k) t = z at hc hyx
          have Z := Lib.hid hz
          clear hz
          go_wp2_with fail
          refine hc.mono ?_
          rintro e w' ⟨rfl, hb'⟩
          go_wp2_with fail
          refine ⟨⟨(lo + hi) / 2 + 1, hi, by rw [show ((lo : Int) + (hi : Int)) / 2 + 1 = (((lo + hi) / 2 + 1 : Nat) : Int) by omega], rfl, by omega, hin, BB.out.trans (hb'.mono BB.out.size), Lib.hid ⟨fun j k' hj hk' => ?_, I.out.2⟩⟩, by simp [intOf]; omega⟩
          by_cases e : j = (lo + hi) / 2
          · subst e
            rw [K.out] at hk'
            cases hk'
            rw [Z.out]; exact hyx
          · exact cb_lt_trans (HP.out j _ _ _ (by omega) hk' K.out) (by rw [Z.out]; exact hyx)
        · generalize hz : cb (tokH H k) t = z at hc hyx
          have Z := Lib.hid hz
          clear hz
          go_wp2_with fail
          refine hc.mono ?_
          rintro e w' ⟨rfl, hb'⟩
          go_wp2_with fail
          refine ⟨⟨lo, (lo + hi) / 2, rfl, by rw [show ((lo : Int) + (hi : Int)) / 2 = (((lo + hi) / 2 : Nat) : Int) by omega], by omega, by omega, BB.out.trans (hb'.mono BB.out.size), Lib.hid ⟨I.out.1, fun j k' hj hk' => ?_⟩⟩, by simp [intOf]; omega⟩
          by_cases e : j = (lo + hi) / 2
          · subst e
            rw [K.out] at hk'
            cases hk'
            rw [Z.out]; omega
          · refine Int.not_lt.1 fun h => ?_
            have h9 := cb_lt_trans (HP.out _ j _ _ (by omega) K.out hk') h
            rw [Z.out] at h9
            omega
      · obtain rfl : hi = lo := by omega
        have HLO := Lib.hid (show (∀ y ∈ nd.kids.take hi, cb (tokH H y) t < 0) ∧ (∀ y ∈ nd.kids.drop hi, 0 ≤ cb (tokH H y) t) from
          ⟨fun y hy => let ⟨j, hj, e⟩ := mem_take_get hy; I.out.1 j y hj e, fun y hy => let ⟨j, hj, e⟩ := mem_drop_get hy; I.out.2 j y hj e⟩)
        by_cases hlt2 : hi < n
        · obtain ⟨k, hk⟩ : ∃ k, nd.kids[hi]? = some k := ⟨_, List.getElem?_eq_getElem (by rw [HN.out]; omega)⟩
          have hrow' := HR.out.kept (w' := wr) (fun j _ hj => BW.block j hj)
          have cm : wr.cell? ⟨g, off + hi, none⟩ = some (ptrV k) := by
            rw [(hrow'.cell hi (by omega)).1, kidsV_get, hk]; rfl
          have hc := HC.out wr _ k BW hk
          have K := Lib.hid hk
          clear hrow' hk BW
          by_cases hyx : cb (tokH H k) t = 0
          · have Z := Lib.hid hyx
            rw [hyx] at hc
            clear hyx
            go_wp2_with fail
            refine hc.mono ?_
            rintro e w' ⟨rfl, hb'⟩
            go_wp2_with fail
            go_ret2
            exact ⟨hi, true, rfl, ⟨by rw [HN.out]; exact hin, HLO.out.1, HLO.out.2, fun _ => ⟨k, K.out, cb_eq.1 Z.out⟩, fun h => (by cases h)⟩, BB.out.trans (hb'.mono BB.out.size)⟩
          · generalize hz : cb (tokH H k) t = z at hc hyx
            have Z := Lib.hid hz
            have hz0 : (z == 0) = false := by simpa using hyx
            clear hz
            go_wp2_with fail
            refine hc.mono ?_
            rintro e w' ⟨rfl, hb'⟩
            go_wp2_with fail
            go_ret2
            refine ⟨hi, false, by simp, ⟨by rw [HN.out]; exact hin, HLO.out.1, HLO.out.2, fun h => (by cases h), fun _ y hy e => ?_⟩, BB.out.trans (hb'.mono BB.out.size)⟩
            have h1 := cb_eq.2 e
            rw [← List.take_append_drop hi nd.kids, List.mem_append] at hy
            rcases hy with hy | hy
            · have := HLO.out.1 y hy; omega
            · obtain ⟨j, hj, e2⟩ := mem_drop_get hy
              by_cases e3 : j = hi
              · subst e3
                rw [K.out] at e2; cases e2
                exact hyx (Z.out.symm.trans h1)
              · have h2 := HP.out hi j k y (by omega) K.out e2
                have h3 := HLO.out.2 k (List.mem_iff_getElem?.2 ⟨0, by rw [List.getElem?_drop, Nat.add_zero]; exact K.out⟩)
                rw [e] at h2
                omega
        · obtain rfl : hi = n := by omega
          have HF := Lib.hid (show Placed H nd.kids t hi false from ⟨by rw [HN.out]; exact hin, HLO.out.1, HLO.out.2, fun h => (by cases h), fun _ y hy e => by
            have h1 := cb_eq.2 e
            rw [← List.take_of_length_le (l := nd.kids) (i := hi) (by rw [HN.out]; exact Nat.le_refl _)] at hy
            have := HLO.out.1 y hy; omega⟩)
          clear BW
          go_wp2
          go_ret2
          exact ⟨hi, false, rfl, HF.out, BB.out⟩

set_option maxRecDepth 100000 in
theorem place_any (hG : Good N H x) (hM : IdxAt W M x H vf cnt w) {b : Nat} {nd : NodeP} (hb : H b = some nd) (hN : N ≤ 100000) (t : Tok) :
    Calls Tryz.prog 203 #[ptrV b, .string ⟨t.toArray⟩] w fun e w' =>
      ∃ i fd, e = .returned (.tuple #[.int .i64 (i : Nat), .bool fd]) ∧ Placed H nd.kids t i fd ∧ Below w.heap.size w w' := by
  obtain ⟨c0, c1, c2, c3, cf⟩ := node_of (hM.node b nd hb)
  have hlt := hM.lt hb
  have HS := Lib.hid (search_any hG hM hb hN t)
  clear hG hM hb
  go_enter Tryz.func203, Tryz.ntmps203
  go_wp2_with fail
  refine HS.out.mono ?_
  rintro e w' ⟨i, fd, rfl, hp, hb'⟩
  have HF := Lib.hid (show Placed H nd.kids t i fd ∧ Below w.heap.size w w' from ⟨hp, hb'⟩)
  clear hp hb'
  go_wp2
  go_ret2
  exact ⟨i, fd, rfl, HF.out⟩
end
end Go.Proofs.YtbgchhgdlceceaaGreatDoor.Idx

namespace Go.Proofs.YtbgchhgdlceceaaGreatDoor.Idx
open Go.RowKit Heap
open Subj (Tok ML pieces StrsAt strAt)

set_option maxRecDepth 100000 in
theorem split_dot (s : ByteArray) (w : World) (hs : s.size ≤ 1048576) (hm : ML w) :
    Calls Tryz.prog 151 #[.string s, .string ⟨#[46]⟩] w fun e w' => e = .returned (.slice (some ⟨w.heap.size, 0, none⟩) (pieces s.data.toList).length (pieces s.data.toList).length) ∧ StrsAt w' w.heap.size 0 (pieces s.data.toList) ∧ Below w.heap.size w w' := by
  obtain ⟨m, hm⟩ := hm
  have hc := Tryz.strings_Split s ⟨#[46]⟩ m w (by omega) hm (by decide)
  rw [Subj.countB_dot] at hc
  refine hc.mono ?_
  rintro e w' ⟨rfl, rfl⟩
  exact ⟨rfl, Subj.strsAt_made w s 9, (Below.refl w.heap.size w).alloc (Nat.le_refl _) _⟩

theorem strsAt_lt {w : World} {g off : Nat} {l : List Tok} (h : StrsAt w g off l) (hl : l ≠ []) : g < w.heap.size :=
  World.block_lt_of_cell? w _ (h 0 (List.length_pos_iff.2 hl))

section
variable {W w : World} {M : Nat → Prop} {x : Nat} {H : Hp} {vf : Nat → Value} {cnt N : Nat}

/-- What 'find' answers. -/
def Found (H : Hp) (x : Nat) (ts : List Tok) (e : Ending) : Prop :=
  (∃ c nd, e = .returned (ptrV c) ∧ Go H x ts c ∧ H c = some nd) ∨ (e = .returned (.pointer none) ∧ ∀ c, ¬ Go H x ts c)

/-- One step further. -/
theorem go_more (_h : Good N H x) {l : List Tok} {k c j : Nat} (hk : k < l.length) (hg : Go H x (l.take k) c) (hs : Step H c (l.getD k []) j) : Go H x (l.take (k + 1)) j := by
  have e : l.take (k + 1) = l.take k ++ [l.getD k []] := by
    rw [List.take_add_one, List.getElem?_eq_getElem hk]; simp [List.getD, hk]
  rw [e]
  exact go_app hg (go_one hs)

theorem go_stops (h : Good N H x) {l : List Tok} {k c : Nat} {nd : NodeP} (hk : k < l.length) (hg : Go H x (l.take k) c) (hc : H c = some nd) (hn : ∀ j ∈ nd.kids, tokH H j ≠ l.getD k []) : ∀ d, ¬ Go H x l d := fun d hd => by
  have e : l = l.take k ++ (l.getD k [] :: l.drop (k + 1)) := by
    have := List.drop_eq_getElem_cons hk
    have h2 : l.getD k [] = l[k] := by simp [List.getD, hk]
    rw [h2, ← this, List.take_append_drop]
  rw [e] at hd
  obtain ⟨c', h1, h2⟩ := go_split hd
  have := h.go_det h1 hg
  subst this
  cases h2 with
  | cons s _ =>
    obtain ⟨nd', e2, h3, h4⟩ := s
    rw [hc] at e2; cases e2
    exact hn _ h3 h4

set_option maxHeartbeats 2000000 in
set_option maxRecDepth 100000 in
theorem find_any (hG : Good N H x) (hM : IdxAt W M x H vf cnt w) (hN : N ≤ 100000) (hm : ML w) (s : ByteArray) (hs : s.size ≤ 1048576) :
    Calls Tryz.prog 201 #[ptrV x, .string s] w fun e w' => Found H x (pieces s.data.toList) e ∧ Below w.heap.size w w' := by
  have HS := Lib.hid (split_dot s w hs hm)
  obtain ⟨rd, hrd, _⟩ := hG.root
  have hx := hM.lt hrd
  have HG := Lib.hid hG; have HM := Lib.hid hM; have HRD := Lib.hid hrd
  have hpl := Subj.pieces_size s hs
  clear hG hM hm hs hrd
  generalize pieces s.data.toList = l at *
  obtain ⟨n, hn⟩ : ∃ n, l.length = n := ⟨_, rfl⟩
  rw [hn] at HS hpl
  have HL := Lib.hid hn
  clear hn
  go_enter Tryz.func201, Tryz.ntmps201
  go_wp2_with fail
  refine HS.out.mono ?_
  rintro e w1 ⟨rfl, hst, hb1⟩
  have HST := Lib.hid hst; have HB := Lib.hid hb1
  clear hst hb1 HS
  obtain ⟨g, hgg⟩ : ∃ g, w.heap.size = g := ⟨_, rfl⟩
  have HGG := Lib.hid hgg
  rw [hgg] at HST ⊢
  clear hgg
  go_wp2_with fail
  go_loopw [5, 16] (fun a i wr => ∃ (k c : Nat), k ≤ n ∧ i = .int .i64 k ∧ a = .pointer (some ⟨c, 0, none⟩) ∧ Hid (Go H x (l.take k) c ∧ ∃ nd, H c = some nd) ∧ Hid (Below w1.heap.size w1 wr)) (fun _ i _ => n - (intOf i).toNat)
  case atStart => exact ⟨0, x, Nat.zero_le _, rfl, rfl, Lib.hid ⟨.nil x, rd, HRD.out⟩, Lib.hid (Below.refl _ _)⟩
  case round =>
    obtain ⟨k, c, hk, rfl, rfl, HGO, HBW⟩ := hrel
    obtain ⟨nd, hnd⟩ := HGO.out.2
    by_cases hlt : k < n
    · have hltz : (k : Int) < n := by omega
      have hlt' : k < l.length := by rw [HL.out]; exact hlt
      have hM2 := (HM.out.next HB.out).next HBW.out
      have hcell := (HST.out.below (HBW.out)) k hlt'
      rw [Nat.zero_add] at hcell
      have HPL := Lib.hid (show Calls Tryz.prog 203 #[.pointer (some ⟨c, 0, none⟩), .string (strAt l k)] wr _ from place_any HG.out hM2 hnd hN (l.getD k []))
      have HND := Lib.hid hnd; have HM2 := Lib.hid hM2; have HLT := Lib.hid hlt'
      clear hM2 hnd hlt'
      go_wp2_with fail
      refine HPL.out.mono ?_
      rintro e w2 ⟨i, fd, rfl, hp, hb2⟩
      clear hcell HPL
      cases fd with
      | false =>
        have HF := Lib.hid (show Found H x l (.returned (.pointer none)) ∧ Below w.heap.size w w2 from ⟨.inr ⟨rfl, go_stops HG.out HLT.out HGO.out.1 HND.out (hp.no rfl)⟩, (HB.out.trans (HBW.out.mono HB.out.size)).trans (hb2.mono (Nat.le_trans HB.out.size HBW.out.size))⟩)
        clear hp hb2
        go_wp2
        go_ret
        exact HF.out
      | true =>
        obtain ⟨j, hj, ht⟩ := hp.yes rfl
        have hM3 := HM2.out.next hb2
        obtain ⟨c0, c1, c2, c3, cf⟩ := node_of (hM3.node c nd HND.out)
        have hrow := hM3.row c nd HND.out
        have hil : i < nd.kids.length := (List.getElem?_eq_some_iff.1 hj).1
        obtain ⟨gk, off, cap, ev, hcap, hcell⟩ : ∃ gk off cap, vf c = .slice (some ⟨gk, off, none⟩) nd.kids.length cap ∧ nd.kids.length ≤ cap ∧ w2.cell? ⟨gk, off + i, none⟩ = some (.pointer (some ⟨j, 0, none⟩)) := by
          rcases hrow.2 with ⟨_, h0⟩ | ⟨gk, off, cap, cur, ev, hg, h1, _⟩
          · omega
          · rw [ev] at hrow
            exact ⟨gk, off, cap, ev, h1, by rw [(hrow.cell i (by omega)).1, kidsV_get, hj]; rfl⟩
        rw [ev] at c1
        have hclt := hM3.lt HND.out
        have HN2 := Lib.hid (show Go H x (l.take (k + 1)) j ∧ (∃ nd, H j = some nd) ∧ Below w1.heap.size w1 w2 from
          ⟨go_more HG.out HLT.out HGO.out.1 ⟨nd, HND.out, List.mem_of_getElem? hj, ht⟩, (let ⟨kd, h, _⟩ := HG.out.kid c nd j HND.out (List.mem_of_getElem? hj); ⟨kd, h⟩), HBW.out.trans (hb2.mono HBW.out.size)⟩)
        have hil2 : (i : Int) < (nd.kids.length : Nat) := by omega
        generalize nd.kids.length = m at *
        clear hp hb2 hM3 hrow hj ht ev c0 c2 c3
        go_wp2_with fail
        exact ⟨⟨k + 1, j, by omega, by go_num, rfl, Lib.hid ⟨HN2.out.1, HN2.out.2.1⟩, Lib.hid HN2.out.2.2⟩, by simp [intOf]; omega⟩
    · obtain rfl : k = n := by omega
      have HF := Lib.hid (show Found H x l (.returned (.pointer (some ⟨c, 0, none⟩))) ∧ Below w.heap.size w wr from ⟨.inl ⟨c, nd, rfl, by have := HGO.out.1; rw [List.take_of_length_le (by rw [HL.out]; exact Nat.le_refl _)] at this; exact this, hnd⟩, HB.out.trans (HBW.out.mono HB.out.size)⟩)
      clear hnd
      go_wp2
      go_ret
      exact HF.out
end
end Go.Proofs.YtbgchhgdlceceaaGreatDoor.Idx
