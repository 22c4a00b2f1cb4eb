/- IndexFinds: the names that are there, in memory; slices.Contains, ContainsFunc, Rest, as it calls them. -/
import Derived.Test.YtpmffneohcbhbaaDoorIdxRel
import Derived.Test.YtpmffneohcbhbaaDoorShfRun
import Derived.Test.YtpmffneohcbhbaaDoorFndPlain
import Derived.Test.YtpmffneohcbhbaaDoorRefTakes1
import Derived.Test.YtpmffneohcbhbaaDoorStrDel
import Derived.Test.YtpmffneohcbhbaaDoorKit
namespace Go.Proofs.YtpmffneohcbhbaaDoor.Shf
open Go.RowKit Heap Idx
open Subj (Tok ML pieces Strs StrsAt strAt strsV strsV_len strsV_get strsV_append)

theorem rest_x (n m : Int) (w : World) (h0 : 0 < m) (hm : m ≤ 9223372036854775807) :
    Calls Tryd.prog 22 #[.int .i64 n, .int .i64 m] w fun e w' => e = .returned (.int .i64 (n % m)) ∧ w = w' := by
  have e1 : n % m = if n.tmod m < 0 then n.tmod m + m else n.tmod m := by
    rw [Int.tmod_eq_emod]
    have a := Int.emod_nonneg n (show m ≠ 0 by omega)
    have b := Int.emod_lt_of_pos n h0
    by_cases hd : 0 ≤ n ∨ m ∣ n
    · simp only [if_pos hd]; rw [if_neg (by omega)]; omega
    · simp only [if_neg hd]; rw [if_pos (by omega)]; omega
  have b1 : n.tmod m < m := Int.tmod_lt_of_pos n h0
  have b2 : -m < n.tmod m := by
    rw [Int.tmod_eq_emod]
    have a := Int.emod_nonneg n (show m ≠ 0 by omega)
    split <;> omega
  have E := Lib.hid e1
  clear e1
  go_enter Tryd.func22, Tryd.ntmps22
  by_cases h : n.tmod m < 0
  · go_wp2
    go_ret
    exact ⟨ret_int (by rw [E.out, if_pos h]), rfl⟩
  · go_wp2
    go_ret
    exact ⟨ret_int (by rw [E.out, if_neg (by omega)]), rfl⟩

theorem strsV_one (l : List Tok) : ∀ u ∈ strsV l, u.oneCell' = true := by
  intro u hu
  obtain ⟨t, _, rfl⟩ := List.mem_map.1 hu
  rfl

theorem row_strs {w : World} {v : Value} {l : List Tok} (h : Row w 9 1 v l.length (strsV l)) : Strs w v l := by
  have h0 := h
  rcases h.2 with ⟨rfl, e⟩ | ⟨g, off, cap, cur, rfl, hg, hle, _⟩
  · exact ⟨none, 0, by rw [e], by omega, fun hne => absurd (List.eq_nil_of_length_eq_zero e) hne⟩
  · exact ⟨_, cap, rfl, hle, fun _ => ⟨g, off, rfl, fun i hi => by rw [(h0.cell i (by omega)).1, strsV_get _ _ hi]⟩⟩

theorem contains_x (T : List Tok) (v : Value) (s : ByteArray) (w : World) (hS : Strs w v T) (hl : T.length ≤ 1000) :
    Calls Tryd.prog 21 #[v, .string s] w fun e w' => e = .returned (.bool (decide (s.data.toList ∈ T))) ∧ w' = w := by
  obtain ⟨ao, cap, rfl, hc, ha⟩ := hS
  by_cases hT : T = []
  · subst hT
    exact (Tryd.slices_Contains_string_empty ao cap s w).mono fun e w' ⟨a, b⟩ => ⟨by rw [a]; simp, b⟩
  · obtain ⟨g, off, rfl, hs⟩ := ha hT
    refine (Tryd.slices_Contains_string g off T.length cap (T.map fun t => ⟨t.toArray⟩) s w (by simp) (by omega) (fun j hj => ?_)).mono fun e w' ⟨a, b⟩ => ⟨?_, b⟩
    · rw [List.length_map] at hj
      rw [hs j hj]
      simp [strAt, List.getD, hj]
    · rw [a]
      congr 2
      rw [Bool.eq_iff_iff, Lib.containsS_iff, decide_eq_true_eq, List.take_of_length_le (by simp), List.mem_map]
      constructor
      · rintro ⟨t, ht, rfl⟩
        simpa using ht
      · intro h
        exact ⟨_, h, by cases s; simp⟩

theorem containsF_x (g : Nat) (lb : Array Value) (p : (Tok × Int) → Bool) (C : World → Prop) (eg : ∀ args w, (callFunc g args).run Tryd.prog w = .ok (.enter g args) w)
    (v : Value) (l : Ents) (w : World) (hrow : Row w 40 2 v l.length (entV l)) (hl : l.length ≤ 1000) (hC : C w) (hk : KeptBy v C) (hp : Tells l g lb p C) :
    Calls Tryd.prog 27 #[v, .func (.func g) #[] lb] w fun e w' => e = .returned (.bool (l.any p)) ∧ Below w.heap.size w w' := by
  rcases first_cases p l with h | ⟨k, x, h1, h2, h3⟩
  · have HI := Lib.hid (index_any g lb p C eg v l w hrow hl hC hk hp (-1) (.inl ⟨rfl, h⟩))
    have hr : l.any p = false := by
      rw [List.any_eq_false]
      intro x hx
      rw [h x hx]; simp
    rw [hr]
    clear hrow hC hk hp h eg
    go_enter Tryd.func27, Tryd.ntmps27
    go_wp2_with fail
    refine HI.out.mono ?_
    rintro e w' ⟨rfl, hb⟩
    go_wp2
    go_ret
    exact ⟨rfl, hb⟩
  · have HI := Lib.hid (index_any g lb p C eg v l w hrow hl hC hk hp k (.inr ⟨k, x, rfl, h1, h2, h3⟩))
    have hr : l.any p = true := by
      rw [List.any_eq_true]
      exact ⟨x, List.mem_of_getElem? h1, h2⟩
    rw [hr]
    have hkz : (0 : Int) ≤ k := by omega
    clear hrow hC hk hp h1 h2 h3 eg
    go_enter Tryd.func27, Tryd.ntmps27
    go_wp2_with fail
    refine HI.out.mono ?_
    rintro e w' ⟨rfl, hb⟩
    go_wp2
    go_ret
    exact ⟨rfl, hb⟩

/-- What the closure leans on. -/
def CapAt (names : List Tok) (vn : Value) (X B0 : Nat) (s : ByteArray) (w : World) : Prop :=
  w.cell? ⟨X, 0, none⟩ = some (.string s) ∧ w.cell? ⟨B0, 0, none⟩ = some vn ∧ Strs w vn names

set_option maxRecDepth 100000 in
theorem tells_n (names : List Tok) (vn : Value) (X B0 : Nat) (s : ByteArray) (l : Ents) (hl : ∀ e ∈ l, ∃ j : Nat, e.2 = (j : Int) ∧ names[j]? = some e.1) :
    Tells l 28 #[.pointer (some ⟨X, 0, none⟩), .pointer (some ⟨B0, 0, none⟩)] (fun p => p.1 == s.data.toList) (CapAt names vn X B0 s) := by
  intro W x hx hC
  show Calls Tryd.prog _ #[.agg #[.string ⟨x.1.toArray⟩, .int .i64 x.2], .pointer (some ⟨X, 0, none⟩), .pointer (some ⟨B0, 0, none⟩)] W fun e w' => e = .returned (.bool (x.1 == s.data.toList)) ∧ Below W.heap.size W w'
  obtain ⟨c1, c2, hS⟩ := hC
  obtain ⟨j, hj1, hj2⟩ := hl x hx
  have hX := World.block_lt_of_cell? W _ c1
  have hB := World.block_lt_of_cell? W _ c2
  simp only at hX hB
  obtain ⟨hjl, ej⟩ := List.getElem?_eq_some_iff.1 hj2
  obtain ⟨ao, cap, rfl, hc, ha⟩ := hS
  obtain ⟨g, off, rfl, hs⟩ := ha (by intro e; rw [e] at hjl; simp at hjl)
  have hcell := hs j hjl
  have hst : strAt names j = ⟨x.1.toArray⟩ := by unfold strAt; simp [List.getD, hjl, ej]
  rw [hst] at hcell
  have hg := World.block_lt_of_cell? W _ hcell
  simp only at hg
  have e1 : (⟨x.1.toArray⟩ : ByteArray).toList = x.1 := Subj.bytes_toList _
  have e2 : s.toList = s.data.toList := ByteArray.toList_eq _
  obtain ⟨p, hp⟩ : ∃ p : ByteArray, (⟨x.1.toArray⟩ : ByteArray) = p := ⟨_, rfl⟩
  rw [hp] at e1 hcell ⊢
  rw [← e1, ← e2, hj1]
  obtain ⟨n, hn⟩ : ∃ n, names.length = n := ⟨_, rfl⟩
  rw [hn] at hjl c2
  have hjz : (j : Int) < n := by omega
  obtain ⟨w1, hw1⟩ : ∃ w1, w1 = W.alloc (.cells #[.string p, .int .i64 j] 40) := ⟨_, rfl⟩
  have hb1 : Below W.heap.size W w1 := by rw [hw1]; exact (Below.refl _ _).alloc (Nat.le_refl _) _
  have hea : w1.heap[W.heap.size]? = some (.cells #[.string p, .int .i64 j] 40 (0, 0)) := by rw [hw1]; exact heap_alloc_new W _
  obtain ⟨bx, hbx⟩ : ∃ bx, W.heap.size = bx := ⟨_, rfl⟩
  have HBX := Lib.hid hbx
  rw [hbx] at hea
  have q0 : w1.cell? ⟨bx, 0, none⟩ = some (.string p) := by rw [cell_of_row w1 bx 0 _ _ _ hea]; rfl
  have q1 : w1.cell? ⟨bx, 1, none⟩ = some (.int .i64 j) := by rw [cell_of_row w1 bx 1 _ _ _ hea]; rfl
  have x1 := (World.cell?_of_block (a := ⟨X, 0, none⟩) (hb1.block X hX)).trans c1
  have x2 := (World.cell?_of_block (a := ⟨B0, 0, none⟩) (hb1.block B0 hB)).trans c2
  have x3 := (World.cell?_of_block (a := ⟨g, off + j, none⟩) (hb1.block g hg)).trans hcell
  have HB1 := Lib.hid hb1
  clear hx hl hs hst hp e1 e2 hj1 hj2 ej ha hc hn hX hB hg hcell c1 c2 hea hb1 hbx
  by_cases heq : p.toList = s.toList
  · have hb2 : (p.toList == s.toList) = true := by simpa using heq
    go_enter Tryd.func28, Tryd.ntmps28
    go_upto_region 1 with fail
    rw [← hw1, HBX.out]
    clear hw1 heq
    go_quiet (fail)
    go_wp2
    go_ret
    exact ⟨by simp [hb2], below_drewN HB1.out _⟩
  · have hb2 : (p.toList == s.toList) = false := by simpa using heq
    go_enter Tryd.func28, Tryd.ntmps28
    go_upto_region 1 with fail
    rw [← hw1, HBX.out]
    clear hw1 heq
    go_quiet (fail)
    go_wp2
    go_ret
    exact ⟨by simp [hb2], below_drewN HB1.out _⟩

/-- The index, the names as they were handed in, and those that are there, in memory. -/
structure FSt (W : World) (B0 x N : Nat) (vn : Value) (L : Ents) (T : List Tok) (v : Value) (w : World) : Prop where
  ex : ∃ M, XAt W M x N L w ∧ ¬ M B0 ∧ ∀ k, own v k → ¬ M k
  cell : w.heap[B0]? = some (.cells #[vn] 43 (0, 0))
  old : W.heap.size ≤ B0
  row : Row w 9 1 v T.length (strsV T)
  mine : ∀ k, own v k → W.heap.size ≤ k ∧ k ≠ B0

section
variable {W w w1 : World} {B0 x N N' : Nat} {vn v v' : Value} {L L' : Ents} {T T' : List Tok}

theorem FSt.below (h : FSt W B0 x N vn L T v w) : Below W.heap.size W w := by
  obtain ⟨M, h1, _⟩ := h.ex
  exact h1.below

theorem FSt.next (h : FSt W B0 x N vn L T v w) (hb : Below w.heap.size w w1) : FSt W B0 x N vn L T v w1 := by
  obtain ⟨M, h1, h2, h3⟩ := h.ex
  exact ⟨⟨M, h1.next hb, h2, h3⟩, (hb.block B0 (heap_lt h.cell)).trans h.cell, h.old, h.row.kept fun k _ hk => hb.block k hk, h.mine⟩

theorem FSt.call (h : FSt W B0 x N vn L T v w) : ∃ M, XAt W M x N L w ∧ ∀ N' L' w1, NextX W M x N' w L' w1 → FSt W B0 x N' vn L' T v w1 := by
  obtain ⟨M, h1, h2, h3⟩ := h.ex
  refine ⟨M, h1, fun N' L' w1 ⟨⟨M', hX, hM⟩, ht⟩ => ⟨⟨M', hX, fun hk => ?_, fun k hk hm => ?_⟩, ?_, h.old, h.row.kept fun k hk hlt => ht.block k hlt (h3 k hk), h.mine⟩⟩
  · rcases hM B0 hk with e | e
    · exact h2 e
    · have := heap_lt h.cell; omega
  · rcases hM k hm with e | e
    · exact h3 k hk e
    · have := h.row.lt k hk; omega
  · exact (ht.block B0 (heap_lt h.cell) h2).trans h.cell

theorem FSt.grow (h : FSt W B0 x N vn L T v w) (ht : Heap.Touch (own v) w w1) (hr : Row w1 9 1 v' T'.length (strsV T')) (ho : ∀ k, own v' k → own v k ∨ w.heap.size ≤ k) : FSt W B0 x N vn L T' v' w1 := by
  obtain ⟨M, h1, h2, h3⟩ := h.ex
  have hB := heap_lt h.cell
  refine ⟨⟨M, h1.kept (h.below.trans (ht.below h.below.size fun k hk => (h.mine k hk).1)) ht.size (ht.same fun k hm hk => h3 k hk hm), h2, fun k hk hm => ?_⟩, (ht.block B0 hB fun hk => (h.mine B0 hk).2 rfl).trans h.cell, h.old, hr, fun k hk => ?_⟩
  · rcases ho k hk with e | e
    · exact h3 k e hm
    · have := h1.bM hm; omega
  · rcases ho k hk with e | e
    · exact h.mine k e
    · exact ⟨Nat.le_trans h.below.size e, by omega⟩
end
end Go.Proofs.YtpmffneohcbhbaaDoor.Shf
