/- Parts of the proof, joined: What a call may turn; a slice that its holder owns, wherever in its array it begins. Over any program.; The tree of nodes in memory. -/
import Derived.Test.YthhingihjpkipaaDoorConsumerDrainsUptoM7
import Derived.Laws.AppendOwn
namespace Go.Proofs.YthhingihjpkipaaDoor.Heap
open Go Go.RowKit

/-- Of the blocks that there were only those of F may have turned. -/
structure Touch (F : Nat → Prop) (w w' : World) : Prop where
  os : w'.os = w.os
  tape : w'.tape = w.tape
  output : w'.output = w.output
  size : w.heap.size ≤ w'.heap.size
  block : ∀ k, k < w.heap.size → ¬ F k → w'.heap[k]? = w.heap[k]?

theorem Touch.refl (F : Nat → Prop) (w : World) : Touch F w w := ⟨rfl, rfl, rfl, Nat.le_refl _, fun _ _ _ => rfl⟩
theorem Touch.mono {F G : Nat → Prop} {w w' : World} (h : Touch F w w') (hG : ∀ k, k < w.heap.size → F k → G k) : Touch G w w' :=
  ⟨h.os, h.tape, h.output, h.size, fun k hk hn => h.block k hk fun hf => hn (hG k hk hf)⟩
theorem Touch.trans {F G : Nat → Prop} {a b c : World} (h : Touch F a b) (k : Touch G b c) (hG : ∀ i, i < a.heap.size → G i → F i) : Touch F a c :=
  ⟨k.os.trans h.os, k.tape.trans h.tape, k.output.trans h.output, Nat.le_trans h.size k.size,
    fun i hi hn => (k.block i (Nat.lt_of_lt_of_le hi h.size) fun hg => hn (hG i hi hg)).trans (h.block i hi hn)⟩
theorem Touch.after {F : Nat → Prop} {a b c : World} (h : Touch F a b) (k : Touch F b c) : Touch F a c := h.trans k fun _ _ hf => hf
theorem Touch.alloc {F : Nat → Prop} {a w : World} (h : Touch F a w) (o : Obj) : Touch F a (w.alloc o) :=
  h.after ⟨rfl, rfl, rfl, by simp, fun k hk _ => Below.heap_alloc _ _ _ hk⟩
theorem Touch.drew {F : Nat → Prop} {a w : World} (h : Touch F a w) : Touch F a w.drew := ⟨h.os, h.tape, h.output, h.size, h.block⟩
theorem Touch.drewN {F : Nat → Prop} {a w : World} (h : Touch F a w) (n : Nat) : Touch F a (w.drewN n) := h.after ⟨rfl, rfl, rfl, Nat.le_refl _, fun _ _ _ => rfl⟩
theorem Touch.setCell {F : Nat → Prop} {a w : World} (h : Touch F a w) {p : Addr} (hp : F p.block ∨ a.heap.size ≤ p.block) (u : Value) : Touch F a (w.setCell p u) :=
  ⟨h.os, h.tape, h.output, by simp [World.setCell]; exact h.size, fun k hk hn => by
    rw [Below.heap_setCell _ _ _ _ (fun e => by subst e; rcases hp with hp | hp; exact hn hp; omega)]; exact h.block k hk hn⟩
theorem Touch.grown {F : Nat → Prop} {a w w' : World} {row : Option Nat} (h : Touch F a w) (hg : w.grownBy w' row) (hr : ∀ k, row = some k → F k ∨ a.heap.size ≤ k) : Touch F a w' :=
  ⟨hg.os.trans h.os, hg.tape.trans h.tape, hg.output.trans h.output, Nat.le_trans h.size hg.size, fun k hk hn =>
    (hg.block k (Nat.lt_of_lt_of_le hk h.size) (fun e => by rcases hr k e.symm with hp | hp; exact hn hp; omega)).trans (h.block k hk hn)⟩
theorem Touch.ofBelow {F : Nat → Prop} {w w' : World} (h : Below w.heap.size w w') : Touch F w w' := ⟨h.os, h.tape, h.output, h.size, fun k hk _ => h.block k hk⟩
theorem Touch.below {F : Nat → Prop} {w w' : World} {B : Nat} (h : Touch F w w') (hB : B ≤ w.heap.size) (hF : ∀ k, F k → B ≤ k) : Below B w w' :=
  ⟨h.os, h.tape, h.output, h.size, fun k hk => h.block k (by omega) fun hf => by have := hF k hf; omega⟩
theorem Touch.cell {F : Nat → Prop} {w w' : World} (h : Touch F w w') {p : Addr} (hp : p.block < w.heap.size) (hn : ¬ F p.block) : w'.cell? p = w.cell? p := World.cell?_of_block (h.block _ hp hn)
theorem Touch.frozen {F : Nat → Prop} {w w' : World} (h : Touch F w w') {p : Addr} (hp : p.block < w.heap.size) (hn : ¬ F p.block) : w'.frozen? p = w.frozen? p := World.frozen?_of_block (h.block _ hp hn)

/-- The blocks of F that there are in w read in w' as they did. -/
def Same (F : Nat → Prop) (w w' : World) : Prop := ∀ k, F k → k < w.heap.size → w'.heap[k]? = w.heap[k]?
theorem Touch.same {F G : Nat → Prop} {w w' : World} (h : Touch F w w') (hd : ∀ k, G k → ¬ F k) : Same G w w' := fun k hg hk => h.block k hk (hd k hg)

theorem heap_lt {w : World} {k : Nat} {o : Obj} (h : w.heap[k]? = some o) : k < w.heap.size := (Array.getElem?_eq_some_iff.1 h).1

/-! ### A row -/

/-- The slice v has n elements of so many cells each, which hold xs; it may begin anywhere in its array. -/
def Row (w : World) (e : TypeId) (size : Nat) (v : Value) (n : Nat) (xs : List Value) : Prop :=
  xs.length = n * size ∧
  ((v = .slice none 0 0 ∧ n = 0) ∨
   ∃ g off cap cur, v = .slice (some ⟨g, off, none⟩) n cap ∧ w.heap[g]? = some (.cells cur e (0, 0)) ∧ n ≤ cap ∧ cap ≤ maxLen ∧ off + cap * size ≤ cur.size ∧ (cur.toList.drop off).take (n * size) = xs)

def own (v : Value) (k : Nat) : Prop := v.ownBlock = some k

section
variable {w : World} {e : TypeId} {size : Nat} {v : Value} {n : Nat} {xs : List Value}

theorem Row.nil (w : World) (e : TypeId) (size : Nat) : Row w e size (.slice none 0 0) 0 [] := ⟨by simp, .inl ⟨rfl, rfl⟩⟩

theorem Row.lt (h : Row w e size v n xs) : ∀ k, own v k → k < w.heap.size := by
  intro k hk
  rcases h.2 with ⟨rfl, _⟩ | ⟨g, off, cap, cur, rfl, hg, _⟩
  · simp [own, Value.ownBlock] at hk
  · simp [own, Value.ownBlock] at hk
    subst hk
    exact heap_lt hg

theorem Row.slice (h : Row w e size v n xs) : ∃ a c, v = .slice a n c := by
  rcases h.2 with ⟨rfl, rfl⟩ | ⟨g, off, cap, cur, rfl, _⟩
  · exact ⟨_, _, rfl⟩
  · exact ⟨_, _, rfl⟩

theorem Row.kept {w' : World} (h : Row w e size v n xs) (hs : Same (own v) w w') : Row w' e size v n xs := by
  refine ⟨h.1, ?_⟩
  rcases h.2 with h2 | ⟨g, off, cap, cur, rfl, hg, r⟩
  · exact .inl h2
  · exact .inr ⟨g, off, cap, cur, rfl, by rw [hs g (by simp [own, Value.ownBlock]) (heap_lt hg)]; exact hg, r⟩

theorem Row.of_own {base : Nat} (h : w.ownsRow base e size v n xs) : Row w e size v n xs := by
  refine ⟨h.1, ?_⟩
  rcases h.2 with h2 | ⟨g, cap, cur, hv, _, hg, h1, h2, h3, h4⟩
  · exact .inl h2
  · exact .inr ⟨g, 0, cap, cur, hv, hg, h1, h2, by omega, by simpa using h4⟩

/-- Its cells. -/
theorem Row.cell {g off cap : Nat} (h : Row w e size (.slice (some ⟨g, off, none⟩) n cap) n xs) (j : Nat) (hj : j < n * size) : w.cell? ⟨g, off + j, none⟩ = xs[j]? ∧ w.frozen? ⟨g, off + j, none⟩ = false := by
  rcases h.2 with ⟨h2, _⟩ | ⟨g', off', cap', cur, hv, hg, h1, h2, h3, h4⟩
  · cases h2
  · simp only [Value.slice.injEq, Option.some.injEq, Addr.mk.injEq] at hv
    obtain ⟨⟨rfl, rfl, _⟩, _, rfl⟩ := hv
    refine ⟨?_, by simp [World.frozen?, hg]⟩
    rw [cell_of_row w g (off + j) cur e (0, 0) hg, ← h4, List.getElem?_take, if_pos hj, List.getElem?_drop]
    simp

theorem Row.cap_le {g off cap : Nat} (h : Row w e size (.slice (some ⟨g, off, none⟩) n cap) n xs) : n ≤ cap ∧ cap ≤ maxLen := by
  rcases h.2 with ⟨h2, _⟩ | ⟨g', off', cap', cur, hv, hg, h1, h2, h3, h4⟩
  · cases h2
  · simp only [Value.slice.injEq, Option.some.injEq, Addr.mk.injEq] at hv
    obtain ⟨⟨rfl, rfl, _⟩, _, rfl⟩ := hv
    exact ⟨h1, h2⟩

/-- One of its cells is written. -/
theorem Row.set {g off cap : Nat} (h : Row w e size (.slice (some ⟨g, off, none⟩) n cap) n xs) (j : Nat) (hj : j < n * size) (u : Value) :
    Row (w.setCell ⟨g, off + j, none⟩ u) e size (.slice (some ⟨g, off, none⟩) n cap) n (xs.set j u) := by
  refine ⟨by rw [List.length_set]; exact h.1, ?_⟩
  rcases h.2 with ⟨h2, _⟩ | ⟨g', off', cap', cur, hv, hg, h1, h2, h3, h4⟩
  · cases h2
  · simp only [Value.slice.injEq, Option.some.injEq, Addr.mk.injEq] at hv
    obtain ⟨⟨rfl, rfl, _⟩, _, rfl⟩ := hv
    refine .inr ⟨g, off, cap, cur.setIfInBounds (off + j) u, rfl, ?_, h1, h2, by simpa using h3, ?_⟩
    · rw [setCell_eq_setRow w g (off + j) cur e (0, 0) u hg]
      exact setRow_heap w g cur _ e _ hg
    · rw [← h4, Array.toList_setIfInBounds]
      apply List.ext_getElem?
      intro i
      simp only [List.getElem?_take, List.getElem?_drop, List.getElem?_set, List.length_take, List.length_drop, Array.length_toList]
      by_cases hi : i < n * size
      · have hle : n * size ≤ cap * size := Nat.mul_le_mul_right _ h1
        by_cases hij : j = i
        · subst hij
          simp [hi, show off + j < cur.size by omega]
          omega
        · simp [hi, hij]
      · by_cases hij : j = i
        · omega
        · simp [hi, hij]

/-- A front of it. -/
theorem Row.front {g off cap : Nat} (h : Row w e size (.slice (some ⟨g, off, none⟩) n cap) n xs) (m : Nat) (hm : m ≤ n) : Row w e size (.slice (some ⟨g, off, none⟩) m cap) m (xs.take (m * size)) := by
  have hle : m * size ≤ n * size := Nat.mul_le_mul_right _ hm
  refine ⟨by rw [List.length_take, h.1]; omega, ?_⟩
  rcases h.2 with ⟨h2, _⟩ | ⟨g', off', cap', cur, hv, hg, h1, h2, h3, h4⟩
  · cases h2
  · simp only [Value.slice.injEq, Option.some.injEq, Addr.mk.injEq] at hv
    obtain ⟨⟨rfl, rfl, _⟩, _, rfl⟩ := hv
    refine .inr ⟨g, off, cap, cur, rfl, hg, by omega, h2, h3, ?_⟩
    rw [← h4, List.take_take]
    congr 1; omega

/-- What is behind its first elements: as 's[m:]' lays it. -/
theorem Row.rest {g off cap : Nat} (h : Row w e size (.slice (some ⟨g, off, none⟩) n cap) n xs) (m : Nat) (hm : m ≤ n) :
    Row w e size (.slice (some (if cap = m then ⟨g, off, none⟩ else ⟨g, off + m * size, none⟩)) (n - m) (cap - m)) (n - m) (xs.drop (m * size)) := by
  have hle : m * size ≤ n * size := Nat.mul_le_mul_right _ hm
  refine ⟨by rw [List.length_drop, h.1, Nat.sub_mul], ?_⟩
  rcases h.2 with ⟨h2, _⟩ | ⟨g', off', cap', cur, hv, hg, h1, h2, h3, h4⟩
  · cases h2
  · simp only [Value.slice.injEq, Option.some.injEq, Addr.mk.injEq] at hv
    obtain ⟨⟨rfl, rfl, _⟩, _, rfl⟩ := hv
    by_cases hc : cap = m
    · subst hc
      rw [if_pos rfl]
      obtain rfl : n = cap := by omega
      refine .inr ⟨g, off, n - n, cur, by simp, hg, by omega, by omega, ?_, ?_⟩
      · simp; omega
      · rw [← h4]; simp
    · rw [if_neg hc]
      refine .inr ⟨g, off + m * size, cap - m, cur, rfl, hg, by omega, by omega, ?_, ?_⟩
      · have : m * size + (cap - m) * size = cap * size := by rw [← Nat.add_mul]; congr 1; omega
        omega
      · rw [← h4, List.drop_take, List.drop_drop, Nat.sub_mul]
end

/-! ### Append -/
section
variable {P : Program} (w : World)

theorem run_append_room' (t ty e : TypeId) (i : TypeInfo) (ht : P.underlying t = some (.slice e)) (hi : P.info? e = some i)
    (g off sLen sCap : Nat) (cur : Array Value) (hg : w.heap[g]? = some (.cells cur e (0, 0)))
    (a : Addr) (m c : Nat) (news : List Value) (hl : news.length = m * i.size) (hnews : ∀ j u, news[j]? = some u → w.cell? (a.add j) = some u) (h1 : ∀ u ∈ news, u.oneCell' = true)
    (hroom : sLen + m ≤ sCap) (hfit : off + sLen * i.size + news.length ≤ cur.size) :
    (Builtin.append_ #[t, t] ty #[.slice (some ⟨g, off, none⟩) sLen sCap, .slice (some a) m c]).run P w =
      .ok (.slice (some ⟨g, off, none⟩) (sLen + m) sCap) (w.setRow g (cur.toList.take (off + sLen * i.size) ++ news ++ cur.toList.drop (off + sLen * i.size + news.length)).toArray) := by
  have hf := run_firstCells_some (P := P) w i.size m a m c news hl hnews
  have hst := run_storeCells_at P g (off + sLen * i.size) e news 0 cur w hg (by simpa using hfit) h1
  simp only [Nat.add_zero] at hst
  have hadd : (⟨g, off, none⟩ : Addr).add (sLen * i.size) = ⟨g, off + sLen * i.size, none⟩ := by unfold Addr.add; split <;> simp_all
  simp [Builtin.append_, run_underlying ht, sizeOf, typeInfo, hi, Builtin.lenOf, hroom, hf, hadd, hst]

theorem run_append_row (t ty e : TypeId) (i : TypeInfo) (z : Value) (size bytes : Nat) (ht : P.underlying t = some (.slice e)) (hi : P.info? e = some i) (hz : i.zero = some z)
    (hsize : i.size = size) (hby : i.bytes = bytes) (hzs : z.cells.size = size) (hsz : 0 < size)
    (v : Value) (n : Nat) (xs : List Value) (hrow : Row w e size v n xs)
    (a : Addr) (m c : Nat) (news : List Value) (hl : news.length = m * size) (hnews : ∀ j u, news[j]? = some u → w.cell? (a.add j) = some u) (h1 : ∀ u ∈ news, u.oneCell' = true)
    (h63 : n + m ≤ maxLen) (hbytes : (n + m) * bytes ≤ 140737488355328) :
    ∃ v' w', (Builtin.append_ #[t, t] ty #[v, .slice (some a) m c]).run P w = .ok v' w' ∧ Row w' e size v' (n + m) (xs ++ news) ∧ Touch (own v) w w' ∧
      (∀ k, own v' k → own v k ∨ w.heap.size ≤ k) := by
  subst hsize
  subst hby
  have hsmall : n + m ≤ 9223372036854775807 := by simp only [maxLen] at h63; omega
  have hlen : (xs ++ news).length = (n + m) * i.size := by rw [List.length_append, hrow.1, hl, Nat.add_mul]
  have grown : ∀ (old : Nat), old < n + m →
      Row (w.drew.alloc (.cells (xs.toArray ++ news.toArray ++ Builtin.zeroCells z.cells (grownCap w (n + m) old e - (n + m))) e)) e i.size
        (.slice (some ⟨w.heap.size, 0, none⟩) (n + m) (grownCap w (n + m) old e)) (n + m) (xs ++ news) := by
    intro old ho
    have hge := grownCap_ge w (n + m) old e
    have hcm : grownCap w (n + m) old e ≤ maxLen := grownCap_le_maxLen w (n + m) old e h63
    refine ⟨hlen, .inr ⟨w.heap.size, 0, _, _, rfl, heap_alloc_new w.drew _, hge, hcm, ?_, ?_⟩⟩
    · simp only [Array.size_append, List.size_toArray, size_zeroCells, hzs, hrow.1, hl, ← Nat.add_mul]
      rw [Nat.zero_add]
      apply Nat.le_of_eq
      congr 1
      omega
    · simp only [Array.toList_append, List.append_assoc, List.drop_zero]
      rw [← List.append_assoc, ← hlen]
      exact List.take_left
  have ht' : ∀ (F : Nat → Prop) (o : Obj), Touch F w (w.drew.alloc o) := fun F o => ((Touch.refl F w).drew).alloc o
  rcases hrow.2 with ⟨rfl, rfl⟩ | ⟨g, off, cap, cur, rfl, hg, hnc, hcm, hcs, htake⟩
  · have hx : xs = [] := List.eq_nil_of_length_eq_zero (by simpa using hrow.1)
    subst hx
    by_cases hm : m = 0
    · subst hm
      have hn : news = [] := List.eq_nil_of_length_eq_zero (by simpa using hl)
      subst hn
      refine ⟨.slice none 0 0, w, ?_, Row.nil w e i.size, Touch.refl _ _, fun k hk => .inl hk⟩
      simp [Builtin.append_, run_underlying ht, sizeOf, typeInfo, hi, Builtin.lenOf, Builtin.firstCells, loadCells, loadCellsFrom]
    · have hr := run_append_nil (P := P) w t ty e i z ht hi hz a m c news hl hnews (by omega) (by omega) (by have hb := hbytes; simp only [Nat.zero_add] at hb; omega)
      have hgr := grown 0 (by omega)
      simp only [Nat.zero_add, List.nil_append, Array.empty_append] at hgr ⊢
      exact ⟨_, _, hr, hgr, ht' _ _, fun k hk => by simp [own, Value.ownBlock] at hk; omega⟩
  · by_cases hroom : n + m ≤ cap
    · have hfit : off + n * i.size + news.length ≤ cur.size := by
        have : (n + m) * i.size ≤ cap * i.size := Nat.mul_le_mul_right _ hroom
        rw [Nat.add_mul] at this
        rw [hl]; omega
      have hr := run_append_room' (P := P) w t ty e i ht hi g off n cap cur hg a m c news hl hnews h1 hroom hfit
      have hsz : (cur.toList.take (off + n * i.size) ++ news ++ cur.toList.drop (off + n * i.size + news.length)).toArray.size = cur.size := by
        simp only [List.size_toArray, List.length_append, List.length_take, List.length_drop, Array.length_toList]
        omega
      refine ⟨_, _, hr, ⟨hlen, .inr ⟨g, off, cap, _, rfl, setRow_heap w g cur _ e _ hg, hroom, hcm, by rw [hsz]; exact hcs, ?_⟩⟩, ⟨rfl, rfl, rfl, by simp, fun k hk hn => setRow_other w g k _ (fun e => hn (by simp [own, Value.ownBlock, e]))⟩, fun k hk => .inl (by simpa [own, Value.ownBlock] using hk)⟩
      have h5 : (cur.toList.take (off + n * i.size)).drop off = xs := by rw [List.drop_take, ← htake]; congr 1; omega
      have hlt : (cur.toList.take (off + n * i.size)).length = off + n * i.size := by rw [List.length_take, Array.length_toList]; omega
      show ((cur.toList.take (off + n * i.size) ++ news ++ cur.toList.drop (off + n * i.size + news.length)).drop off).take ((n + m) * i.size) = xs ++ news
      rw [List.append_assoc, List.drop_append_of_le_length (by omega), h5, ← List.append_assoc, ← hlen]
      exact List.take_left
    · have holds : ∀ j u, xs[j]? = some u → w.cell? ((⟨g, off, none⟩ : Addr).add j) = some u := fun j u hu => by
        have hadd : (⟨g, off, none⟩ : Addr).add j = ⟨g, off + j, none⟩ := by unfold Addr.add; split <;> simp_all
        have hj : j < n * i.size := by
          have := (List.getElem?_eq_some_iff.1 hu).1
          rw [hrow.1] at this; exact this
        rw [hadd, (hrow.cell j hj).1]; exact hu
      have hr := run_append_grow (P := P) w t ty e i z ht hi hz ⟨g, off, none⟩ n cap xs hrow.1 holds a m c news hl hnews (by omega) (by omega) (growslice_fits (by omega) hbytes)
      exact ⟨_, _, hr, grown cap (by omega), ht' _ _, fun k hk => by simp [own, Value.ownBlock] at hk; omega⟩

theorem wp_append_row {o : Oper} {a : Act} {K : Act → World → Prop} {Q : Exit → Act → World → Prop} (s x : Operand) (t : TypeId)
    (ho : o.op = .call { callee := .builtin .append, args := #[s, x], argTypes := #[t, t] })
    (e : TypeId) (i : TypeInfo) (z : Value) (size bytes : Nat) (ht : P.underlying t = some (.slice e)) (hi : P.info? e = some i) (hz : i.zero = some z)
    (hsize : i.size = size) (hby : i.bytes = bytes) (hzs : z.cells.size = size) (hsz : 0 < size)
    (v : Value) (n : Nat) (xs : List Value) (hs : a.eval s = v) (hrow : Row w e size v n xs)
    (ad : Addr) (m c : Nat) (news : List Value) (hx : a.eval x = .slice (some ad) m c) (hl : news.length = m * size) (hnews : ∀ j u, news[j]? = some u → w.cell? (ad.add j) = some u) (h1 : ∀ u ∈ news, u.oneCell' = true)
    (h63 : n + m ≤ maxLen) (hbytes : (n + m) * bytes ≤ 140737488355328)
    (h : ∀ v' w', Row w' e size v' (n + m) (xs ++ news) → Touch (own v) w w' → (∀ k, own v' k → own v k ∨ w.heap.size ≤ k) → K (a.put o.dst v') w') : o.wp P a w K Q := by
  obtain ⟨v', w', hr, h2, h3, h4⟩ := run_append_row (P := P) w t o.type e i z size bytes ht hi hz hsize hby hzs hsz v n xs hrow ad m c news hl hnews h1 h63 hbytes
  unfold Oper.wp execOp
  simp only [ho, resolve, invoke, builtin, Sem.run_bind, Sem.run_pure, Result.andThen_ok, List.map_toArray, List.map_cons, List.map_nil, hs, hx, hr]
  exact h v' w' h2 h3 h4

theorem wpList_append_row {ops : Array Oper} {rest : List Oper} {o : Oper} {a : Act} {Q : Exit → Act → World → Prop} (hgd : o.guard = none) (s x : Operand) (t : TypeId)
    (ho : o.op = .call { callee := .builtin .append, args := #[s, x], argTypes := #[t, t] })
    (e : TypeId) (i : TypeInfo) (z : Value) (size bytes : Nat) (ht : P.underlying t = some (.slice e)) (hi : P.info? e = some i) (hz : i.zero = some z)
    (hsize : i.size = size) (hby : i.bytes = bytes) (hzs : z.cells.size = size) (hsz : 0 < size)
    (v : Value) (n : Nat) (xs : List Value) (hs : a.eval s = v) (hrow : Row w e size v n xs)
    (ad : Addr) (m c : Nat) (news : List Value) (hx : a.eval x = .slice (some ad) m c) (hl : news.length = m * size) (hnews : ∀ j u, news[j]? = some u → w.cell? (ad.add j) = some u) (h1 : ∀ u ∈ news, u.oneCell' = true)
    (h63 : n + m ≤ maxLen) (hbytes : (n + m) * bytes ≤ 140737488355328)
    (h : ∀ v' w', Row w' e size v' (n + m) (xs ++ news) → Touch (own v) w w' → (∀ k, own v' k → own v k ∨ w.heap.size ≤ k) → wpList P ops Q rest (a.put o.dst v') w') : wpList P ops Q (o :: rest) a w :=
  wpList_plain hgd fun _ hK => wp_append_row w s x t ho e i z size bytes ht hi hz hsize hby hzs hsz v n xs hs hrow ad m c news hx hl hnews h1 h63 hbytes fun v' w' h2 h3 h4 => hK _ _ (h v' w' h2 h3 h4)
/-- At a step of a region that draws its order. -/
theorem step_append_row {ops : Array Oper} {o : Oper} {a : Act} {K : Act → World → Prop} {Q : Exit → Act → World → Prop} {E : Prop} (hgd : o.guard = none) (s x : Operand) (t : TypeId)
    (ho : o.op = .call { callee := .builtin .append, args := #[s, x], argTypes := #[t, t] })
    (e : TypeId) (i : TypeInfo) (z : Value) (size bytes : Nat) (ht : P.underlying t = some (.slice e)) (hi : P.info? e = some i) (hz : i.zero = some z)
    (hsize : i.size = size) (hby : i.bytes = bytes) (hzs : z.cells.size = size) (hsz : 0 < size)
    (v : Value) (n : Nat) (xs : List Value) (hs : a.eval s = v) (hrow : Row w e size v n xs)
    (ad : Addr) (m c : Nat) (news : List Value) (hx : a.eval x = .slice (some ad) m c) (hl : news.length = m * size) (hnews : ∀ j u, news[j]? = some u → w.cell? (ad.add j) = some u) (h1 : ∀ u ∈ news, u.oneCell' = true)
    (h63 : n + m ≤ maxLen) (hbytes : (n + m) * bytes ≤ 140737488355328)
    (h : ∀ v' w', Row w' e size v' (n + m) (xs ++ news) → Touch (own v) w w' → (∀ k, own v' k → own v k ∨ w.heap.size ≤ k) → K (a.put o.dst v') w') :
    if Region.wanted o (yielded ops a.tmps) = true then Oper.wp P o a w K Q else E := by
  have hw : Region.wanted o (yielded ops a.tmps) = true := by simp [Region.wanted, hgd]
  rw [if_pos hw]
  exact wp_append_row w s x t ho e i z size bytes ht hi hz hsize hby hzs hsz v n xs hs hrow ad m c news hx hl hnews h1 h63 hbytes h
end

/-- 'clear(s[i:])': what stands ahead of it in the array stays. -/
theorem run_clear_row {P : Program} {w : World} (t e ty : TypeId) (z : Value) (size : Nat) (ht : P.underlying t = some (.slice e)) (hv : ∀ w, (zeroValue e).run P w = .ok z w) (hzs : z.cells.size = size)
    (h1 : ∀ u ∈ z.cells, u.oneCell' = true) (hsz : 0 < size) {g off n cap i : Nat} {xs : List Value} (hrow : Row w e size (.slice (some ⟨g, off, none⟩) n cap) n xs) (hi : i < n) :
    ∃ w', (Builtin.clear_ #[t] ty #[.slice (some ⟨g, off + i * size, none⟩) (n - i) (cap - i)]).run P w = .ok (.tuple #[]) w' ∧
      Row w' e size (.slice (some ⟨g, off, none⟩) i cap) i (xs.take (i * size)) ∧ Touch (own (.slice (some ⟨g, off, none⟩) n cap)) w w' := by
  rcases hrow.2 with ⟨h2, _⟩ | ⟨g', off', cap', cur, hv', hg, ha, hb, hc, hd⟩
  · cases h2
  · simp only [Value.slice.injEq, Option.some.injEq, Addr.mk.injEq] at hv'
    obtain ⟨⟨rfl, rfl, _⟩, _, rfl⟩ := hv'
    have hle : n * size ≤ cap * size := Nat.mul_le_mul_right _ ha
    have hin : i * size + (n - i) * size = n * size := by rw [← Nat.add_mul]; congr 1; omega
    have hzl : (Builtin.zeroCells z.cells (n - i)).toList.length = (n - i) * size := by rw [Array.length_toList, size_zeroCells, hzs]
    have hst := run_storeCells_at P g (off + i * size) e (Builtin.zeroCells z.cells (n - i)).toList 0 cur w hg (by rw [hzl]; omega) (fun u hu => by
      have hu := Array.mem_toList_iff.1 hu
      unfold Builtin.zeroCells at hu
      obtain ⟨j, hj, rfl⟩ := Array.mem_map.1 hu
      have hpos : 0 < z.cells.size := by omega
      rw [getElem!_pos z.cells _ (Nat.mod_lt _ hpos)]
      exact h1 _ (Array.getElem_mem _))
    simp only [Nat.add_zero] at hst
    obtain ⟨m, hm⟩ : ∃ m, n - i = m + 1 := ⟨n - i - 1, by omega⟩
    generalize hR : (cur.toList.take (off + i * size) ++ (Builtin.zeroCells z.cells (n - i)).toList ++ cur.toList.drop (off + i * size + (Builtin.zeroCells z.cells (n - i)).toList.length)).toArray = R at hst
    refine ⟨w.setRow g R, ?_, ⟨by rw [List.length_take, hrow.1]; omega, .inr ⟨g, off, cap, R, rfl, setRow_heap w g cur _ e _ hg, by omega, hb, ?_, ?_⟩⟩, ⟨rfl, rfl, rfl, by simp, fun k hk hn => setRow_other w g k _ (fun e => hn (by simp [own, Value.ownBlock, e]))⟩⟩
    · rw [hm] at hst ⊢
      simp [Builtin.clear_, run_underlying ht, hv, hst]
    · subst hR
      simp only [List.size_toArray, List.length_append, List.length_take, List.length_drop, Array.length_toList, hzl]
      omega
    · subst hR
      rw [← hd, List.take_take, Nat.min_eq_left (by omega)]
      show ((cur.toList.take (off + i * size) ++ _ ++ _).drop off).take (i * size) = _
      rw [List.append_assoc, List.drop_append_of_le_length (by rw [List.length_take, Array.length_toList]; omega), List.take_append_of_le_length (by rw [List.length_drop, List.length_take, Array.length_toList]; omega), List.drop_take, List.take_take]
      congr 1; omega

end Go.Proofs.YthhingihjpkipaaDoor.Heap

namespace Go.Proofs.YthhingihjpkipaaDoor.Idx
open Go.RowKit Heap
open Subj (Tok ML pieces)

abbrev ptrV (k : Nat) : Value := .pointer (some ⟨k, 0, none⟩)
def kidsV (l : List Nat) : List Value := l.map ptrV

theorem kidsV_len (l : List Nat) : (kidsV l).length = l.length := by simp [kidsV]
theorem kidsV_get (l : List Nat) (i : Nat) : (kidsV l)[i]? = l[i]?.map ptrV := by simp [kidsV]
theorem kidsV_one (l : List Nat) : ∀ u ∈ kidsV l, u.oneCell' = true := by
  intro u hu
  obtain ⟨k, _, rfl⟩ := List.mem_map.1 hu
  rfl

/-- A node's block: the root's holds the count, too. -/
def nodeO (x : Nat) (cnt : Nat) (b : Nat) (nd : NodeP) (v : Value) : Obj :=
  if b = x then .cells #[.string ⟨nd.tok.toArray⟩, v, .bool nd.has, .int .i64 nd.n, .int .i64 cnt] 151 (0, 0)
  else .cells #[.string ⟨nd.tok.toArray⟩, v, .bool nd.has, .int .i64 nd.n] 149 (0, 0)

structure IdxAt (W : World) (M : Nat → Prop) (x : Nat) (H : Hp) (vf : Nat → Value) (cnt : Nat) (w : World) : Prop where
  below : Below W.heap.size W w
  newM : ∀ k, M k → W.heap.size ≤ k
  bM : ∀ k, M k → k < w.heap.size
  node : ∀ b nd, H b = some nd → w.heap[b]? = some (nodeO x cnt b nd (vf b))
  row : ∀ b nd, H b = some nd → Row w 154 1 (vf b) nd.kids.length (kidsV nd.kids)
  mem : ∀ b nd, H b = some nd → M b ∧ ∀ k, own (vf b) k → M k
  apart : ∀ b nd c nc k, H b = some nd → H c = some nc → own (vf b) k → own (vf c) k → b = c

theorem node_of {x cnt b : Nat} {nd : NodeP} {v : Value} {w : World} (h : w.heap[b]? = some (nodeO x cnt b nd v)) :
    w.cell? ⟨b, 0, none⟩ = some (.string ⟨nd.tok.toArray⟩) ∧ w.cell? ⟨b, 1, none⟩ = some v ∧ w.cell? ⟨b, 2, none⟩ = some (.bool nd.has) ∧ w.cell? ⟨b, 3, none⟩ = some (.int .i64 nd.n) ∧ ∀ j, w.frozen? ⟨b, j, none⟩ = false := by
  unfold nodeO at h
  split at h
  · refine ⟨?_, ?_, ?_, ?_, fun j => frozen_of_row w b j _ _ h⟩
    · rw [cell_of_row w b 0 _ _ _ h]; rfl
    · rw [cell_of_row w b 1 _ _ _ h]; rfl
    · rw [cell_of_row w b 2 _ _ _ h]; rfl
    · rw [cell_of_row w b 3 _ _ _ h]; rfl
  · refine ⟨?_, ?_, ?_, ?_, fun j => frozen_of_row w b j _ _ h⟩
    · rw [cell_of_row w b 0 _ _ _ h]; rfl
    · rw [cell_of_row w b 1 _ _ _ h]; rfl
    · rw [cell_of_row w b 2 _ _ _ h]; rfl
    · rw [cell_of_row w b 3 _ _ _ h]; rfl

theorem root_of {x cnt : Nat} {nd : NodeP} {v : Value} {w : World} (h : w.heap[x]? = some (nodeO x cnt x nd v)) : w.cell? ⟨x, 4, none⟩ = some (.int .i64 cnt) := by
  unfold nodeO at h
  rw [if_pos rfl] at h
  rw [cell_of_row w x 4 _ _ _ h]; rfl

/-- A store into a node. -/
theorem node_kids {x cnt b : Nat} {nd : NodeP} {v : Value} {w : World} (h : w.heap[b]? = some (nodeO x cnt b nd v)) (u : Value) (ks : List Nat) : (w.setCell ⟨b, 1, none⟩ u).heap[b]? = some (nodeO x cnt b { nd with kids := ks } u) := by
  unfold nodeO at h ⊢
  split at h
  · rename_i e
    rw [heap_setCell_same _ _ _ _ _ _ h, if_pos e]; rfl
  · rename_i e
    rw [heap_setCell_same _ _ _ _ _ _ h, if_neg e]; rfl
theorem node_has {x cnt b : Nat} {nd : NodeP} {v : Value} {w : World} (h : w.heap[b]? = some (nodeO x cnt b nd v)) (y : Bool) (n : Int) : ((w.setCell ⟨b, 2, none⟩ (.bool y)).setCell ⟨b, 3, none⟩ (.int .i64 n)).heap[b]? = some (nodeO x cnt b { nd with has := y, n := n } v) := by
  unfold nodeO at h ⊢
  split at h
  · rename_i e
    have h1 := heap_setCell_same w b 2 _ _ (.bool y) h
    rw [heap_setCell_same _ _ _ _ _ _ h1, if_pos e]; rfl
  · rename_i e
    have h1 := heap_setCell_same w b 2 _ _ (.bool y) h
    rw [heap_setCell_same _ _ _ _ _ _ h1, if_neg e]; rfl
theorem node_cnt {x cnt : Nat} {nd : NodeP} {v : Value} {w : World} (h : w.heap[x]? = some (nodeO x cnt x nd v)) (m : Nat) : (w.setCell ⟨x, 4, none⟩ (.int .i64 m)).heap[x]? = some (nodeO x m x nd v) := by
  unfold nodeO at h ⊢
  rw [if_pos rfl] at h ⊢
  rw [heap_setCell_same _ _ _ _ _ _ h]; rfl

theorem node_cnt_ne {x cnt m b : Nat} {nd : NodeP} {v : Value} (h : b ≠ x) : nodeO x cnt b nd v = nodeO x m b nd v := by
  unfold nodeO; rw [if_neg h, if_neg h]

/-- A row of pointers is no node. -/
theorem own_ne {w : World} {x cnt b n : Nat} {nd : NodeP} {v u : Value} {xs : List Value} (h : w.heap[b]? = some (nodeO x cnt b nd v)) (hr : Row w 154 1 u n xs) : ¬ own u b := fun ho => by
  rcases hr.2 with ⟨rfl, _⟩ | ⟨g, off, cap, cur, rfl, hg, _⟩
  · simp [own, Value.ownBlock] at ho
  · simp [own, Value.ownBlock] at ho
    subst ho
    unfold nodeO at h
    rw [hg] at h
    split at h <;> simp at h

abbrev Grow (M : Nat → Prop) (w w' : World) : Nat → Prop := fun k => (M k ∨ w.heap.size ≤ k) ∧ k < w'.heap.size

def updF (vf : Nat → Value) (b : Nat) (v : Value) : Nat → Value := fun k => if k = b then v else vf k

namespace IdxAt
variable {W w w' : World} {M : Nat → Prop} {x : Nat} {H : Hp} {vf : Nat → Value} {cnt : Nat}

theorem kept (h : IdxAt W M x H vf cnt w) (hb : Below W.heap.size W w') (hsz : w.heap.size ≤ w'.heap.size) (hs : Same M w w') : IdxAt W M x H vf cnt w' := by
  refine ⟨hb, h.newM, fun k hk => Nat.lt_of_lt_of_le (h.bM k hk) hsz, fun b nd e => ?_, fun b nd e => ?_, h.mem, h.apart⟩
  · rw [hs b (h.mem b nd e).1 (h.bM _ (h.mem b nd e).1)]; exact h.node b nd e
  · exact (h.row b nd e).kept fun k hk hlt => hs k ((h.mem b nd e).2 k hk) hlt

theorem next (h : IdxAt W M x H vf cnt w) (hb : Below w.heap.size w w') : IdxAt W M x H vf cnt w' :=
  h.kept (h.below.trans (hb.mono h.below.size)) hb.size fun k _ hk => hb.block k hk

theorem lt (h : IdxAt W M x H vf cnt w) {b : Nat} {nd : NodeP} (e : H b = some nd) : b < w.heap.size := h.bM _ (h.mem b nd e).1
theorem newB (h : IdxAt W M x H vf cnt w) {b : Nat} {nd : NodeP} (e : H b = some nd) : W.heap.size ≤ b := h.newM _ (h.mem b nd e).1

theorem fresh (h : IdxAt W M x H vf cnt w) {k : Nat} (hk : w.heap.size ≤ k) : H k = none := by
  cases e : H k with
  | none => rfl
  | some nd => have := h.lt e; omega

/-- One node is turned. -/
theorem set (h : IdxAt W M x H vf cnt w) {b : Nat} {nd nd' : NodeP} {v' : Value} (hb : H b = some nd) (ht : Heap.Touch (fun k => k = b ∨ own (vf b) k) w w')
    (hn : w'.heap[b]? = some (nodeO x cnt b nd' v')) (hr : Row w' 154 1 v' nd'.kids.length (kidsV nd'.kids)) (ho : ∀ k, own v' k → own (vf b) k ∨ w.heap.size ≤ k) :
    IdxAt W (Grow M w w') x (upd H b nd') (updF vf b v') cnt w' ∧ Heap.Touch M w w' := by
  have htM : Heap.Touch M w w' := ht.mono fun k _ hk => by
    rcases hk with rfl | hk
    · exact (h.mem _ _ hb).1
    · exact (h.mem _ _ hb).2 k hk
  have other : ∀ c nc, c ≠ b → H c = some nc → w'.heap[c]? = w.heap[c]? := fun c nc hc e => ht.block c (h.lt e) (by
    rintro (e2 | e2)
    · exact hc e2
    · exact own_ne (h.node c nc e) (h.row b nd hb) e2)
  refine ⟨⟨h.below.trans (htM.below h.below.size h.newM), fun k hk => ?_, fun k hk => hk.2, fun c nc e => ?_, fun c nc e => ?_, fun c nc e => ?_, fun c nc d ndd k e1 e2 o1 o2 => ?_⟩, htM⟩
  · rcases hk.1 with hk | hk
    · exact h.newM k hk
    · exact Nat.le_trans h.below.size hk
  · unfold upd at e
    unfold updF
    split at e
    · rename_i ec
      subst ec
      cases e
      rw [if_pos rfl]; exact hn
    · rename_i ec
      rw [if_neg ec, other c nc ec e]; exact h.node c nc e
  · unfold upd at e
    unfold updF
    split at e
    · rename_i ec
      subst ec
      cases e
      rw [if_pos rfl]; exact hr
    · rename_i ec
      rw [if_neg ec]
      refine (h.row c nc e).kept fun k hk hlt => ht.block k hlt ?_
      rintro (rfl | e2)
      · exact own_ne (h.node _ _ hb) (h.row c nc e) hk
      · exact ec (h.apart c nc b nd k e hb hk e2)
  · unfold upd at e
    unfold updF
    split at e
    · rename_i ec
      subst ec
      rw [if_pos rfl]
      refine ⟨⟨.inl (h.mem _ _ hb).1, heap_lt hn⟩, fun k hk => ⟨?_, hr.lt k hk⟩⟩
      rcases ho k hk with h2 | h2
      · exact .inl ((h.mem _ _ hb).2 k h2)
      · exact .inr h2
    · rename_i ec
      rw [if_neg ec]
      have := h.mem c nc e
      exact ⟨⟨.inl this.1, Nat.lt_of_lt_of_le (h.bM _ this.1) ht.size⟩, fun k hk => ⟨.inl (this.2 k hk), Nat.lt_of_lt_of_le (h.bM _ (this.2 k hk)) ht.size⟩⟩
  · unfold upd at e1 e2
    unfold updF at o1 o2
    by_cases e3 : c = b
    · by_cases e4 : d = b
      · rw [e3, e4]
      · rw [if_pos e3] at o1
        rw [if_neg e4] at o2 e2
        rcases ho k o1 with h2 | h2
        · exact absurd (h.apart d ndd b nd k e2 hb o2 h2) e4
        · have := h.bM k ((h.mem d ndd e2).2 k o2); omega
    · by_cases e4 : d = b
      · rw [if_neg e3] at o1 e1
        rw [if_pos e4] at o2
        rcases ho k o2 with h2 | h2
        · exact absurd (h.apart c nc b nd k e1 hb o1 h2) e3
        · have := h.bM k ((h.mem c nc e1).2 k o1); omega
      · rw [if_neg e3] at o1 e1
        rw [if_neg e4] at o2 e2
        exact h.apart c nc d ndd k e1 e2 o1 o2

/-- A node more, without kids. -/
theorem add (h : IdxAt W M x H vf cnt w) {k : Nat} {nk : NodeP} (hk : w.heap[k]? = some (nodeO x cnt k nk (.slice none 0 0))) (hn : nk.kids = []) (hM : ¬ M k) (hW : W.heap.size ≤ k) :
    IdxAt W (fun j => M j ∨ j = k) x (upd H k nk) (updF vf k (.slice none 0 0)) cnt w := by
  have hne : ∀ c nc, H c = some nc → c ≠ k := fun c nc e e2 => hM (by rw [← e2]; exact (h.mem c nc e).1)
  have hnil : ∀ j, ¬ own (.slice none 0 0) j := fun j hj => by simp [own, Value.ownBlock] at hj
  refine ⟨h.below, fun j hj => ?_, fun j hj => ?_, fun c nc e => ?_, fun c nc e => ?_, fun c nc e => ?_, fun c nc d ndd j e1 e2 o1 o2 => ?_⟩
  · rcases hj with hj | rfl
    · exact h.newM j hj
    · exact hW
  · rcases hj with hj | rfl
    · exact h.bM j hj
    · exact heap_lt hk
  · unfold upd at e
    unfold updF
    split at e
    · rename_i ec
      subst ec; cases e
      rw [if_pos rfl]; exact hk
    · rename_i ec
      rw [if_neg ec]; exact h.node c nc e
  · unfold upd at e
    unfold updF
    split at e
    · rename_i ec
      subst ec; cases e
      rw [if_pos rfl, hn]; exact Row.nil _ _ _
    · rename_i ec
      rw [if_neg ec]; exact h.row c nc e
  · unfold upd at e
    unfold updF
    split at e
    · rename_i ec
      subst ec
      rw [if_pos rfl]
      exact ⟨.inr rfl, fun j hj => absurd hj (hnil j)⟩
    · rename_i ec
      rw [if_neg ec]
      exact ⟨.inl (h.mem c nc e).1, fun j hj => .inl ((h.mem c nc e).2 j hj)⟩
  · unfold upd at e1 e2
    unfold updF at o1 o2
    split at e1
    · rename_i ec
      rw [if_pos ec] at o1
      exact absurd o1 (hnil j)
    · rename_i ec
      rw [if_neg ec] at o1
      split at e2
      · rename_i ed
        rw [if_pos ed] at o2
        exact absurd o2 (hnil j)
      · rename_i ed
        rw [if_neg ed] at o2
        exact h.apart c nc d ndd j e1 e2 o1 o2

/-- The count is turned. -/
theorem count (h : IdxAt W M x H vf cnt w) {nd : NodeP} (hx : H x = some nd) (m : Nat) : IdxAt W M x H vf m (w.setCell ⟨x, 4, none⟩ (.int .i64 m)) ∧ Heap.Touch M w (w.setCell ⟨x, 4, none⟩ (.int .i64 m)) := by
  have ht : Heap.Touch (fun k => k = x) w (w.setCell ⟨x, 4, none⟩ (.int .i64 m)) := Heap.Touch.setCell (F := fun k => k = x) (p := ⟨x, 4, none⟩) (Heap.Touch.refl _ w) (.inl rfl) _
  have htM : Heap.Touch M w (w.setCell ⟨x, 4, none⟩ (.int .i64 m)) := ht.mono fun k _ e => by subst e; exact (h.mem _ _ hx).1
  refine ⟨⟨h.below.trans (htM.below h.below.size h.newM), h.newM, fun k hk => Nat.lt_of_lt_of_le (h.bM k hk) ht.size, fun b nb e => ?_, fun b nb e => ?_, h.mem, h.apart⟩, htM⟩
  · by_cases hb : b = x
    · subst hb
      exact node_cnt (h.node b nb e) m
    · rw [ht.block b (h.lt e) hb, h.node b nb e, node_cnt_ne hb]
  · exact (h.row b nb e).kept fun k hk hlt => ht.block k hlt fun e2 => own_ne (h.node x nd hx) (h.row b nb e) (e2 ▸ hk)

theorem ext {H' : Hp} {vf' : Nat → Value} (h : IdxAt W M x H vf cnt w) (hH : H' = H) (hv : vf' = vf) : IdxAt W M x H' vf' cnt w := by subst hH hv; exact h

theorem wide (h : IdxAt W M x H vf cnt w) {G : Nat → Prop} (hG : ∀ k, M k → G k) (hn : ∀ k, G k → W.heap.size ≤ k) (hb : ∀ k, G k → k < w.heap.size) : IdxAt W G x H vf cnt w :=
  { h with newM := hn, bM := hb, mem := fun b nd e => ⟨hG _ (h.mem b nd e).1, fun k hk => hG _ ((h.mem b nd e).2 k hk)⟩ }
end IdxAt
end Go.Proofs.YthhingihjpkipaaDoor.Idx
