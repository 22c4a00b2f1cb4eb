/- Parts of the proof, joined: What a call may turn; a slice that its holder owns, wherever in its array it begins. Over any program.; Package subject, walked: token, split, Takes. -/
import Derived.Test.YthhingihjpkipaaDoorStorePlaysUptoM3
import Derived.Laws.AppendOwn
import Derived.Test.YthhingihjpkipaaDoorChecked
import Derived.Test.YthhingihjpkipaaDoorShelf
namespace Go.Proofs.YthhingihjpkipaaDoor.Heap
open Go Go.RowKit

/-- Of the blocks that there were only those of F may have turned. -/
structure Touch (F : Nat → Prop) (w w' : World) : Prop where
  os : w'.os = w.os
  tape : w'.tape = w.tape
  output : w'.output = w.output
  size : w.heap.size ≤ w'.heap.size
  block : ∀ k, k < w.heap.size → ¬ F k → w'.heap[k]? = w.heap[k]?

theorem Touch.refl (F : Nat → Prop) (w : World) : Touch F w w := ⟨rfl, rfl, rfl, Nat.le_refl _, fun _ _ _ => rfl⟩
theorem Touch.mono {F G : Nat → Prop} {w w' : World} (h : Touch F w w') (hG : ∀ k, k < w.heap.size → F k → G k) : Touch G w w' :=
  ⟨h.os, h.tape, h.output, h.size, fun k hk hn => h.block k hk fun hf => hn (hG k hk hf)⟩
theorem Touch.trans {F G : Nat → Prop} {a b c : World} (h : Touch F a b) (k : Touch G b c) (hG : ∀ i, i < a.heap.size → G i → F i) : Touch F a c :=
  ⟨k.os.trans h.os, k.tape.trans h.tape, k.output.trans h.output, Nat.le_trans h.size k.size,
    fun i hi hn => (k.block i (Nat.lt_of_lt_of_le hi h.size) fun hg => hn (hG i hi hg)).trans (h.block i hi hn)⟩
theorem Touch.after {F : Nat → Prop} {a b c : World} (h : Touch F a b) (k : Touch F b c) : Touch F a c := h.trans k fun _ _ hf => hf
theorem Touch.alloc {F : Nat → Prop} {a w : World} (h : Touch F a w) (o : Obj) : Touch F a (w.alloc o) :=
  h.after ⟨rfl, rfl, rfl, by simp, fun k hk _ => Below.heap_alloc _ _ _ hk⟩
theorem Touch.drew {F : Nat → Prop} {a w : World} (h : Touch F a w) : Touch F a w.drew := ⟨h.os, h.tape, h.output, h.size, h.block⟩
theorem Touch.drewN {F : Nat → Prop} {a w : World} (h : Touch F a w) (n : Nat) : Touch F a (w.drewN n) := h.after ⟨rfl, rfl, rfl, Nat.le_refl _, fun _ _ _ => rfl⟩
theorem Touch.setCell {F : Nat → Prop} {a w : World} (h : Touch F a w) {p : Addr} (hp : F p.block ∨ a.heap.size ≤ p.block) (u : Value) : Touch F a (w.setCell p u) :=
  ⟨h.os, h.tape, h.output, by simp [World.setCell]; exact h.size, fun k hk hn => by
    rw [Below.heap_setCell _ _ _ _ (fun e => by subst e; rcases hp with hp | hp; exact hn hp; omega)]; exact h.block k hk hn⟩
theorem Touch.grown {F : Nat → Prop} {a w w' : World} {row : Option Nat} (h : Touch F a w) (hg : w.grownBy w' row) (hr : ∀ k, row = some k → F k ∨ a.heap.size ≤ k) : Touch F a w' :=
  ⟨hg.os.trans h.os, hg.tape.trans h.tape, hg.output.trans h.output, Nat.le_trans h.size hg.size, fun k hk hn =>
    (hg.block k (Nat.lt_of_lt_of_le hk h.size) (fun e => by rcases hr k e.symm with hp | hp; exact hn hp; omega)).trans (h.block k hk hn)⟩
theorem Touch.ofBelow {F : Nat → Prop} {w w' : World} (h : Below w.heap.size w w') : Touch F w w' := ⟨h.os, h.tape, h.output, h.size, fun k hk _ => h.block k hk⟩
theorem Touch.below {F : Nat → Prop} {w w' : World} {B : Nat} (h : Touch F w w') (hB : B ≤ w.heap.size) (hF : ∀ k, F k → B ≤ k) : Below B w w' :=
  ⟨h.os, h.tape, h.output, h.size, fun k hk => h.block k (by omega) fun hf => by have := hF k hf; omega⟩
theorem Touch.cell {F : Nat → Prop} {w w' : World} (h : Touch F w w') {p : Addr} (hp : p.block < w.heap.size) (hn : ¬ F p.block) : w'.cell? p = w.cell? p := World.cell?_of_block (h.block _ hp hn)
theorem Touch.frozen {F : Nat → Prop} {w w' : World} (h : Touch F w w') {p : Addr} (hp : p.block < w.heap.size) (hn : ¬ F p.block) : w'.frozen? p = w.frozen? p := World.frozen?_of_block (h.block _ hp hn)

/-- The blocks of F that there are in w read in w' as they did. -/
def Same (F : Nat → Prop) (w w' : World) : Prop := ∀ k, F k → k < w.heap.size → w'.heap[k]? = w.heap[k]?
theorem Touch.same {F G : Nat → Prop} {w w' : World} (h : Touch F w w') (hd : ∀ k, G k → ¬ F k) : Same G w w' := fun k hg hk => h.block k hk (hd k hg)

theorem heap_lt {w : World} {k : Nat} {o : Obj} (h : w.heap[k]? = some o) : k < w.heap.size := (Array.getElem?_eq_some_iff.1 h).1

/-! ### A row -/

/-- The slice v has n elements of so many cells each, which hold xs; it may begin anywhere in its array. -/
def Row (w : World) (e : TypeId) (size : Nat) (v : Value) (n : Nat) (xs : List Value) : Prop :=
  xs.length = n * size ∧
  ((v = .slice none 0 0 ∧ n = 0) ∨
   ∃ g off cap cur, v = .slice (some ⟨g, off, none⟩) n cap ∧ w.heap[g]? = some (.cells cur e (0, 0)) ∧ n ≤ cap ∧ cap ≤ maxLen ∧ off + cap * size ≤ cur.size ∧ (cur.toList.drop off).take (n * size) = xs)

def own (v : Value) (k : Nat) : Prop := v.ownBlock = some k

section
variable {w : World} {e : TypeId} {size : Nat} {v : Value} {n : Nat} {xs : List Value}

theorem Row.nil (w : World) (e : TypeId) (size : Nat) : Row w e size (.slice none 0 0) 0 [] := ⟨by simp, .inl ⟨rfl, rfl⟩⟩

theorem Row.lt (h : Row w e size v n xs) : ∀ k, own v k → k < w.heap.size := by
  intro k hk
  rcases h.2 with ⟨rfl, _⟩ | ⟨g, off, cap, cur, rfl, hg, _⟩
  · simp [own, Value.ownBlock] at hk
  · simp [own, Value.ownBlock] at hk
    subst hk
    exact heap_lt hg

theorem Row.slice (h : Row w e size v n xs) : ∃ a c, v = .slice a n c := by
  rcases h.2 with ⟨rfl, rfl⟩ | ⟨g, off, cap, cur, rfl, _⟩
  · exact ⟨_, _, rfl⟩
  · exact ⟨_, _, rfl⟩

theorem Row.kept {w' : World} (h : Row w e size v n xs) (hs : Same (own v) w w') : Row w' e size v n xs := by
  refine ⟨h.1, ?_⟩
  rcases h.2 with h2 | ⟨g, off, cap, cur, rfl, hg, r⟩
  · exact .inl h2
  · exact .inr ⟨g, off, cap, cur, rfl, by rw [hs g (by simp [own, Value.ownBlock]) (heap_lt hg)]; exact hg, r⟩

theorem Row.of_own {base : Nat} (h : w.ownsRow base e size v n xs) : Row w e size v n xs := by
  refine ⟨h.1, ?_⟩
  rcases h.2 with h2 | ⟨g, cap, cur, hv, _, hg, h1, h2, h3, h4⟩
  · exact .inl h2
  · exact .inr ⟨g, 0, cap, cur, hv, hg, h1, h2, by omega, by simpa using h4⟩

/-- Its cells. -/
theorem Row.cell {g off cap : Nat} (h : Row w e size (.slice (some ⟨g, off, none⟩) n cap) n xs) (j : Nat) (hj : j < n * size) : w.cell? ⟨g, off + j, none⟩ = xs[j]? ∧ w.frozen? ⟨g, off + j, none⟩ = false := by
  rcases h.2 with ⟨h2, _⟩ | ⟨g', off', cap', cur, hv, hg, h1, h2, h3, h4⟩
  · cases h2
  · simp only [Value.slice.injEq, Option.some.injEq, Addr.mk.injEq] at hv
    obtain ⟨⟨rfl, rfl, _⟩, _, rfl⟩ := hv
    refine ⟨?_, by simp [World.frozen?, hg]⟩
    rw [cell_of_row w g (off + j) cur e (0, 0) hg, ← h4, List.getElem?_take, if_pos hj, List.getElem?_drop]
    simp

theorem Row.cap_le {g off cap : Nat} (h : Row w e size (.slice (some ⟨g, off, none⟩) n cap) n xs) : n ≤ cap ∧ cap ≤ maxLen := by
  rcases h.2 with ⟨h2, _⟩ | ⟨g', off', cap', cur, hv, hg, h1, h2, h3, h4⟩
  · cases h2
  · simp only [Value.slice.injEq, Option.some.injEq, Addr.mk.injEq] at hv
    obtain ⟨⟨rfl, rfl, _⟩, _, rfl⟩ := hv
    exact ⟨h1, h2⟩

/-- One of its cells is written. -/
theorem Row.set {g off cap : Nat} (h : Row w e size (.slice (some ⟨g, off, none⟩) n cap) n xs) (j : Nat) (hj : j < n * size) (u : Value) :
    Row (w.setCell ⟨g, off + j, none⟩ u) e size (.slice (some ⟨g, off, none⟩) n cap) n (xs.set j u) := by
  refine ⟨by rw [List.length_set]; exact h.1, ?_⟩
  rcases h.2 with ⟨h2, _⟩ | ⟨g', off', cap', cur, hv, hg, h1, h2, h3, h4⟩
  · cases h2
  · simp only [Value.slice.injEq, Option.some.injEq, Addr.mk.injEq] at hv
    obtain ⟨⟨rfl, rfl, _⟩, _, rfl⟩ := hv
    refine .inr ⟨g, off, cap, cur.setIfInBounds (off + j) u, rfl, ?_, h1, h2, by simpa using h3, ?_⟩
    · rw [setCell_eq_setRow w g (off + j) cur e (0, 0) u hg]
      exact setRow_heap w g cur _ e _ hg
    · rw [← h4, Array.toList_setIfInBounds]
      apply List.ext_getElem?
      intro i
      simp only [List.getElem?_take, List.getElem?_drop, List.getElem?_set, List.length_take, List.length_drop, Array.length_toList]
      by_cases hi : i < n * size
      · have hle : n * size ≤ cap * size := Nat.mul_le_mul_right _ h1
        by_cases hij : j = i
        · subst hij
          simp [hi, show off + j < cur.size by omega]
          omega
        · simp [hi, hij]
      · by_cases hij : j = i
        · omega
        · simp [hi, hij]

/-- A front of it. -/
theorem Row.front {g off cap : Nat} (h : Row w e size (.slice (some ⟨g, off, none⟩) n cap) n xs) (m : Nat) (hm : m ≤ n) : Row w e size (.slice (some ⟨g, off, none⟩) m cap) m (xs.take (m * size)) := by
  have hle : m * size ≤ n * size := Nat.mul_le_mul_right _ hm
  refine ⟨by rw [List.length_take, h.1]; omega, ?_⟩
  rcases h.2 with ⟨h2, _⟩ | ⟨g', off', cap', cur, hv, hg, h1, h2, h3, h4⟩
  · cases h2
  · simp only [Value.slice.injEq, Option.some.injEq, Addr.mk.injEq] at hv
    obtain ⟨⟨rfl, rfl, _⟩, _, rfl⟩ := hv
    refine .inr ⟨g, off, cap, cur, rfl, hg, by omega, h2, h3, ?_⟩
    rw [← h4, List.take_take]
    congr 1; omega

/-- What is behind its first elements: as 's[m:]' lays it. -/
theorem Row.rest {g off cap : Nat} (h : Row w e size (.slice (some ⟨g, off, none⟩) n cap) n xs) (m : Nat) (hm : m ≤ n) :
    Row w e size (.slice (some (if cap = m then ⟨g, off, none⟩ else ⟨g, off + m * size, none⟩)) (n - m) (cap - m)) (n - m) (xs.drop (m * size)) := by
  have hle : m * size ≤ n * size := Nat.mul_le_mul_right _ hm
  refine ⟨by rw [List.length_drop, h.1, Nat.sub_mul], ?_⟩
  rcases h.2 with ⟨h2, _⟩ | ⟨g', off', cap', cur, hv, hg, h1, h2, h3, h4⟩
  · cases h2
  · simp only [Value.slice.injEq, Option.some.injEq, Addr.mk.injEq] at hv
    obtain ⟨⟨rfl, rfl, _⟩, _, rfl⟩ := hv
    by_cases hc : cap = m
    · subst hc
      rw [if_pos rfl]
      obtain rfl : n = cap := by omega
      refine .inr ⟨g, off, n - n, cur, by simp, hg, by omega, by omega, ?_, ?_⟩
      · simp; omega
      · rw [← h4]; simp
    · rw [if_neg hc]
      refine .inr ⟨g, off + m * size, cap - m, cur, rfl, hg, by omega, by omega, ?_, ?_⟩
      · have : m * size + (cap - m) * size = cap * size := by rw [← Nat.add_mul]; congr 1; omega
        omega
      · rw [← h4, List.drop_take, List.drop_drop, Nat.sub_mul]
end

/-! ### Append -/
section
variable {P : Program} (w : World)

theorem run_append_room' (t ty e : TypeId) (i : TypeInfo) (ht : P.underlying t = some (.slice e)) (hi : P.info? e = some i)
    (g off sLen sCap : Nat) (cur : Array Value) (hg : w.heap[g]? = some (.cells cur e (0, 0)))
    (a : Addr) (m c : Nat) (news : List Value) (hl : news.length = m * i.size) (hnews : ∀ j u, news[j]? = some u → w.cell? (a.add j) = some u) (h1 : ∀ u ∈ news, u.oneCell' = true)
    (hroom : sLen + m ≤ sCap) (hfit : off + sLen * i.size + news.length ≤ cur.size) :
    (Builtin.append_ #[t, t] ty #[.slice (some ⟨g, off, none⟩) sLen sCap, .slice (some a) m c]).run P w =
      .ok (.slice (some ⟨g, off, none⟩) (sLen + m) sCap) (w.setRow g (cur.toList.take (off + sLen * i.size) ++ news ++ cur.toList.drop (off + sLen * i.size + news.length)).toArray) := by
  have hf := run_firstCells_some (P := P) w i.size m a m c news hl hnews
  have hst := run_storeCells_at P g (off + sLen * i.size) e news 0 cur w hg (by simpa using hfit) h1
  simp only [Nat.add_zero] at hst
  have hadd : (⟨g, off, none⟩ : Addr).add (sLen * i.size) = ⟨g, off + sLen * i.size, none⟩ := by unfold Addr.add; split <;> simp_all
  simp [Builtin.append_, run_underlying ht, sizeOf, typeInfo, hi, Builtin.lenOf, hroom, hf, hadd, hst]

theorem run_append_row (t ty e : TypeId) (i : TypeInfo) (z : Value) (size bytes : Nat) (ht : P.underlying t = some (.slice e)) (hi : P.info? e = some i) (hz : i.zero = some z)
    (hsize : i.size = size) (hby : i.bytes = bytes) (hzs : z.cells.size = size) (hsz : 0 < size)
    (v : Value) (n : Nat) (xs : List Value) (hrow : Row w e size v n xs)
    (a : Addr) (m c : Nat) (news : List Value) (hl : news.length = m * size) (hnews : ∀ j u, news[j]? = some u → w.cell? (a.add j) = some u) (h1 : ∀ u ∈ news, u.oneCell' = true)
    (h63 : n + m ≤ maxLen) (hbytes : (n + m) * bytes ≤ 140737488355328) :
    ∃ v' w', (Builtin.append_ #[t, t] ty #[v, .slice (some a) m c]).run P w = .ok v' w' ∧ Row w' e size v' (n + m) (xs ++ news) ∧ Touch (own v) w w' ∧
      (∀ k, own v' k → own v k ∨ w.heap.size ≤ k) := by
  subst hsize
  subst hby
  have hsmall : n + m ≤ 9223372036854775807 := by simp only [maxLen] at h63; omega
  have hlen : (xs ++ news).length = (n + m) * i.size := by rw [List.length_append, hrow.1, hl, Nat.add_mul]
  have grown : ∀ (old : Nat), old < n + m →
      Row (w.drew.alloc (.cells (xs.toArray ++ news.toArray ++ Builtin.zeroCells z.cells (grownCap w (n + m) old e - (n + m))) e)) e i.size
        (.slice (some ⟨w.heap.size, 0, none⟩) (n + m) (grownCap w (n + m) old e)) (n + m) (xs ++ news) := by
    intro old ho
    have hge := grownCap_ge w (n + m) old e
    have hcm : grownCap w (n + m) old e ≤ maxLen := grownCap_le_maxLen w (n + m) old e h63
    refine ⟨hlen, .inr ⟨w.heap.size, 0, _, _, rfl, heap_alloc_new w.drew _, hge, hcm, ?_, ?_⟩⟩
    · simp only [Array.size_append, List.size_toArray, size_zeroCells, hzs, hrow.1, hl, ← Nat.add_mul]
      rw [Nat.zero_add]
      apply Nat.le_of_eq
      congr 1
      omega
    · simp only [Array.toList_append, List.append_assoc, List.drop_zero]
      rw [← List.append_assoc, ← hlen]
      exact List.take_left
  have ht' : ∀ (F : Nat → Prop) (o : Obj), Touch F w (w.drew.alloc o) := fun F o => ((Touch.refl F w).drew).alloc o
  rcases hrow.2 with ⟨rfl, rfl⟩ | ⟨g, off, cap, cur, rfl, hg, hnc, hcm, hcs, htake⟩
  · have hx : xs = [] := List.eq_nil_of_length_eq_zero (by simpa using hrow.1)
    subst hx
    by_cases hm : m = 0
    · subst hm
      have hn : news = [] := List.eq_nil_of_length_eq_zero (by simpa using hl)
      subst hn
      refine ⟨.slice none 0 0, w, ?_, Row.nil w e i.size, Touch.refl _ _, fun k hk => .inl hk⟩
      simp [Builtin.append_, run_underlying ht, sizeOf, typeInfo, hi, Builtin.lenOf, Builtin.firstCells, loadCells, loadCellsFrom]
    · have hr := run_append_nil (P := P) w t ty e i z ht hi hz a m c news hl hnews (by omega) (by omega) (by have hb := hbytes; simp only [Nat.zero_add] at hb; omega)
      have hgr := grown 0 (by omega)
      simp only [Nat.zero_add, List.nil_append, Array.empty_append] at hgr ⊢
      exact ⟨_, _, hr, hgr, ht' _ _, fun k hk => by simp [own, Value.ownBlock] at hk; omega⟩
  · by_cases hroom : n + m ≤ cap
    · have hfit : off + n * i.size + news.length ≤ cur.size := by
        have : (n + m) * i.size ≤ cap * i.size := Nat.mul_le_mul_right _ hroom
        rw [Nat.add_mul] at this
        rw [hl]; omega
      have hr := run_append_room' (P := P) w t ty e i ht hi g off n cap cur hg a m c news hl hnews h1 hroom hfit
      have hsz : (cur.toList.take (off + n * i.size) ++ news ++ cur.toList.drop (off + n * i.size + news.length)).toArray.size = cur.size := by
        simp only [List.size_toArray, List.length_append, List.length_take, List.length_drop, Array.length_toList]
        omega
      refine ⟨_, _, hr, ⟨hlen, .inr ⟨g, off, cap, _, rfl, setRow_heap w g cur _ e _ hg, hroom, hcm, by rw [hsz]; exact hcs, ?_⟩⟩, ⟨rfl, rfl, rfl, by simp, fun k hk hn => setRow_other w g k _ (fun e => hn (by simp [own, Value.ownBlock, e]))⟩, fun k hk => .inl (by simpa [own, Value.ownBlock] using hk)⟩
      have h5 : (cur.toList.take (off + n * i.size)).drop off = xs := by rw [List.drop_take, ← htake]; congr 1; omega
      have hlt : (cur.toList.take (off + n * i.size)).length = off + n * i.size := by rw [List.length_take, Array.length_toList]; omega
      show ((cur.toList.take (off + n * i.size) ++ news ++ cur.toList.drop (off + n * i.size + news.length)).drop off).take ((n + m) * i.size) = xs ++ news
      rw [List.append_assoc, List.drop_append_of_le_length (by omega), h5, ← List.append_assoc, ← hlen]
      exact List.take_left
    · have holds : ∀ j u, xs[j]? = some u → w.cell? ((⟨g, off, none⟩ : Addr).add j) = some u := fun j u hu => by
        have hadd : (⟨g, off, none⟩ : Addr).add j = ⟨g, off + j, none⟩ := by unfold Addr.add; split <;> simp_all
        have hj : j < n * i.size := by
          have := (List.getElem?_eq_some_iff.1 hu).1
          rw [hrow.1] at this; exact this
        rw [hadd, (hrow.cell j hj).1]; exact hu
      have hr := run_append_grow (P := P) w t ty e i z ht hi hz ⟨g, off, none⟩ n cap xs hrow.1 holds a m c news hl hnews (by omega) (by omega) (growslice_fits (by omega) hbytes)
      exact ⟨_, _, hr, grown cap (by omega), ht' _ _, fun k hk => by simp [own, Value.ownBlock] at hk; omega⟩

theorem wp_append_row {o : Oper} {a : Act} {K : Act → World → Prop} {Q : Exit → Act → World → Prop} (s x : Operand) (t : TypeId)
    (ho : o.op = .call { callee := .builtin .append, args := #[s, x], argTypes := #[t, t] })
    (e : TypeId) (i : TypeInfo) (z : Value) (size bytes : Nat) (ht : P.underlying t = some (.slice e)) (hi : P.info? e = some i) (hz : i.zero = some z)
    (hsize : i.size = size) (hby : i.bytes = bytes) (hzs : z.cells.size = size) (hsz : 0 < size)
    (v : Value) (n : Nat) (xs : List Value) (hs : a.eval s = v) (hrow : Row w e size v n xs)
    (ad : Addr) (m c : Nat) (news : List Value) (hx : a.eval x = .slice (some ad) m c) (hl : news.length = m * size) (hnews : ∀ j u, news[j]? = some u → w.cell? (ad.add j) = some u) (h1 : ∀ u ∈ news, u.oneCell' = true)
    (h63 : n + m ≤ maxLen) (hbytes : (n + m) * bytes ≤ 140737488355328)
    (h : ∀ v' w', Row w' e size v' (n + m) (xs ++ news) → Touch (own v) w w' → (∀ k, own v' k → own v k ∨ w.heap.size ≤ k) → K (a.put o.dst v') w') : o.wp P a w K Q := by
  obtain ⟨v', w', hr, h2, h3, h4⟩ := run_append_row (P := P) w t o.type e i z size bytes ht hi hz hsize hby hzs hsz v n xs hrow ad m c news hl hnews h1 h63 hbytes
  unfold Oper.wp execOp
  simp only [ho, resolve, invoke, builtin, Sem.run_bind, Sem.run_pure, Result.andThen_ok, List.map_toArray, List.map_cons, List.map_nil, hs, hx, hr]
  exact h v' w' h2 h3 h4

theorem wpList_append_row {ops : Array Oper} {rest : List Oper} {o : Oper} {a : Act} {Q : Exit → Act → World → Prop} (hgd : o.guard = none) (s x : Operand) (t : TypeId)
    (ho : o.op = .call { callee := .builtin .append, args := #[s, x], argTypes := #[t, t] })
    (e : TypeId) (i : TypeInfo) (z : Value) (size bytes : Nat) (ht : P.underlying t = some (.slice e)) (hi : P.info? e = some i) (hz : i.zero = some z)
    (hsize : i.size = size) (hby : i.bytes = bytes) (hzs : z.cells.size = size) (hsz : 0 < size)
    (v : Value) (n : Nat) (xs : List Value) (hs : a.eval s = v) (hrow : Row w e size v n xs)
    (ad : Addr) (m c : Nat) (news : List Value) (hx : a.eval x = .slice (some ad) m c) (hl : news.length = m * size) (hnews : ∀ j u, news[j]? = some u → w.cell? (ad.add j) = some u) (h1 : ∀ u ∈ news, u.oneCell' = true)
    (h63 : n + m ≤ maxLen) (hbytes : (n + m) * bytes ≤ 140737488355328)
    (h : ∀ v' w', Row w' e size v' (n + m) (xs ++ news) → Touch (own v) w w' → (∀ k, own v' k → own v k ∨ w.heap.size ≤ k) → wpList P ops Q rest (a.put o.dst v') w') : wpList P ops Q (o :: rest) a w :=
  wpList_plain hgd fun _ hK => wp_append_row w s x t ho e i z size bytes ht hi hz hsize hby hzs hsz v n xs hs hrow ad m c news hx hl hnews h1 h63 hbytes fun v' w' h2 h3 h4 => hK _ _ (h v' w' h2 h3 h4)
/-- At a step of a region that draws its order. -/
theorem step_append_row {ops : Array Oper} {o : Oper} {a : Act} {K : Act → World → Prop} {Q : Exit → Act → World → Prop} {E : Prop} (hgd : o.guard = none) (s x : Operand) (t : TypeId)
    (ho : o.op = .call { callee := .builtin .append, args := #[s, x], argTypes := #[t, t] })
    (e : TypeId) (i : TypeInfo) (z : Value) (size bytes : Nat) (ht : P.underlying t = some (.slice e)) (hi : P.info? e = some i) (hz : i.zero = some z)
    (hsize : i.size = size) (hby : i.bytes = bytes) (hzs : z.cells.size = size) (hsz : 0 < size)
    (v : Value) (n : Nat) (xs : List Value) (hs : a.eval s = v) (hrow : Row w e size v n xs)
    (ad : Addr) (m c : Nat) (news : List Value) (hx : a.eval x = .slice (some ad) m c) (hl : news.length = m * size) (hnews : ∀ j u, news[j]? = some u → w.cell? (ad.add j) = some u) (h1 : ∀ u ∈ news, u.oneCell' = true)
    (h63 : n + m ≤ maxLen) (hbytes : (n + m) * bytes ≤ 140737488355328)
    (h : ∀ v' w', Row w' e size v' (n + m) (xs ++ news) → Touch (own v) w w' → (∀ k, own v' k → own v k ∨ w.heap.size ≤ k) → K (a.put o.dst v') w') :
    if Region.wanted o (yielded ops a.tmps) = true then Oper.wp P o a w K Q else E := by
  have hw : Region.wanted o (yielded ops a.tmps) = true := by simp [Region.wanted, hgd]
  rw [if_pos hw]
  exact wp_append_row w s x t ho e i z size bytes ht hi hz hsize hby hzs hsz v n xs hs hrow ad m c news hx hl hnews h1 h63 hbytes h
end

/-- 'clear(s[i:])': what stands ahead of it in the array stays. -/
theorem run_clear_row {P : Program} {w : World} (t e ty : TypeId) (z : Value) (size : Nat) (ht : P.underlying t = some (.slice e)) (hv : ∀ w, (zeroValue e).run P w = .ok z w) (hzs : z.cells.size = size)
    (h1 : ∀ u ∈ z.cells, u.oneCell' = true) (hsz : 0 < size) {g off n cap i : Nat} {xs : List Value} (hrow : Row w e size (.slice (some ⟨g, off, none⟩) n cap) n xs) (hi : i < n) :
    ∃ w', (Builtin.clear_ #[t] ty #[.slice (some ⟨g, off + i * size, none⟩) (n - i) (cap - i)]).run P w = .ok (.tuple #[]) w' ∧
      Row w' e size (.slice (some ⟨g, off, none⟩) i cap) i (xs.take (i * size)) ∧ Touch (own (.slice (some ⟨g, off, none⟩) n cap)) w w' := by
  rcases hrow.2 with ⟨h2, _⟩ | ⟨g', off', cap', cur, hv', hg, ha, hb, hc, hd⟩
  · cases h2
  · simp only [Value.slice.injEq, Option.some.injEq, Addr.mk.injEq] at hv'
    obtain ⟨⟨rfl, rfl, _⟩, _, rfl⟩ := hv'
    have hle : n * size ≤ cap * size := Nat.mul_le_mul_right _ ha
    have hin : i * size + (n - i) * size = n * size := by rw [← Nat.add_mul]; congr 1; omega
    have hzl : (Builtin.zeroCells z.cells (n - i)).toList.length = (n - i) * size := by rw [Array.length_toList, size_zeroCells, hzs]
    have hst := run_storeCells_at P g (off + i * size) e (Builtin.zeroCells z.cells (n - i)).toList 0 cur w hg (by rw [hzl]; omega) (fun u hu => by
      have hu := Array.mem_toList_iff.1 hu
      unfold Builtin.zeroCells at hu
      obtain ⟨j, hj, rfl⟩ := Array.mem_map.1 hu
      have hpos : 0 < z.cells.size := by omega
      rw [getElem!_pos z.cells _ (Nat.mod_lt _ hpos)]
      exact h1 _ (Array.getElem_mem _))
    simp only [Nat.add_zero] at hst
    obtain ⟨m, hm⟩ : ∃ m, n - i = m + 1 := ⟨n - i - 1, by omega⟩
    generalize hR : (cur.toList.take (off + i * size) ++ (Builtin.zeroCells z.cells (n - i)).toList ++ cur.toList.drop (off + i * size + (Builtin.zeroCells z.cells (n - i)).toList.length)).toArray = R at hst
    refine ⟨w.setRow g R, ?_, ⟨by rw [List.length_take, hrow.1]; omega, .inr ⟨g, off, cap, R, rfl, setRow_heap w g cur _ e _ hg, by omega, hb, ?_, ?_⟩⟩, ⟨rfl, rfl, rfl, by simp, fun k hk hn => setRow_other w g k _ (fun e => hn (by simp [own, Value.ownBlock, e]))⟩⟩
    · rw [hm] at hst ⊢
      simp [Builtin.clear_, run_underlying ht, hv, hst]
    · subst hR
      simp only [List.size_toArray, List.length_append, List.length_take, List.length_drop, Array.length_toList, hzl]
      omega
    · subst hR
      rw [← hd, List.take_take, Nat.min_eq_left (by omega)]
      show ((cur.toList.take (off + i * size) ++ _ ++ _).drop off).take (i * size) = _
      rw [List.append_assoc, List.drop_append_of_le_length (by rw [List.length_take, Array.length_toList]; omega), List.take_append_of_le_length (by rw [List.length_drop, List.length_take, Array.length_toList]; omega), List.drop_take, List.take_take]
      congr 1; omega

end Go.Proofs.YthhingihjpkipaaDoor.Heap

namespace Go.Proofs.YthhingihjpkipaaDoor.Subj
open Go.RowKit

/-- The cell of the one variable that strings.Split reads. -/
def ML (w : World) : Prop := ∃ m, w.cell? ⟨0, 0, none⟩ = some (.int .i64 m)

theorem ML.below {w w' : World} (h : ML w) (hb : Below w.heap.size w w') : ML w' := by
  obtain ⟨m, hm⟩ := h
  exact ⟨m, (hb.cell (World.block_lt_of_cell? w _ hm)).trans hm⟩

/-! ### token -/

theorem list_get (s : ByteArray) (k : Nat) (h : k < s.size) : s.data.toList[k]'(by simpa using h) = s[k] := by
  rfl

theorem tokenOk_of (s : ByteArray) (h : ∀ j, (h : j < s.size) → byteOk s[j] = true) : tokenOk s.data.toList = (decide (1 ≤ s.size) && decide (s.size ≤ 16)) := by
  unfold tokenOk
  have h1 : s.data.toList.all byteOk = true := by
    rw [List.all_eq_true]
    intro b hb
    obtain ⟨j, hj, rfl⟩ := List.getElem_of_mem hb
    exact h j (by simpa using hj)
  rw [h1]
  simp

theorem tokenOk_not (s : ByteArray) (j : Nat) (hj : j < s.size) (h : byteOk s[j] = false) : tokenOk s.data.toList = false := by
  unfold tokenOk
  have h1 : s.data.toList.all byteOk = false := by
    rw [List.all_eq_false]
    exact ⟨s[j], by rw [← list_get s j hj]; exact List.getElem_mem _, by simp [h]⟩
  rw [h1]
  simp

set_option maxRecDepth 100000 in
theorem token_any (s : ByteArray) (w : World) (hs : s.size ≤ maxLen) :
    Calls Tryd.prog 101 #[.string s] w fun e w' => e = .returned (.bool (tokenOk s.data.toList)) ∧ w = w' := by
  unfold maxLen at hs
  go_enter Tryd.func101, Tryd.ntmps101
  go_wp2
  go_loop [7] (fun i => ∃ k : Nat, k ≤ s.size ∧ i = .int .i64 k ∧ Hid (∀ j, (h : j < s.size) → j < k → byteOk s[j] = true)) (fun i => s.size - (intOf i).toNat)
  case atStart => exact ⟨0, Nat.zero_le _, rfl, fun j _ h => by omega⟩
  case round =>
    obtain ⟨k, hk, rfl, H⟩ := hrel
    by_cases hlt : k < s.size
    · have hb := s[k].toNat_lt
      by_cases hok : byteOk s[k] = true
      · have hok' := hok
        unfold byteOk at hok'
        simp only [Bool.and_eq_true, decide_eq_true_eq, bne_iff_ne] at hok'
        obtain ⟨⟨⟨b1, b2⟩, b3⟩, b4⟩ := hok'
        have d3 : ((s[k].toNat : Int) == 42) = false := by simp; omega
        have d4 : ((s[k].toNat : Int) == 62) = false := by simp; omega
        have HO := Lib.hid hok
        clear hok b3 b4
        go_wp2
        refine ⟨⟨k + 1, by omega, by go_num, fun j h hj => ?_⟩, by simp [intOf]; omega⟩
        by_cases e : j = k
        · subst e; exact HO.out
        · exact H.out j h (by omega)
      · have hr := tokenOk_not s k hlt (by simpa using hok)
        have HR := Lib.hid hr; clear hr
        by_cases b1 : s[k].toNat < 33
        · go_wp2
          go_ret
          exact ⟨ret_bool HR.out.symm, rfl⟩
        · by_cases b2 : 126 < s[k].toNat
          · go_wp2
            go_ret
            exact ⟨ret_bool HR.out.symm, rfl⟩
          · by_cases b3 : s[k].toNat = 42
            · have d3 : ((s[k].toNat : Int) == 42) = true := by simp; omega
              clear b3
              go_wp2
              go_ret
              exact ⟨ret_bool HR.out.symm, rfl⟩
            · have d3 : ((s[k].toNat : Int) == 42) = false := by simp; omega
              have d4 : ((s[k].toNat : Int) == 62) = true := by
                unfold byteOk at hok
                simp at hok
                simp; omega
              clear b3 hok
              go_wp2
              go_ret
              exact ⟨ret_bool HR.out.symm, rfl⟩
    · have hr := tokenOk_of s (fun j h => H.out j h (by omega))
      have HR := Lib.hid hr; clear hr
      by_cases c1 : 1 ≤ s.size
      · by_cases c2 : s.size ≤ 16
        · have e : (decide (1 ≤ s.size) && decide (s.size ≤ 16)) = true := by simp [c1, c2]
          have E := Lib.hid e; clear e
          go_wp2
          go_ret
          refine ⟨ret_bool ?_, rfl⟩
          rw [HR.out, E.out]
          simp; omega
        · have e : (decide (1 ≤ s.size) && decide (s.size ≤ 16)) = false := by simp; omega
          have E := Lib.hid e; clear e
          go_wp2
          go_ret
          refine ⟨ret_bool ?_, rfl⟩
          rw [HR.out, E.out]
          simp; omega
      · have e : (decide (1 ≤ s.size) && decide (s.size ≤ 16)) = false := by simp; omega
        have E := Lib.hid e; clear e
        go_wp2
        go_ret
        exact ⟨ret_bool (by rw [HR.out, E.out]), rfl⟩

/-! ### split -/

/-- Text number i of a row of texts. -/
def strAt (l : List Tok) (i : Nat) : ByteArray := ⟨(l.getD i []).toArray⟩

/-- At block g, from cell off on, lie these texts. -/
def StrsAt (w : World) (g off : Nat) (l : List Tok) : Prop := ∀ i, i < l.length → w.cell? ⟨g, off + i, none⟩ = some (.string (strAt l i))

theorem StrsAt.below {w w' : World} {g off : Nat} {l : List Tok} (h : StrsAt w g off l) (hb : Below w.heap.size w w') : StrsAt w' g off l := fun i hi =>
  (hb.cell (World.block_lt_of_cell? w _ (h i hi))).trans (h i hi)

theorem StrsAt.tail {w : World} {g off : Nat} {t : Tok} {l : List Tok} (h : StrsAt w g off (t :: l)) : StrsAt w g (off + 1) l := fun i hi => by
  have := h (i + 1) (by simpa using hi)
  rw [show off + 1 + i = off + (i + 1) by omega]
  exact this

/-- What 'Split' leaves: its pieces. -/
theorem strsAt_made (w : World) (s : ByteArray) (e : TypeId) :
    StrsAt (w.alloc (.cells ((Lib.splitB ⟨#[46]⟩ 0 (Lib.countB s ⟨#[46]⟩) s).map Value.string).toArray e)) w.heap.size 0 (pieces s.data.toList) := by
  intro i hi
  have hd := Lib.splitB_data ⟨#[46]⟩ 0 (Lib.countB s ⟨#[46]⟩) s
  have hc : Lib.countB s ⟨#[46]⟩ = s.data.toList.count 46 := by
    show Lib.count s.data.toList [46] = _
    exact Lib.count_one 46 _
  have hp : Lib.splitK [46] 0 (Lib.countB s ⟨#[46]⟩) s.data.toList = pieces s.data.toList := splitK_pieces _ _ (by rw [pieces_len, hc]; omega)
  have hd' : (Lib.splitB ⟨#[46]⟩ 0 (Lib.countB s ⟨#[46]⟩) s).map (·.data.toList) = pieces s.data.toList := hd.trans hp
  generalize Lib.splitB ⟨#[46]⟩ 0 (Lib.countB s ⟨#[46]⟩) s = q at *
  rw [World.cell?_alloc_at _ _ _ _ rfl, Nat.zero_add]
  rw [← hd'] at hi ⊢
  have hi' : i < q.length := by simpa using hi
  unfold strAt
  simp [hi']

theorem countB_dot (s : ByteArray) : Lib.countB s ⟨#[46]⟩ + 1 = (pieces s.data.toList).length := by
  rw [pieces_len]
  show Lib.count s.data.toList [46] + 1 = _
  rw [Lib.count_one 46 _]

set_option maxRecDepth 100000 in
theorem split_large (s : ByteArray) (wild : Bool) (w : World) (hs : s.size ≤ 1048576) (hm : ML w) (he : 8 < (pieces s.data.toList).length) :
    Calls Tryd.prog 64 #[.string s, .bool wild] w fun e w' => e = .returned (.tuple #[.slice none 0 0, .int .i64 2]) ∧ Below w.heap.size w w' := by
  obtain ⟨m, hm⟩ := hm
  have hc := Tryd.strings_Split s ⟨#[46]⟩ m w (by omega) hm (by decide)
  rw [countB_dot] at hc
  have hb := (Below.refl w.heap.size w).alloc (Nat.le_refl _) (.cells ((Lib.splitB ⟨#[46]⟩ 0 (Lib.countB s ⟨#[46]⟩) s).map Value.string).toArray 9)
  have HC := Lib.hid hc; clear hc
  generalize w.alloc (.cells ((Lib.splitB ⟨#[46]⟩ 0 (Lib.countB s ⟨#[46]⟩) s).map Value.string).toArray 9) = W at *
  have hp : (pieces s.data.toList).length ≤ 1048577 := by
    rw [pieces_len]; have := List.count_le_length (a := 46) (l := s.data.toList); rw [show s.data.toList.length = s.size by simp] at this; omega
  generalize (pieces s.data.toList).length = n at *
  go_enter Tryd.func64, Tryd.ntmps64
  go_wp2_with fail
  refine HC.out.mono ?_
  rintro e w' ⟨rfl, rfl⟩
  go_wp2
  go_ret2
  exact ⟨rfl, hb⟩

/-- Is token number i right? -/
def okAt (wild : Bool) (l : List Tok) (i : Nat) : Bool := (wild && (l.getD i [] == [42] || (l.getD i [] == [62] && decide (i + 1 = l.length)))) || tokenOk (l.getD i [])

theorem okPieces_iff (wild : Bool) : ∀ l : List Tok, okPieces wild l = true ↔ ∀ i, i < l.length → okAt wild l i = true
  | [] => by simp [okPieces]
  | t :: ts => by
    have ih := okPieces_iff wild ts
    have h0 : okAt wild (t :: ts) 0 = ((wild && (t == [42] || (t == [62] && ts.isEmpty))) || tokenOk t) := by
      unfold okAt
      have : decide (0 + 1 = (t :: ts).length) = ts.isEmpty := by cases ts <;> simp
      rw [this]
      rfl
    have hs : ∀ i, okAt wild (t :: ts) (i + 1) = okAt wild ts i := by
      intro i
      unfold okAt
      simp
    unfold okPieces
    rw [Bool.and_eq_true, ih, ← h0]
    constructor
    · rintro ⟨h1, h2⟩ i hi
      cases i with
      | zero => exact h1
      | succ i => rw [hs]; exact h2 i (by simpa using hi)
    · intro h
      exact ⟨h 0 (by simp), fun i hi => by rw [← hs]; exact h (i + 1) (by simpa using hi)⟩

theorem strAt_toList (l : List Tok) (i : Nat) : (strAt l i).toList = l.getD i [] := by
  rw [ByteArray.toList_eq]; simp [strAt]

theorem strAt_list (l : List Tok) (i : Nat) : (strAt l i).data.toList = l.getD i [] := by simp [strAt]

/-- What 'split' answers. -/
def SplitPost (w : World) (l : List Tok) (er : Nat) (e : Ending) (w' : World) : Prop :=
  Below w.heap.size w w' ∧ ((er = 0 ∧ e = .returned (.tuple #[.slice (some ⟨w.heap.size, 0, none⟩) l.length l.length, .int .i64 0]) ∧ StrsAt w' w.heap.size 0 l) ∨
    (er ≠ 0 ∧ e = .returned (.tuple #[.slice none 0 0, .int .i64 er])))

theorem pieces_size (s : ByteArray) (hs : s.size ≤ 1048576) : (pieces s.data.toList).length ≤ 1048577 := by
  rw [pieces_len]; have := List.count_le_length (a := 46) (l := s.data.toList); rw [show s.data.toList.length = s.size by simp] at this; omega

theorem pieces_each (s : List UInt8) : ∀ i, ((pieces s).getD i []).length ≤ s.length := by
  induction s with
  | nil => intro i; cases i <;> simp [pieces]
  | cons b s ih =>
    intro i
    unfold pieces
    split
    · cases i with
      | zero => simp
      | succ i => have := ih i; simp only [List.getD_cons_succ, List.length_cons]; omega
    · split
      · rename_i p ps e
        rw [e] at ih
        cases i with
        | zero => have := ih 0; simpa using this
        | succ i => have := ih (i + 1); simp only [List.getD_cons_succ, List.length_cons] at this ⊢; omega
      · cases i <;> simp

set_option maxRecDepth 100000 in
theorem split_any (s : ByteArray) (wild : Bool) (w : World) (hs : s.size ≤ 1048576) (hm : ML w) :
    Calls Tryd.prog 64 #[.string s, .bool wild] w (SplitPost w (pieces s.data.toList) (err wild s.data.toList)) := by
  by_cases he : 8 < (pieces s.data.toList).length
  · refine (split_large s wild w hs hm he).mono ?_
    rintro e w' ⟨rfl, hb⟩
    have : err wild s.data.toList = 2 := by unfold err; rw [if_pos he]
    rw [this]
    exact ⟨hb, .inr ⟨by decide, rfl⟩⟩
  obtain ⟨m, hm⟩ := hm
  have hc := Tryd.strings_Split s ⟨#[46]⟩ m w (by omega) hm (by decide)
  rw [countB_dot] at hc
  have hb := (Below.refl w.heap.size w).alloc (Nat.le_refl _) (.cells ((Lib.splitB ⟨#[46]⟩ 0 (Lib.countB s ⟨#[46]⟩) s).map Value.string).toArray 9)
  have hst := strsAt_made w s 9
  have herr : err wild s.data.toList = if okPieces wild (pieces s.data.toList) then 0 else 3 := by unfold err; rw [if_neg he]
  obtain ⟨er, her⟩ : ∃ er, err wild s.data.toList = er := ⟨_, rfl⟩
  rw [her]
  rw [herr] at her
  have hsz : ∀ i, (strAt (pieces s.data.toList) i).size ≤ maxLen := fun i => by
    have := pieces_each s.data.toList i
    have h2 : (strAt (pieces s.data.toList) i).size = ((pieces s.data.toList).getD i []).length := by
      show ((pieces s.data.toList).getD i []).toArray.size = _; simp
    rw [h2]
    have h3 : s.data.toList.length = s.size := by simp
    unfold maxLen; omega
  generalize w.alloc (.cells ((Lib.splitB ⟨#[46]⟩ 0 (Lib.countB s ⟨#[46]⟩) s).map Value.string).toArray 9) = W at *
  generalize pieces s.data.toList = l at *
  obtain ⟨n, hn⟩ : ∃ n, l.length = n := ⟨_, rfl⟩
  rw [hn] at hc he
  have HC := Lib.hid hc
  have HST := Lib.hid hst
  have HSZ := Lib.hid hsz
  have HN := Lib.hid hn
  have HER := Lib.hid her
  clear hc hst hsz hn herr her
  go_enter Tryd.func64, Tryd.ntmps64
  go_wp2_with fail
  refine HC.out.mono ?_
  rintro e w' ⟨rfl, rfl⟩
  go_wp2
  go_loop [16] (fun i => ∃ k : Nat, k ≤ n ∧ i = .int .i64 k ∧ Hid (∀ j, j < k → okAt wild l j = true)) (fun i => n - (intOf i).toNat)
  case atStart => exact ⟨0, Nat.zero_le _, rfl, fun j h => by omega⟩
  case round =>
    obtain ⟨k, hk, rfl, HK⟩ := hrel
    by_cases hlt : k < n
    · have hcell := HST.out k (by rw [HN.out]; exact hlt)
      rw [Nat.zero_add] at hcell
      have htok := token_any (strAt l k) w' (HSZ.out k)
      rw [strAt_list] at htok
      have hdef : okAt wild l k = ((wild && (l.getD k [] == [42] || (l.getD k [] == [62] && decide (k + 1 = n)))) || tokenOk (l.getD k [])) := by unfold okAt; rw [HN.out]
      have htl := strAt_toList l k
      have HT := Lib.hid htok; clear htok
      have HD := Lib.hid hdef; clear hdef
      have HL := Lib.hid htl; clear htl
      -- the round's end where the token is right
      have hnext : okAt wild l k = true → ∃ k' : Nat, k' ≤ n ∧ Value.int .i64 ((k : Int) + 1) = .int .i64 k' ∧ Hid (∀ j, j < k' → okAt wild l j = true) := fun h =>
        ⟨k + 1, by omega, by go_num, fun j hj => by
          by_cases e : j = k
          · subst e; exact h
          · exact HK.out j (by omega)⟩
      have HX := Lib.hid hnext; clear hnext
      have hlast : ((k : Int) == (n : Int) - 1) = decide (k + 1 = n) := by
        rw [Bool.eq_iff_iff]; simp; omega
      have HLa := Lib.hid hlast; clear hlast
      have hbad : okAt wild l k = false → okPieces wild l = false := fun h => by
        cases ho : okPieces wild l with
        | false => rfl
        | true => rw [okPieces_iff] at ho; rw [ho k (by rw [HN.out]; exact hlt)] at h; cases h
      have HB := Lib.hid hbad; clear hbad
      cases wild with
      | false =>
        have hd := HD.out
        simp only [Bool.false_and, Bool.false_or] at hd
        by_cases hok : tokenOk (l.getD k []) = true
        · have HO := Lib.hid hok
          clear hok hd
          go_wp2_with fail
          refine HT.out.mono ?_
          rw [HO.out]
          rintro e w'' ⟨rfl, rfl⟩
          go_wp2
          exact ⟨HX.out (by rw [HD.out, HO.out]; rfl), by simp [intOf]; omega⟩
        · have hok' : tokenOk (l.getD k []) = false := by simpa using hok
          have HO := Lib.hid hok'
          clear hok hok' hd
          go_wp2_with fail
          refine HT.out.mono ?_
          rw [HO.out]
          rintro e w'' ⟨rfl, rfl⟩
          go_wp2
          go_ret2
          have h3 : er = 3 := by
            rw [← HER.out, HB.out (by rw [HD.out, HO.out]; rfl)]; rfl
          subst h3
          exact ⟨hb, .inr ⟨by decide, rfl⟩⟩
      | true =>
        by_cases c1 : l.getD k [] = [42]
        · have hok : okAt true l k = true := by rw [HD.out, c1]; rfl
          have d1 : (strAt l k).toList = [42] := by rw [HL.out, c1]
          have HO := Lib.hid hok
          have d2 : ((strAt l k).toList == [42]) = true := by simp [d1]
          clear hok c1
          go_wp2
          exact ⟨HX.out HO.out, by simp [intOf]; omega⟩
        · have d1 : ¬ (strAt l k).toList = [42] := by rw [HL.out]; exact c1
          have d2 : ((strAt l k).toList == [42]) = false := by simp [d1]
          have C1 := Lib.hid c1; clear c1
          by_cases c2 : l.getD k [] = [62]
          · have d3 : (strAt l k).toList = [62] := by rw [HL.out, c2]
            have d4 : ((strAt l k).toList == [62]) = true := by simp [d3]
            have C2 := Lib.hid c2; clear c2
            by_cases c3 : k + 1 = n
            · have hla : ((k : Int) == (n : Int) - 1) = true := by rw [HLa.out]; simpa using c3
              have C3 := Lib.hid c3; clear c3
              go_wp2
              refine ⟨HX.out ?_, by simp [intOf]; omega⟩
              rw [HD.out, C2.out]
              have := C3.out
              simp [this]
            · have hla : ((k : Int) == (n : Int) - 1) = false := by rw [HLa.out]; simpa using c3
              have C3 := Lib.hid c3; clear c3
              have HO : Hid (tokenOk (l.getD k []) = false) := by show _ = _; rw [C2.out]; decide
              go_wp2_with fail
              refine HT.out.mono ?_
              rw [HO.out]
              rintro e w'' ⟨rfl, rfl⟩
              go_wp2
              go_ret2
              have h3 : er = 3 := by
                rw [← HER.out, HB.out (by rw [HD.out, HO.out, C2.out]; have := C3.out; simp [this])]; rfl
              subst h3
              exact ⟨hb, .inr ⟨by decide, rfl⟩⟩
          · have d3 : ¬ (strAt l k).toList = [62] := by rw [HL.out]; exact c2
            have d4 : ((strAt l k).toList == [62]) = false := by simp [d3]
            have C2 := Lib.hid c2; clear c2
            by_cases hok : tokenOk (l.getD k []) = true
            · have HO := Lib.hid hok
              clear hok
              go_wp2_with fail
              refine HT.out.mono ?_
              rw [HO.out]
              rintro e w'' ⟨rfl, rfl⟩
              go_wp2
              exact ⟨HX.out (by rw [HD.out, HO.out]; simp), by simp [intOf]; omega⟩
            · have hok' : tokenOk (l.getD k []) = false := by simpa using hok
              have HO := Lib.hid hok'
              clear hok hok'
              go_wp2_with fail
              refine HT.out.mono ?_
              rw [HO.out]
              rintro e w'' ⟨rfl, rfl⟩
              go_wp2
              go_ret2
              have h3 : er = 3 := by
                rw [← HER.out, HB.out (by rw [HD.out, HO.out, beq_eq_false_iff_ne.2 C1.out, beq_eq_false_iff_ne.2 C2.out]; rfl)]; rfl
              subst h3
              exact ⟨hb, .inr ⟨by decide, rfl⟩⟩
    · have hall : okPieces wild l = true := by
        rw [okPieces_iff]
        intro i hi
        rw [HN.out] at hi
        exact HK.out i (by omega)
      have h0 : er = 0 := by rw [← HER.out, hall]; rfl
      have H0 := Lib.hid h0; clear hall h0
      go_wp2
      go_ret2
      refine ⟨hb, .inl ⟨H0.out, ?_, HST.out⟩⟩
      rw [HN.out]
      rfl
end Go.Proofs.YthhingihjpkipaaDoor.Subj
