/- The law PullsPlay, walked: it returns true. -/
import Derived.Test.YtglgbidcmkncgaaPullRow
import Derived.Deep.RegionHeld3
namespace Go.Proofs.Ytglgbidcmkncgaa.Pull
open Go.RowKit Heap

/-- Two queues side by side. -/
structure Pair (W : World) (q x : Nat) (lq lx : List Pl) (v u : Value) (w : World) : Prop where
  one : Rep 65 w q v lq
  two : Rep 39 w x u lx
  good1 : Good lq
  good2 : Good lx
  apart : ∀ k, foot q v k → ¬ foot x u k
  new1 : ∀ k, foot q v k → W.heap.size ≤ k
  new2 : ∀ k, foot x u k → W.heap.size ≤ k
  below : Below W.heap.size W w

def Box (B : Nat) (cs : Array Value) (w : World) : Prop := w.heap[B]? = some (.cells cs 41 (0, 0))

def Two (W : World) (q x B : Nat) (cs : Array Value) (lq lx : List Pl) (w : World) : Prop :=
  ∃ v u, Pair W q x lq lx v u w ∧ Box B cs w ∧ ¬ foot q v B ∧ ¬ foot x u B

def Both (W : World) (q x : Nat) (l : List Pl) (w : World) : Prop := ∃ v u, Pair W q x l l v u w

theorem Two.both {W w : World} {q x B : Nat} {cs : Array Value} {l : List Pl} (h : Two W q x B cs l l w) : Both W q x l w := by
  obtain ⟨v, u, hp, _⟩ := h
  exact ⟨v, u, hp⟩

theorem Both.two {W w : World} {q x : Nat} {l : List Pl} (h : Both W q x l w) (cs : Array Value) : Two W q x w.heap.size cs l l (w.alloc (.cells cs 41)) := by
  obtain ⟨v, u, hp⟩ := h
  refine ⟨v, u, ⟨hp.one.kept fun k _ hk => Below.heap_alloc _ _ _ hk, hp.two.kept fun k _ hk => Below.heap_alloc _ _ _ hk, hp.good1, hp.good2, hp.apart, hp.new1, hp.new2, hp.below.alloc hp.below.size _⟩, heap_alloc_new w _, fun hk => ?_, fun hk => ?_⟩
  · exact absurd (hp.one.lt _ hk) (Nat.lt_irrefl _)
  · exact absurd (hp.two.lt _ hk) (Nat.lt_irrefl _)

theorem Two.box {W w : World} {q x B : Nat} {a b c d e : Value} {lq lx : List Pl} (h : Two W q x B #[a, b, c, d, e] lq lx w) :
    w.cell? ⟨B, 0, none⟩ = some a ∧ w.cell? ⟨B, 1, none⟩ = some b ∧ w.cell? ⟨B, 2, none⟩ = some c ∧ w.cell? ⟨B, 3, none⟩ = some d ∧ w.cell? ⟨B, 4, none⟩ = some e := by
  obtain ⟨v, u, _, hb, _⟩ := h
  unfold Box at hb
  exact ⟨cell_of_row w B 0 _ _ (0, 0) hb, cell_of_row w B 1 _ _ (0, 0) hb, cell_of_row w B 2 _ _ (0, 0) hb, cell_of_row w B 3 _ _ (0, 0) hb, cell_of_row w B 4 _ _ (0, 0) hb⟩

theorem Two.drew {W w : World} {q x B : Nat} {cs : Array Value} {lq lx : List Pl} (h : Two W q x B cs lq lx w) : Two W q x B cs lq lx w.drew := by
  obtain ⟨v, u, hp, hb, h1, h2⟩ := h
  exact ⟨v, u, ⟨hp.one.kept fun _ _ _ => rfl, hp.two.kept fun _ _ _ => rfl, hp.good1, hp.good2, hp.apart, hp.new1, hp.new2, hp.below.drew⟩, hb, h1, h2⟩

theorem Two.left {W w : World} {q x B : Nat} {cs : Array Value} {lq lx : List Pl} (h : Two W q x B cs lq lx w) :
    ∃ v, Rep 65 w q v lq ∧ Good lq ∧ ∀ l' r e w', Good l' → Does 65 q v l' r w e w' → e = r ∧ Two W q x B cs l' lx w' := by
  obtain ⟨v, u, hp, hb, h1, h2⟩ := h
  refine ⟨v, hp.one, hp.good1, ?_⟩
  rintro l' r e w' hg ⟨he, v', hr, ht, ho⟩
  have hB : B < w.heap.size := heap_lt hb
  have hfoot : ∀ k, foot q v' k → foot q v k ∨ w.heap.size ≤ k := by
    rintro k (rfl | hk)
    · exact .inl (.inl rfl)
    · exact (ho k hk).imp_left .inr
  refine ⟨he, v', u, ⟨hr, hp.two.touch ht (fun k hk hf => hp.apart k hf hk), hg, hp.good2, fun k hk hf => ?_, fun k hk => ?_, hp.new2, hp.below.trans (ht.below hp.below.size hp.new1)⟩, (ht.block B hB h1).trans hb, fun hk => ?_, h2⟩
  · rcases hfoot k hk with h3 | h3
    · exact hp.apart k h3 hf
    · have := hp.two.lt k hf
      omega
  · rcases hfoot k hk with h3 | h3
    · exact hp.new1 k h3
    · exact Nat.le_trans hp.below.size h3
  · rcases hfoot B hk with h3 | h3
    · exact h1 h3
    · omega

theorem Two.right {W w : World} {q x B : Nat} {cs : Array Value} {lq lx : List Pl} (h : Two W q x B cs lq lx w) :
    ∃ u, Rep 39 w x u lx ∧ Good lx ∧ ∀ l' r e w', Good l' → Does 39 x u l' r w e w' → e = r ∧ Two W q x B cs lq l' w' := by
  obtain ⟨v, u, hp, hb, h1, h2⟩ := h
  refine ⟨u, hp.two, hp.good2, ?_⟩
  rintro l' r e w' hg ⟨he, u', hr, ht, ho⟩
  have hB : B < w.heap.size := heap_lt hb
  have hfoot : ∀ k, foot x u' k → foot x u k ∨ w.heap.size ≤ k := by
    rintro k (rfl | hk)
    · exact .inl (.inl rfl)
    · exact (ho k hk).imp_left .inr
  refine ⟨he, v, u', ⟨hp.one.touch ht (fun k hk hf => hp.apart k hk hf), hr, hp.good1, hg, fun k hk hf => ?_, hp.new1, fun k hk => ?_, hp.below.trans (ht.below hp.below.size hp.new2)⟩, (ht.block B hB h2).trans hb, h1, fun hk => ?_⟩
  · rcases hfoot k hf with h3 | h3
    · exact hp.apart k hk h3
    · have := hp.one.lt k hk
      omega
  · rcases hfoot k hk with h3 | h3
    · exact hp.new2 k h3
    · exact Nat.le_trans hp.below.size h3
  · rcases hfoot B hk with h3 | h3
    · exact h2 h3
    · omega

section
variable {W w : World} {q x B : Nat} {cs : Array Value} {lq lx : List Pl} (now : Int)

theorem ask1 (p : Pl) (h : Two W q x B cs lq lx w) : Calls Try.prog 8 #[.pointer (some ⟨q, 0, none⟩), .int .i64 now, .agg #[.int .i64 p.batch, .int .i64 p.till, .bool p.nowait]] w
    fun e w' => e = .returned (.int .i64 ((askL now p lq).1 : Nat)) ∧ Two W q x B cs (askL now p lq).2 lx w' := by
  obtain ⟨v, hr, hg, hn⟩ := h.left
  exact (ask_any q v lq now p w hr hg).mono fun e w' hd => hn _ _ _ _ (ask_good hg) hd
theorem take1 (h : Two W q x B cs lq lx w) : Calls Try.prog 9 #[.pointer (some ⟨q, 0, none⟩), .int .i64 now] w
    fun e w' => e = .returned (.tuple #[.bool (takeL now lq).1.1, .int .i64 ((takeL now lq).1.2 : Nat)]) ∧ Two W q x B cs (takeL now lq).2 lx w' := by
  obtain ⟨v, hr, hg, hn⟩ := h.left
  exact (take_any q v lq now w hr hg).mono fun e w' hd => hn _ _ _ _ (take_good hg) hd
theorem idle1 (h : Two W q x B cs lq lx w) : Calls Try.prog 14 #[.pointer (some ⟨q, 0, none⟩), .int .i64 now] w
    fun e w' => e = .returned (.tuple #[.int .i64 ((idleL now lq).1.1 : Nat), .int .i64 ((idleL now lq).1.2 : Nat)]) ∧ Two W q x B cs (idleL now lq).2 lx w' := by
  obtain ⟨v, hr, hg, hn⟩ := h.left
  exact (idle_any q v lq now w hr (by have := hg.1; omega)).mono fun e w' hd => hn _ _ _ _ (idle_good hg) hd
theorem waits1 (h : Two W q x B cs lq lx w) : Calls Try.prog 10 #[.pointer (some ⟨q, 0, none⟩), .int .i64 now] w
    fun e w' => e = .returned (.tuple #[.int .i64 ((waitsL now lq).1.1 : Nat), .int .i64 ((waitsL now lq).1.2 : Nat)]) ∧ Two W q x B cs (waitsL now lq).2 lx w' := by
  obtain ⟨v, hr, hg, hn⟩ := h.left
  exact (waits_any q v lq now w hr (by have := hg.1; omega)).mono fun e w' hd => hn _ _ _ _ (waits_good hg) hd
theorem ask2 (p : Pl) (h : Two W q x B cs lq lx w) : Calls Try.prog 12 #[.pointer (some ⟨x, 0, none⟩), .int .i64 now, .agg #[.int .i64 p.batch, .int .i64 p.till, .bool p.nowait]] w
    fun e w' => e = .returned (.int .i64 ((askL now p lx).1 : Nat)) ∧ Two W q x B cs lq (askL now p lx).2 w' := by
  obtain ⟨v, hr, hg, hn⟩ := h.right
  exact (rask_any x v lx now p w hr hg).mono fun e w' hd => hn _ _ _ _ (ask_good hg) hd
theorem take2 (h : Two W q x B cs lq lx w) : Calls Try.prog 13 #[.pointer (some ⟨x, 0, none⟩), .int .i64 now] w
    fun e w' => e = .returned (.tuple #[.bool (takeL now lx).1.1, .int .i64 ((takeL now lx).1.2 : Nat)]) ∧ Two W q x B cs lq (takeL now lx).2 w' := by
  obtain ⟨v, hr, hg, hn⟩ := h.right
  exact (rtake_any x v lx now w hr hg).mono fun e w' hd => hn _ _ _ _ (take_good hg) hd
theorem idle2 (h : Two W q x B cs lq lx w) : Calls Try.prog 15 #[.pointer (some ⟨x, 0, none⟩), .int .i64 now] w
    fun e w' => e = .returned (.tuple #[.int .i64 ((idleL now lx).1.1 : Nat), .int .i64 ((idleL now lx).1.2 : Nat)]) ∧ Two W q x B cs lq (idleL now lx).2 w' := by
  obtain ⟨v, hr, hg, hn⟩ := h.right
  exact (ridle_any x v lx now w hr (by have := hg.1; omega)).mono fun e w' hd => hn _ _ _ _ (idle_good hg) hd
theorem waits2 (h : Two W q x B cs lq lx w) : Calls Try.prog 16 #[.pointer (some ⟨x, 0, none⟩), .int .i64 now] w
    fun e w' => e = .returned (.tuple #[.int .i64 ((waitsL now lx).1.1 : Nat), .int .i64 ((waitsL now lx).1.2 : Nat)]) ∧ Two W q x B cs lq (waitsL now lx).2 w' := by
  obtain ⟨v, hr, hg, hn⟩ := h.right
  exact (rwaits_any x v lx now w hr (by have := hg.1; omega)).mono fun e w' hd => hn _ _ _ _ (waits_good hg) hd
end

theorem Both.start {W w : World} {q : Nat} (h : Q W q [] w) : Both W q w.heap.size [] (w.alloc (.cells #[.slice none 0 0] 39)) := by
  obtain ⟨v, hr, hg, hf, hb⟩ := h
  refine ⟨v, .slice none 0 0, ⟨hr.kept fun k _ hk => Below.heap_alloc _ _ _ hk, ⟨heap_alloc_new w _, Row.nil _ _ _, by simp [own, Value.ownBlock]⟩, hg, Good.nil, ?_, hf, ?_, hb.alloc hb.size _⟩⟩
  · rintro k hk (rfl | hx)
    · exact absurd (hr.lt _ hk) (Nat.lt_irrefl _)
    · simp [own, Value.ownBlock] at hx
  · rintro k (rfl | hx)
    · exact hb.size
    · simp [own, Value.ownBlock] at hx

theorem Both.ret {W w : World} {q x : Nat} {l : List Pl} (h : Both W q x l w) : Below W.heap.size W w := by
  obtain ⟨v, u, hp⟩ := h
  exact hp.below

structure Wish where
  kind : Int
  now : Int
  p : Pl

set_option maxHeartbeats 8000000 in
set_option maxRecDepth 100000 in
theorem pullsPlay_walk (ao : Option Addr) (n cap : Nat) (f : Nat → Wish) (W : World) (hcap : n ≤ cap)
    (hao : n ≠ 0 → ∃ b off, ao = some ⟨b, off, none⟩ ∧ ∀ i, i < n → W.cell? ⟨b, off + i * 5, none⟩ = some (.int .i64 (f i).kind) ∧ W.cell? ⟨b, off + i * 5 + 1, none⟩ = some (.int .i64 (f i).now) ∧ W.cell? ⟨b, off + i * 5 + 2, none⟩ = some (.int .i64 (f i).p.batch) ∧ W.cell? ⟨b, off + i * 5 + 3, none⟩ = some (.int .i64 (f i).p.till) ∧ W.cell? ⟨b, off + i * 5 + 4, none⟩ = some (.bool (f i).p.nowait)) :
    Calls Try.prog 4 #[.slice ao n cap] W (RetB W true) := by
  by_cases h100 : (100 : Int) < n
  · go_enter Try.func4, Try.ntmps4
    go_wp2
    go_returns
    exact ⟨rfl, Below.refl _ _⟩
  have c1 := new_q W W (Below.refl _ _)
  have C1 := Lib.hid c1
  have HAO := Lib.hid hao
  clear c1 hao
  go_enter Try.func4, Try.ntmps4
  go_wp2_with fail
  refine C1.out.mono ?_
  rintro e w1 ⟨rfl, q1⟩
  have Q1 := Lib.hid q1
  clear C1 q1
  go_wp2_with fail
  have hB := Both.start Q1.out
  have HB := Lib.hid hB
  clear hB Q1
  generalize w1.heap.size = X at HB ⊢
  go_loopw [28, 6, 7, 8, 9, 10, 11, 12, 13, 14, 15, 16, 17, 18, 19] (fun iv _ _ _ _ _ _ _ _ _ _ _ _ _ _ wr => ∃ (k : Nat) (l : List Pl), k ≤ n ∧ iv = .int .i64 k ∧ Hid (Both W W.heap.size X l wr)) (fun iv _ _ _ _ _ _ _ _ _ _ _ _ _ _ _ => n - (intOf iv).toNat)
  case atStart => exact ⟨0, [], Nat.zero_le _, rfl, HB⟩
  case round =>
    obtain ⟨k, l, hk, rfl, HL⟩ := hrel
    by_cases hlt : k < n
    · have hltz : (k : Int) < (n : Int) := by omega
      obtain ⟨b, off, rfl, hcells⟩ := HAO.out (by omega)
      obtain ⟨s0, s1, s2, s3, s4⟩ := hcells k hlt
      have hbw := HL.out.ret
      have hlb : b < W.heap.size := World.block_lt_of_cell? W _ s0
      have hat : ∀ o, wr.cell? ⟨b, o, none⟩ = W.cell? ⟨b, o, none⟩ := fun o => hbw.cell (p := ⟨b, o, none⟩) hlb
      rw [← hat] at s0 s1 s2 s3 s4
      clear hcells hat hbw hlb HB HAO
      generalize f k = y at s0 s1 s2 s3 s4
      obtain ⟨kd, now, ⟨pb, pt, pn⟩⟩ := y
      simp only at s0 s1 s2 s3 s4
      have h2 := HL.out.two #[.int .i64 kd, .int .i64 now, .int .i64 pb, .int .i64 pt, .bool pn]
      have H2 := Lib.hid h2
      clear h2
      by_cases k0 : kd = 0
      · subst k0
        have c5 := ask1 now ⟨pb, pt, pn⟩ H2.out.drew
        have c6 : ∀ w5, Two W W.heap.size X wr.heap.size #[.int .i64 0, .int .i64 now, .int .i64 pb, .int .i64 pt, .bool pn] _ l w5 → _ := fun w5 h5 => ask2 now ⟨pb, pt, pn⟩ (lq := (askL now ⟨pb, pt, pn⟩ l).2) (lx := l) h5
        generalize askL now ⟨pb, pt, pn⟩ l = r at c5 c6
        obtain ⟨ta, tl⟩ := r
        have C5 := Lib.hid c5; have C6 := Lib.hid c6
        clear c5 c6
        go_wp2_with fail
        go_region_with (first
          | (go_at_call 8; refine C5.out.mono ?_; rintro e w5 ⟨rfl, h5⟩; obtain ⟨b0, b1, b2, b3, b4⟩ := h5.box; have H5 := Lib.hid h5; clear h5)
          | (go_at_call 12; refine (C6.out _ H5.out).mono ?_; rintro e w6 ⟨rfl, h6⟩; have H6 := Lib.hid h6; clear h6))
        all_goals
          go_wp2
          exact ⟨⟨k + 1, tl, by omega, by go_num, H6.out.both⟩, by simp [intOf]; omega⟩
      by_cases k1 : kd = 1
      · subst k1
        have c5 := take1 now H2.out
        have c6 : ∀ w5, Two W W.heap.size X wr.heap.size #[.int .i64 1, .int .i64 now, .int .i64 pb, .int .i64 pt, .bool pn] _ l w5 → _ := fun w5 h5 => take2 now (lq := (takeL now l).2) (lx := l) h5
        generalize takeL now l = r at c5 c6
        obtain ⟨⟨ta, tb⟩, tl⟩ := r
        have C5 := Lib.hid c5; have C6 := Lib.hid c6
        clear c5 c6
        go_wp2_with fail
        refine C5.out.mono ?_
        rintro e w5 ⟨rfl, h5⟩
        obtain ⟨b0, b1, b2, b3, b4⟩ := h5.box
        have H5 := Lib.hid h5
        clear h5 C5
        go_wp2_with fail
        refine (C6.out _ H5.out).mono ?_
        rintro e w6 ⟨rfl, h6⟩
        have H6 := Lib.hid h6
        clear h6 C6 H5
        go_wp2
        all_goals exact ⟨⟨k + 1, tl, by omega, by go_num, H6.out.both⟩, by simp [intOf]; omega⟩
      by_cases k2 : kd = 2
      · subst k2
        have c5 := idle1 now H2.out
        have c6 : ∀ w5, Two W W.heap.size X wr.heap.size #[.int .i64 2, .int .i64 now, .int .i64 pb, .int .i64 pt, .bool pn] _ l w5 → _ := fun w5 h5 => idle2 now (lq := (idleL now l).2) (lx := l) h5
        generalize idleL now l = r at c5 c6
        obtain ⟨⟨ta, tb⟩, tl⟩ := r
        have C5 := Lib.hid c5; have C6 := Lib.hid c6
        clear c5 c6
        go_wp2_with fail
        refine C5.out.mono ?_
        rintro e w5 ⟨rfl, h5⟩
        obtain ⟨b0, b1, b2, b3, b4⟩ := h5.box
        have H5 := Lib.hid h5
        clear h5 C5
        go_wp2_with fail
        refine (C6.out _ H5.out).mono ?_
        rintro e w6 ⟨rfl, h6⟩
        have H6 := Lib.hid h6
        clear h6 C6 H5
        go_wp2
        all_goals exact ⟨⟨k + 1, tl, by omega, by go_num, H6.out.both⟩, by simp [intOf]; omega⟩
      by_cases k3 : kd = 3
      · subst k3
        have c5 := waits1 now H2.out
        have c6 : ∀ w5, Two W W.heap.size X wr.heap.size #[.int .i64 3, .int .i64 now, .int .i64 pb, .int .i64 pt, .bool pn] _ l w5 → _ := fun w5 h5 => waits2 now (lq := (waitsL now l).2) (lx := l) h5
        generalize waitsL now l = r at c5 c6
        obtain ⟨⟨ta, tb⟩, tl⟩ := r
        have C5 := Lib.hid c5; have C6 := Lib.hid c6
        clear c5 c6
        go_wp2_with fail
        refine C5.out.mono ?_
        rintro e w5 ⟨rfl, h5⟩
        obtain ⟨b0, b1, b2, b3, b4⟩ := h5.box
        have H5 := Lib.hid h5
        clear h5 C5
        go_wp2_with fail
        refine (C6.out _ H5.out).mono ?_
        rintro e w6 ⟨rfl, h6⟩
        have H6 := Lib.hid h6
        clear h6 C6 H5
        go_wp2
        all_goals exact ⟨⟨k + 1, tl, by omega, by go_num, H6.out.both⟩, by simp [intOf]; omega⟩
      · have g0 : (kd == 0) = false := beq_eq_false_iff_ne.2 k0
        have g1 : (kd == 1) = false := beq_eq_false_iff_ne.2 k1
        have g2 : (kd == 2) = false := beq_eq_false_iff_ne.2 k2
        have g3 : (kd == 3) = false := beq_eq_false_iff_ne.2 k3
        go_wp2
        exact ⟨⟨k + 1, l, by omega, by go_num, H2.out.both⟩, by simp [intOf]; omega⟩
    · have hltz : ¬ (k : Int) < (n : Int) := by omega
      obtain rfl : k = n := by omega
      go_wp2
      go_returns
      exact ⟨rfl, HL.out.ret⟩

end Go.Proofs.Ytglgbidcmkncgaa.Pull
