/- The queue of pulls, walked: its five functions. -/
import Derived.Test.YtglgbidcmkncgaaPullRep
import Derived.Shelf.Abstract
import Derived.Handy
import Derived.Deep.RegionLaw
import Derived.Deep.DrawnRows
namespace Go.Proofs.Ytglgbidcmkncgaa.Pull
open Go.RowKit Heap

theorem endsWith {T : TypeId} {q : Nat} {v : Value} {l : List Pl} {w : World} {e : Ending} {w' : World} {r : Ending} (h : Does T q v l r w e w') (hr : e = r → e = r) : Does T q v l r w e w' := h

/-- The predicate of 'at': what has ended. -/
theorem dead_tells (nb : Nat) (now : Int) : Tells 40 #[.pointer (some ⟨nb, 0, none⟩)] (dead now) (fun W => nb < W.heap.size ∧ W.cell? ⟨nb, 0, none⟩ = some (.int .i64 now)) := by
  rintro W x ⟨hnb, hc⟩
  obtain ⟨b, t, nw⟩ := x
  show Calls Try.prog 40 #[.agg #[.int .i64 b, .int .i64 t, .bool nw], .pointer (some ⟨nb, 0, none⟩)] W _
  have hc2 : ∀ o : Obj, (W.alloc o).cell? ⟨nb, 0, none⟩ = some (.int .i64 now) := fun o => (World.cell?_of_block (Below.heap_alloc _ _ _ hnb)).trans hc
  have hb := (Below.refl W.heap.size W).alloc (Nat.le_refl _)
  unfold dead
  by_cases h0 : t = 0
  · have h1 : (t != 0) = false := by simp [h0]
    go_enter Try.func40, Try.ntmps40
    go_wp2
    go_ret
    exact ⟨by rw [h1]; rfl, hb _⟩
  · have h1 : (t != 0) = true := by simp [h0]
    go_enter Try.func40, Try.ntmps40
    go_wp2
    go_ret
    exact ⟨by rw [h1]; simp, hb _⟩

theorem nowait_tells : Tells 30 #[] (fun x => x.nowait) (fun _ => True) := by
  rintro W ⟨b, t, nw⟩ _
  show Calls Try.prog 30 #[.agg #[.int .i64 b, .int .i64 t, .bool nw]] W _
  go_enter Try.func30, Try.ntmps30
  go_wp2
  go_ret
  exact ⟨rfl, (Below.refl W.heap.size W).alloc (Nat.le_refl _) _⟩

def atL (now : Int) (l : List Pl) : List Pl := if bad now = true then l else left now l

set_option maxHeartbeats 1000000 in
set_option maxRecDepth 100000 in
theorem at_any (q : Nat) (v : Value) (l : List Pl) (now : Int) (w : World) (h : Rep 65 w q v l) (hl : l.length ≤ 1000) :
    Calls Try.prog 27 #[.pointer (some ⟨q, 0, none⟩), .int .i64 now] w (Does 65 q v (atL now l) (.returned (.bool (!bad now))) w) := by
  unfold atL
  obtain ⟨hq0, hqf⟩ := h.cell
  by_cases h1 : now < 0
  · have hb : bad now = true := by unfold bad; simp [h1]
    rw [hb, if_pos rfl]
    have H := Lib.hid h
    clear h hq0 hqf
    go_enter Try.func27, Try.ntmps27
    go_wp2
    go_ret
    exact Does.same H.out ((Below.refl w.heap.size w).alloc (Nat.le_refl _) _)
  by_cases h2 : 1099511627776 < now
  · have hb : bad now = true := by unfold bad; simp [h2, farT]
    rw [hb, if_pos rfl]
    have H := Lib.hid h
    clear h hq0 hqf
    go_enter Try.func27, Try.ntmps27
    go_wp2
    go_ret
    exact Does.same H.out ((Below.refl w.heap.size w).alloc (Nat.le_refl _) _)
  · have hb : bad now = false := by unfold bad; simp [h1, h2, farT]
    rw [hb, if_neg (by decide)]
    have hq : q < w.heap.size := heap_lt h.blk
    have t1 : Heap.Touch (own v) w (w.alloc (.cells #[.int .i64 now] 3)) := (Heap.Touch.refl _ _).alloc _
    have hq1 : (w.alloc (.cells #[.int .i64 now] 3)).cell? ⟨q, 0, none⟩ = some v := (World.cell?_of_block (Below.heap_alloc _ _ _ hq)).trans hq0
    have hrow1 := h.row.kept (w' := w.alloc (.cells #[.int .i64 now] 3)) (fun k _ hk => Below.heap_alloc _ _ _ hk)
    have hnf : ¬ own v w.heap.size := fun hx => by have := h.row.lt _ hx; omega
    have hd := delete_any 40 #[.pointer (some ⟨w.heap.size, 0, none⟩)] (dead now) _ (enters_of Try.func40 (by kernel_rfl) rfl) v l _ hrow1 hl
      ⟨by simp, World.cell?_alloc_mark w #[.int .i64 now] 3 (0, 0) 0⟩
      (fun W W' hC ht => ⟨Nat.lt_of_lt_of_le hC.1 ht.size, (ht.cell (p := ⟨w.heap.size, 0, none⟩) hC.1 hnf).trans hC.2⟩)
      (dead_tells w.heap.size now)
    have hfil : (l.filter fun x => !dead now x) = left now l := by
      unfold left
      congr 1
      funext x
      rw [dead_alive]; simp
    rw [hfil] at hd
    have H := Lib.hid h; have T1 := Lib.hid t1; have HD := Lib.hid hd
    clear h hrow1 hd t1
    clear hq0 hqf
    go_enter Try.func27, Try.ntmps27
    go_wp2_with fail
    refine HD.out.mono ?_
    rintro e w' ⟨v', rfl, r2, t2, o2⟩
    obtain ⟨c2, f2⟩ := H.out.cellAt (T1.out.after t2)
    obtain ⟨a', n', rfl⟩ := r2.slice
    have R2 := Lib.hid r2; have T2 := Lib.hid t2; have O2 := Lib.hid o2
    clear HD r2 t2 o2
    go_wp2
    go_ret
    exact Does.puts H.out (T1.out.after T2.out) R2.out (fun k hk => .inl (O2.out k hk))

theorem atL_len (now : Int) (l : List Pl) : (atL now l).length ≤ l.length := by
  unfold atL
  split
  · exact Nat.le_refl _
  · exact List.length_filter_le _ _

set_option maxHeartbeats 1000000 in
set_option maxRecDepth 100000 in
theorem waits_any (q : Nat) (v : Value) (l : List Pl) (now : Int) (w : World) (h : Rep 65 w q v l) (hl : l.length ≤ 1000) :
    Calls Try.prog 10 #[.pointer (some ⟨q, 0, none⟩), .int .i64 now] w
      (Does 65 q v (waitsL now l).2 (.returned (.tuple #[.int .i64 ((waitsL now l).1.1 : Nat), .int .i64 ((waitsL now l).1.2 : Nat)])) w) := by
  have ha := at_any q v l now w h hl
  have H := Lib.hid h
  unfold waitsL
  unfold atL at ha
  cases hb : bad now with
  | true =>
    rw [hb, if_pos rfl] at ha
    rw [if_pos rfl]
    have HA := Lib.hid ha
    clear ha h
    go_enter Try.func10, Try.ntmps10
    go_wp2_with fail
    refine HA.out.mono ?_
    rintro e w' ⟨rfl, hd⟩
    go_wp2
    go_returns
    exact ⟨rfl, hd⟩
  | false =>
    rw [hb, if_neg (by decide)] at ha
    rw [if_neg (by decide)]
    have HA := Lib.hid ha
    clear ha h
    go_enter Try.func10, Try.ntmps10
    go_wp2_with fail
    refine HA.out.mono ?_
    rintro e w' ⟨rfl, v', r1, hd⟩
    obtain ⟨c0, f0⟩ := r1.cell
    obtain ⟨a', n', rfl⟩ := r1.row.slice
    have HD := Lib.hid hd; have R1 := Lib.hid r1
    clear hd r1
    go_wp2
    go_returns
    exact ⟨rfl, _, R1.out, HD.out⟩

set_option maxHeartbeats 1000000 in
set_option maxRecDepth 100000 in
theorem take_any (q : Nat) (v : Value) (l : List Pl) (now : Int) (w : World) (h : Rep 65 w q v l) (hl : Good l) :
    Calls Try.prog 9 #[.pointer (some ⟨q, 0, none⟩), .int .i64 now] w
      (Does 65 q v (takeL now l).2 (.returned (.tuple #[.bool (takeL now l).1.1, .int .i64 ((takeL now l).1.2 : Nat)])) w) := by
  have ha := at_any q v l now w h (by have := hl.1; omega)
  have H := Lib.hid h
  unfold takeL
  unfold atL at ha
  cases hb : bad now with
  | true =>
    rw [hb, if_pos rfl] at ha
    rw [if_pos rfl]
    have HA := Lib.hid ha
    clear ha h
    go_enter Try.func9, Try.ntmps9
    go_wp2_with fail
    refine HA.out.mono ?_
    rintro e w' ⟨rfl, hd⟩
    go_wp2
    go_returns
    exact ⟨rfl, hd⟩
  | false =>
    rw [hb, if_neg (by decide)] at ha
    rw [if_neg (by decide)]
    have hg := hl.left now
    cases hx : left now l with
    | nil =>
      rw [hx] at ha
      have HA := Lib.hid ha
      clear ha h hx
      go_enter Try.func9, Try.ntmps9
      go_wp2_with fail
      refine HA.out.mono ?_
      rintro e w' ⟨rfl, v', r1, hd⟩
      obtain ⟨c0, f0⟩ := r1.cell
      obtain ⟨a', n', rfl⟩ := r1.row.slice
      have HD := Lib.hid hd; have R1 := Lib.hid r1
      clear hd r1
      go_wp2
      go_returns
      exact ⟨rfl, _, R1.out, HD.out⟩
    | cons p r =>
      rw [hx] at ha hg
      obtain ⟨hp1, hp2⟩ := hg.2 p (by simp)
      have HA := Lib.hid ha
      have hlen := hg.1
      simp only [List.length_cons] at hlen
      clear ha h hx hg hl
      obtain ⟨pb, pt, pn⟩ := p
      simp only at hp1 hp2
      obtain ⟨n, hn⟩ : ∃ n, (⟨pb, pt, pn⟩ :: r : List Pl).length = n := ⟨_, rfl⟩
      have hn0 : r.length + 1 = n := hn
      have HN := Lib.hid hn
      show Calls _ _ _ w (Does _ q v (if pb = 1 then r else ⟨pb - 1, pt, pn⟩ :: r) (.returned (.tuple #[.bool true, .int .i64 (0 : Nat)])) w)
      by_cases hpb : pb = 1
      · subst hpb
        rw [if_pos rfl]
        clear hn
        go_enter Try.func9, Try.ntmps9
        go_wp2_with fail
        refine HA.out.mono ?_
        rintro e w' ⟨rfl, v', r1, hd⟩
        obtain ⟨c0, f0⟩ := r1.cell
        have hfar := r1.far
        have hrow := r1.row
        have R1 := Lib.hid r1
        rw [HN.out] at hrow
        rcases hrow.2 with ⟨rfl, h0⟩ | ⟨b, off, cap, cur, rfl, hgb, hcap, hcm, _⟩
        · omega
        have hqb : ¬ q = b := fun e => hfar (by rw [e]; rfl)
        have hbq : ¬ b = q := fun e => hqb e.symm
        obtain ⟨d0, d1, d2⟩ := cells_pull hrow 0 ⟨1, pt, pn⟩ rfl (by omega)
        obtain ⟨g0, g1, g2⟩ := frozen_pull hrow 0 (by omega)
        rw [Nat.zero_mul, Nat.add_zero] at d0 d1 d2 g0 g1 g2
        have hset := hrow.set 0 (by omega) (.int .i64 (1 - 1))
        rw [Nat.add_zero] at hset
        have hrest := hset.rest 1 (by omega)
        have hrl : r.length = n - 1 := by omega
        rw [show ((plsV (⟨1, pt, pn⟩ :: r)).set 0 (.int .i64 (1 - 1))).drop (1 * 3) = plsV r from rfl, ← hrl] at hrest
        have hbo : own (.slice (some ⟨b, off, none⟩) n cap) b := rfl
        have HT := Lib.hid ((Heap.Touch.refl (own (.slice (some ⟨b, off, none⟩) n cap)) w').setCell (p := ⟨b, off, none⟩) (.inl hbo) (.int .i64 (1 - 1)))
        have HD := Lib.hid hd; have HR := Lib.hid hrow
        clear hd r1 hrow hset hgb
        by_cases hc1 : cap = 1
        · rw [if_pos hc1] at hrest
          have HE := Lib.hid hrest
          clear hrest
          subst hc1
          go_wp2
          go_returns
          have hr0 : r.length = 0 := by omega
          exact Does.then HD.out.1 HD.out.2 (Does.puts R1.out HT.out (by simpa [hr0] using HE.out) (fun k hk => .inl hk))
        · rw [if_neg hc1] at hrest
          have HE := Lib.hid hrest
          clear hrest
          go_wp2
          go_returns
          exact Does.then HD.out.1 HD.out.2 (Does.puts R1.out HT.out (by simpa [hrl] using HE.out) (fun k hk => .inl hk))
      · rw [if_neg hpb]
        have hne : (pb - 1 == 0) = false := beq_eq_false_iff_ne.2 (by omega)
        go_enter Try.func9, Try.ntmps9
        go_wp2_with fail
        refine HA.out.mono ?_
        rintro e w' ⟨rfl, v', r1, hd⟩
        obtain ⟨c0, f0⟩ := r1.cell
        have hfar := r1.far
        have hrow := r1.row
        have R1 := Lib.hid r1
        rw [HN.out] at hrow
        rcases hrow.2 with ⟨rfl, h0⟩ | ⟨b, off, cap, cur, rfl, hgb, hcap, hcm, _⟩
        · omega
        have hqb : ¬ q = b := fun e => hfar (by rw [e]; rfl)
        have hbq : ¬ b = q := fun e => hqb e.symm
        obtain ⟨d0, d1, d2⟩ := cells_pull hrow 0 ⟨pb, pt, pn⟩ rfl (by omega)
        obtain ⟨g0, g1, g2⟩ := frozen_pull hrow 0 (by omega)
        rw [Nat.zero_mul, Nat.add_zero] at d0 d1 d2 g0 g1 g2
        have hset := hrow.set 0 (by omega) (.int .i64 (pb - 1))
        rw [Nat.add_zero] at hset
        have HS := Lib.hid hset
        have HD := Lib.hid hd; have HR := Lib.hid hrow
        clear hd r1 hrow hset hgb
        go_wp2
        go_returns
        rw [← HN.out] at *
        exact Does.then HD.out.1 HD.out.2 (Does.sets (b := b) (l' := ⟨pb - 1, pt, pn⟩ :: r) R1.out rfl HS.out)

set_option maxHeartbeats 1000000 in
set_option maxRecDepth 100000 in
theorem idle_any (q : Nat) (v : Value) (l : List Pl) (now : Int) (w : World) (h : Rep 65 w q v l) (hl : l.length ≤ 1000) :
    Calls Try.prog 14 #[.pointer (some ⟨q, 0, none⟩), .int .i64 now] w
      (Does 65 q v (idleL now l).2 (.returned (.tuple #[.int .i64 ((idleL now l).1.1 : Nat), .int .i64 ((idleL now l).1.2 : Nat)])) w) := by
  have ha := at_any q v l now w h hl
  have H := Lib.hid h
  unfold idleL
  unfold atL at ha
  cases hb : bad now with
  | true =>
    rw [hb, if_pos rfl] at ha
    rw [if_pos rfl]
    have HA := Lib.hid ha
    clear ha h
    go_enter Try.func14, Try.ntmps14
    go_wp2_with fail
    refine HA.out.mono ?_
    rintro e w' ⟨rfl, hd⟩
    go_wp2
    go_returns
    exact ⟨rfl, hd⟩
  | false =>
    rw [hb, if_neg (by decide)] at ha
    rw [if_neg (by decide)]
    have hlen : (left now l).length ≤ 1000 := Nat.le_trans (List.length_filter_le _ _) hl
    have hst : (stay (left now l)).length ≤ (left now l).length := List.length_filter_le _ _
    generalize left now l = m at *
    have HA := Lib.hid ha
    clear ha h
    show Calls _ _ _ w (Does _ q v (stay m) (.returned (.tuple #[.int .i64 ((m.length - (stay m).length : Nat) : Int), .int .i64 (0 : Nat)])) w)
    go_enter Try.func14, Try.ntmps14
    go_wp2_with fail
    refine HA.out.mono ?_
    rintro e w' ⟨rfl, v', r1, hd⟩
    obtain ⟨c0, f0⟩ := r1.cell
    have hdel := delete_any 30 #[] (fun x => x.nowait) (fun _ => True) (enters_of Try.func30 (by kernel_rfl) rfl) v' m w' r1.row hlen trivial (fun _ _ _ _ => trivial) nowait_tells
    obtain ⟨a', n', rfl⟩ := r1.row.slice
    have HD := Lib.hid hd; have R1 := Lib.hid r1; have HX := Lib.hid hdel
    clear hd r1 hdel HA
    go_wp2_with fail
    refine HX.out.mono ?_
    rintro e w2 ⟨v2, rfl, r2, t2, o2⟩
    obtain ⟨c2, f2⟩ := R1.out.cellAt t2
    obtain ⟨a2, n2, rfl⟩ := r2.slice
    have R2 := Lib.hid r2; have T2 := Lib.hid t2; have O2 := Lib.hid o2
    clear r2 t2 o2 HX
    rw [show (m.filter fun x => !x.nowait) = stay m from rfl] at *
    go_wp2
    go_returns
    rw [show ((m.length - (stay m).length : Nat) : Int) = (m.length : Int) - ((stay m).length : Nat) by omega]
    exact Does.then HD.out.1 HD.out.2 (Does.puts R1.out T2.out R2.out (fun k hk => .inl (O2.out k hk)))

theorem info_pull : (Try.prog.info? 28).map (fun i => (i.zero, i.size, i.bytes)) = some (some (.agg #[.int .i64 0, .int .i64 0, .bool false]), 3, 24) := by kernel_rfl

theorem news_pull {w : World} {B : Nat} {p : Pl} (h0 : w.cell? ⟨B, 0, none⟩ = some (.int .i64 p.batch)) (h1 : w.cell? ⟨B, 1, none⟩ = some (.int .i64 p.till)) (h2 : w.cell? ⟨B, 2, none⟩ = some (.bool p.nowait)) :
    ∀ j u, (cells p)[j]? = some u → w.cell? ((⟨B, 0, none⟩ : Addr).add j) = some u := by
  intro j u hu
  rw [Addr.add_lit, Nat.zero_add]
  match j with
  | 0 => rw [h0]; exact hu
  | 1 => rw [h1]; exact hu
  | 2 => rw [h2]; exact hu
  | j + 3 => simp [cells] at hu

theorem news_alloc (w : World) (p : Pl) (t : TypeId) :
    ∀ j u, (cells p)[j]? = some u → (w.alloc (.cells #[.int .i64 p.batch, .int .i64 p.till, .bool p.nowait] t)).cell? ((⟨w.heap.size, 0, none⟩ : Addr).add j) = some u :=
  news_pull (World.cell?_alloc_mark w _ _ (0, 0) 0) (World.cell?_alloc_mark w _ _ (0, 0) 1) (World.cell?_alloc_mark w _ _ (0, 0) 2)

set_option maxHeartbeats 2000000 in
set_option maxRecDepth 100000 in
theorem ask_any (q : Nat) (v : Value) (l : List Pl) (now : Int) (p : Pl) (w : World) (h : Rep 65 w q v l) (hl : Good l) :
    Calls Try.prog 8 #[.pointer (some ⟨q, 0, none⟩), .int .i64 now, .agg #[.int .i64 p.batch, .int .i64 p.till, .bool p.nowait]] w
      (Does 65 q v (askL now p l).2 (.returned (.int .i64 ((askL now p l).1 : Nat))) w) := by
  obtain ⟨pb, pt, pn⟩ := p
  obtain ⟨i0, hi, hz0, hz1, hz2⟩ := info_parts info_pull
  have hb1 := (Below.refl w.heap.size w).alloc (Nat.le_refl _) (.cells #[.int .i64 pb, .int .i64 pt, .bool pn] 28)
  have H := Lib.hid h; have HB1 := Lib.hid hb1
  unfold askL
  simp only
  by_cases b1 : pb < 1
  · rw [if_pos (.inl b1)]
    clear h hb1
    go_enter Try.func8, Try.ntmps8
    go_wp2
    go_returns
    exact Does.same H.out HB1.out
  by_cases b2 : 50 < pb
  · rw [if_pos (.inr (.inl b2))]
    clear h hb1
    go_enter Try.func8, Try.ntmps8
    go_wp2
    go_returns
    exact Does.same H.out HB1.out
  by_cases b3 : pt < 0
  · rw [if_pos (.inr (.inr (.inl b3)))]
    clear h hb1
    go_enter Try.func8, Try.ntmps8
    go_wp2
    go_returns
    exact Does.same H.out HB1.out
  by_cases b4 : 1099511627776 < pt
  · rw [if_pos (.inr (.inr (.inr (.inl b4))))]
    clear h hb1
    go_enter Try.func8, Try.ntmps8
    go_wp2
    go_returns
    exact Does.same H.out HB1.out
  have h1 : Rep 65 (w.alloc (.cells #[.int .i64 pb, .int .i64 pt, .bool pn] 28)) q v l := h.kept (fun k _ hk => Below.heap_alloc _ _ _ hk)
  have ha := at_any q v l now _ h1 (by have := hl.1; omega)
  unfold atL at ha
  have hpb : Heap.Touch (foot q v) w (w.alloc (.cells #[.int .i64 pb, .int .i64 pt, .bool pn] 28)) := (Heap.Touch.refl _ _).alloc _
  cases hb : bad now with
  | true =>
    rw [hb, if_pos rfl] at ha
    rw [if_pos (.inr (.inr (.inr (.inr rfl))))]
    have HA := Lib.hid ha; have HP := Lib.hid hpb
    clear ha h h1 hb1 hpb
    go_enter Try.func8, Try.ntmps8
    go_wp2_with fail
    refine HA.out.mono ?_
    rintro e w' ⟨rfl, hd⟩
    go_wp2
    go_returns
    exact Does.then HP.out (fun k hk => .inl hk) ⟨rfl, hd⟩
  | false =>
    rw [hb, if_neg (by decide)] at ha
    rw [if_neg (by simp [b1, b2, b3, b4, farT])]
    have hlen : (left now l).length ≤ 10 := Nat.le_trans (List.length_filter_le _ _) hl.1
    generalize left now l = m at *
    obtain ⟨n, hn⟩ : ∃ n, m.length = n := ⟨_, rfl⟩
    have HA := Lib.hid ha; have HP := Lib.hid hpb; have HN := Lib.hid hn
    by_cases hten : n = 10
    · rw [if_pos (by rw [hn]; exact hten)]
      subst hten
      clear ha h h1 hb1 hpb hn
      go_enter Try.func8, Try.ntmps8
      go_wp2_with fail
      refine HA.out.mono ?_
      rintro e w' ⟨rfl, v', r1, hd⟩
      obtain ⟨c0, f0⟩ := r1.cell
      obtain ⟨a', n', rfl⟩ := r1.row.slice
      rw [HN.out] at *
      have HD := Lib.hid hd; have R1 := Lib.hid r1
      clear hd r1 HA
      go_wp2
      go_returns
      exact Does.then HP.out (fun k hk => .inl hk) ⟨rfl, _, R1.out, HD.out⟩
    · rw [if_neg (by rw [hn]; exact hten)]
      have hten' : ((n : Int) == 10) = false := beq_eq_false_iff_ne.2 (by omega)
      clear h h1 hb1 hpb hn ha
      go_enter Try.func8, Try.ntmps8
      go_wp2_with fail
      refine HA.out.mono ?_
      rintro e w' ⟨rfl, v', r1, hd⟩
      obtain ⟨c0, f0⟩ := r1.cell
      have hrow := r1.row
      rw [HN.out] at hrow
      obtain ⟨a', n', rfl⟩ := hrow.slice
      have hbx : ∀ i, w'.cell? ⟨w.heap.size, i, none⟩ = (w.alloc (.cells #[.int .i64 pb, .int .i64 pt, .bool pn] 28)).cell? ⟨w.heap.size, i, none⟩ := fun i => by
        refine hd.1.cell (p := ⟨w.heap.size, i, none⟩) (by simp) (fun hk => ?_)
        have := H.out.lt _ hk
        exact absurd this (Nat.lt_irrefl _)
      have x0 := (hbx 0).trans (World.cell?_alloc_mark w _ _ (0, 0) 0)
      have x1 := (hbx 1).trans (World.cell?_alloc_mark w _ _ (0, 0) 1)
      have x2 := (hbx 2).trans (World.cell?_alloc_mark w _ _ (0, 0) 2)
      have e0 : (#[Value.int .i64 pb, .int .i64 pt, .bool pn] : Array Value)[0]? = some (.int .i64 pb) := rfl
      have e1 : (#[Value.int .i64 pb, .int .i64 pt, .bool pn] : Array Value)[1]? = some (.int .i64 pt) := rfl
      have e2 : (#[Value.int .i64 pb, .int .i64 pt, .bool pn] : Array Value)[2]? = some (.bool pn) := rfl
      rw [e0] at x0; rw [e1] at x1; rw [e2] at x2
      have HD := Lib.hid hd; have R1 := Lib.hid r1; have HR := Lib.hid hrow
      clear hd r1 HA hrow hbx e0 e1 e2
      have hn9 : n ≤ 10 := by rw [← HN.out]; exact hlen
      have hql : q < w'.heap.size := heap_lt R1.out.blk
      have hqa : ∀ o, (w'.alloc o).cell? ⟨q, 0, none⟩ = some (.slice a' n n') := fun o => (World.cell?_of_block (Below.heap_alloc _ _ _ hql)).trans c0
      go_wp2_with fail
      go_region_law ((refine step_append_row _ (by rfl) (.tmp 41) (.tmp 43) 37 (by rfl) 28 i0 _ 3 24 Try.underlying37 hi hz0 hz1 hz2 (by rfl) (by decide) _ n _ (by rfl) (HR.out.kept (fun k _ hk => Below.heap_alloc w'.drew _ _ hk)) ⟨w'.heap.size, 0, none⟩ 1 1 (cells ⟨pb, pt, pn⟩) (by rfl) (by rfl) (news_alloc w'.drew ⟨pb, pt, pn⟩ _) (by simp [cells, Value.oneCell']) (by unfold maxLen; omega) (by omega) ?_; intro v2 w2 r2 t2 o2; obtain ⟨a2, n2, rfl⟩ := r2.slice; have tt := (((Heap.Touch.refl _ w').drew).alloc _).after t2; obtain ⟨c2, f2⟩ := R1.out.cellAt tt; have TT := Lib.hid tt; have RR := Lib.hid r2; have OO := Lib.hid o2; clear tt t2 r2 o2))
      all_goals
        go_wp2
        go_returns
        exact Does.then HP.out (fun k hk => .inl hk) (Does.then HD.out.1 HD.out.2 (Does.puts (l' := m ++ [⟨pb, pt, pn⟩]) R1.out TT.out (by rw [List.length_append, HN.out, plsV_append]; exact RR.out) (fun k hk => (OO.out k hk).imp_right fun h => Nat.le_trans (by first | (show w'.heap.size ≤ (w'.alloc _).heap.size; simp) | (show w'.heap.size ≤ (w'.drew.alloc _).heap.size; simp)) h)))

end Go.Proofs.Ytglgbidcmkncgaa.Pull
