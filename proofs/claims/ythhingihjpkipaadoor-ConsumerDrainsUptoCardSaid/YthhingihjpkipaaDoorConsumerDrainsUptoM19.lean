/- Parts of the proof, joined: What a store tells of itself: All, Sums; slices.Clone and slices.Equal of records.; A store that is filled. -/
import Derived.Test.YthhingihjpkipaaDoorConsumerDrainsUptoM18
import Derived.Laws.StructEq
import Derived.BigRegion
import Derived.Lib.SliceRun
namespace Go.Proofs.YthhingihjpkipaaDoor.Sto
open Go.RowKit Heap
open Subj (Tok ML pieces takes StrsAt)
open Rec (Rc recErr far)
open Idx (Ents ptrV)
open Shf (XAt NextX SortedE putL)

/-- Records side by side somewhere. -/
def RecsAt (w : World) (v : Value) (l : List Rc) : Prop := ∃ ao cap, v = .slice ao l.length cap ∧ (l ≠ [] → ∃ g off, ao = some ⟨g, off, none⟩ ∧ ∀ i p, l[i]? = some p →
  w.cell? ⟨g, off + i * 6, none⟩ = some (.int .i64 p.kind) ∧ w.cell? ⟨g, off + i * 6 + 1, none⟩ = some (.int .i64 p.seq) ∧ w.cell? ⟨g, off + i * 6 + 2, none⟩ = some (.int .i64 p.time) ∧
      w.cell? ⟨g, off + i * 6 + 3, none⟩ = some (.string ⟨p.subj.toArray⟩) ∧ w.cell? ⟨g, off + i * 6 + 4, none⟩ = some (.string ⟨p.head.toArray⟩) ∧ w.cell? ⟨g, off + i * 6 + 5, none⟩ = some (.string ⟨p.data.toArray⟩))

theorem row_recs {w : World} {v : Value} {l : List Rc} (h : Row w 29 6 v l.length (recsV l)) : RecsAt w v l := by
  have h0 := h
  rcases h.2 with ⟨rfl, e⟩ | ⟨g, off, cap, cur, rfl, hg, hle, _⟩
  · exact ⟨none, 0, by rw [e], fun hne => absurd (List.eq_nil_of_length_eq_zero e) hne⟩
  · exact ⟨_, cap, rfl, fun _ => ⟨g, off, rfl, fun i p hp => cells_rec h0 i p hp (List.getElem?_eq_some_iff.1 hp).1⟩⟩

theorem RecsAt.below {w w' : World} {v : Value} {l : List Rc} {n : Nat} (h : RecsAt w v l) (hb : Below n w w') (hn : w.heap.size ≤ n) : RecsAt w' v l := by
  obtain ⟨ao, cap, rfl, ha⟩ := h
  refine ⟨ao, cap, rfl, fun hne => ?_⟩
  obtain ⟨g, off, rfl, hc⟩ := ha hne
  refine ⟨g, off, rfl, fun i p hp => ?_⟩
  obtain ⟨c0, c1, c2, c3, c4, c5⟩ := hc i p hp
  have hg : g < w.heap.size := World.block_lt_of_cell? w _ c0
  have hblk := hb.block g (by omega)
  exact ⟨(World.cell?_of_block (a := ⟨g, off + i * 6, none⟩) hblk).trans c0, (World.cell?_of_block (a := ⟨g, off + i * 6 + 1, none⟩) hblk).trans c1, (World.cell?_of_block (a := ⟨g, off + i * 6 + 2, none⟩) hblk).trans c2, (World.cell?_of_block (a := ⟨g, off + i * 6 + 3, none⟩) hblk).trans c3, (World.cell?_of_block (a := ⟨g, off + i * 6 + 4, none⟩) hblk).trans c4, (World.cell?_of_block (a := ⟨g, off + i * 6 + 5, none⟩) hblk).trans c5⟩

theorem RecsAt.touch {w w' : World} {v : Value} {l : List Rc} {F : Nat → Prop} (h : RecsAt w v l) (ht : Heap.Touch F w w') (hn : ∀ k, own v k → ¬ F k) : RecsAt w' v l := by
  obtain ⟨ao, cap, rfl, ha⟩ := h
  refine ⟨ao, cap, rfl, fun hne => ?_⟩
  obtain ⟨g, off, rfl, hc⟩ := ha hne
  refine ⟨g, off, rfl, fun i p hp => ?_⟩
  obtain ⟨c0, c1, c2, c3, c4, c5⟩ := hc i p hp
  have hg : g < w.heap.size := World.block_lt_of_cell? w _ c0
  have hblk := ht.block g hg (hn g (by simp [own, Value.ownBlock]))
  exact ⟨(World.cell?_of_block (a := ⟨g, off + i * 6, none⟩) hblk).trans c0, (World.cell?_of_block (a := ⟨g, off + i * 6 + 1, none⟩) hblk).trans c1, (World.cell?_of_block (a := ⟨g, off + i * 6 + 2, none⟩) hblk).trans c2, (World.cell?_of_block (a := ⟨g, off + i * 6 + 3, none⟩) hblk).trans c3, (World.cell?_of_block (a := ⟨g, off + i * 6 + 4, none⟩) hblk).trans c4, (World.cell?_of_block (a := ⟨g, off + i * 6 + 5, none⟩) hblk).trans c5⟩

section
variable {w : World}

/-- A copy: a row of its own. -/
def Copied (w : World) (L : List Rc) (e : Ending) (w' : World) : Prop :=
  ∃ v', e = .returned v' ∧ Row w' 29 6 v' L.length (recsV L) ∧ Below w.heap.size w w' ∧ ∀ k, own v' k → w.heap.size ≤ k

set_option maxHeartbeats 2000000 in
set_option maxRecDepth 100000 in
theorem clone_rec {v : Value} {L : List Rc} (hrow : Row w 29 6 v L.length (recsV L)) (hl : L.length ≤ 1000) :
    Calls Tryd.prog 63 #[v] w (Copied w L) := by
  obtain ⟨n, hn⟩ : ∃ n, L.length = n := ⟨_, rfl⟩
  have HN := Lib.hid hn
  rw [hn] at hrow hl
  rcases hrow.2 with ⟨rfl, h0⟩ | ⟨g, off, cap, cur, rfl, hg, _⟩
  · have hk0 : L = [] := List.eq_nil_of_length_eq_zero (by omega)
    have HF := Lib.hid (show Copied w L (.returned (.slice none 0 0)) w from ⟨_, rfl, by rw [hk0]; exact Row.nil _ _ _, Below.refl _ _, fun k hk => by simp [own, Value.ownBlock] at hk⟩)
    clear hrow hk0
    have q52 : ∀ (w : World) (a : Option Addr) (n c n' c' : Nat), (binOp .eql 22 (.slice a n c) (.slice none n' c')).run Tryd.prog w = .ok (.bool a.isNone) w := fun w a n c n' c' => Lib.run_eql_slice_nil w _ _ a n c n' c' Tryd.underlying22
    go_enter Tryd.func63, Tryd.ntmps63
    go_wp2
    go_ret
    exact HF.out
  · obtain ⟨i0, hi, hz0, hz1, hz2⟩ := info_parts info_rec
    have HR := Lib.hid hrow
    clear hrow hg
    have q52 : ∀ (w : World) (a : Option Addr) (n c n' c' : Nat), (binOp .eql 22 (.slice a n c) (.slice none n' c')).run Tryd.prog w = .ok (.bool a.isNone) w := fun w a n c n' c' => Lib.run_eql_slice_nil w _ _ a n c n' c' Tryd.underlying22
    go_enter Tryd.func63, Tryd.ntmps63
    have hr1 : Row (w.alloc (.cells #[] 29)) 29 6 (.slice (some ⟨w.heap.size, 0, none⟩) 0 0) 0 [] :=
      ⟨rfl, .inr ⟨w.heap.size, 0, 0, #[], rfl, heap_alloc_new w _, Nat.le_refl _, Nat.zero_le _, by simp, by simp⟩⟩
    have hnews : ∀ j u, (recsV L)[j]? = some u → (w.alloc (.cells #[] 29)).cell? ((⟨g, off, none⟩ : Addr).add j) = some u := fun j u hj => by
      have hjl := (List.getElem?_eq_some_iff.1 hj).1
      rw [recsV_len, HN.out] at hjl
      rw [Addr.add_lit]
      have h1 := (HR.out.kept (w' := w.alloc (.cells #[] 29)) fun k _ hk => Below.heap_alloc _ _ _ hk).cell j (by omega)
      rw [h1.1]; exact hj
    have HR1 := Lib.hid hr1; have HNW := Lib.hid hnews
    have hrl : (recsV L).length = n * 6 := by rw [recsV_len, HN.out]
    have HRL := Lib.hid hrl
    clear hr1 hnews hrl
    go_wp2_with (at_builtin; refine Heap.wpList_append_row _ rfl (.tmp 5) (.tmp 6) 22 rfl 29 i0 _ 6 72 Tryd.underlying22 hi hz0 hz1 hz2 rfl (by decide) _ 0 _ rfl HR1.out ⟨g, off, none⟩ n cap (recsV L) rfl HRL.out HNW.out (recsV_one L) (by unfold maxLen; omega) (by omega) ?_)
    intro v2 w3 r3 t3 o3
    have HF := Lib.hid (show Copied w L (.returned v2) w3 from ⟨v2, rfl, by
      rw [HN.out]
      exact r3, (((Below.refl w.heap.size w).alloc (Nat.le_refl _) _).trans (t3.below (by simp) fun k hk => by simp [own, Value.ownBlock] at hk; omega)), fun k hk => by
      rcases o3 k hk with h | h
      · simp [own, Value.ownBlock] at h; omega
      · omega⟩)
    clear r3 t3 o3
    go_wp2
    go_ret
    exact HF.out

set_option maxHeartbeats 2000000 in
set_option maxRecDepth 100000 in
theorem equal_recs {v1 v2 : Value} {l : List Rc} (h1 : RecsAt w v1 l) (h2 : RecsAt w v2 l) (hl : l.length ≤ 100000) :
    Calls Tryd.prog 33 #[v1, v2] w fun e w' => e = .returned (.bool true) ∧ ∃ q, w' = w.drewN q := by
  obtain ⟨n, hn⟩ : ∃ n, l.length = n := ⟨_, rfl⟩
  obtain ⟨a1, c1, rfl, hx1⟩ := h1
  obtain ⟨a2, c2, rfl, hx2⟩ := h2
  rw [hn] at hl ⊢
  have H1 := Lib.hid hx1; have H2 := Lib.hid hx2; have HN := Lib.hid hn
  clear hx1 hx2 hn
  go_enter Tryd.func33, Tryd.ntmps33
  go_wp2_with fail
  go_loopw [13] (fun i wr => ∃ k : Nat, k ≤ n ∧ i = .int .i64 k ∧ ∃ q, wr = w.drewN q) (fun i _ => n - (intOf i).toNat)
  case atStart => exact ⟨0, Nat.zero_le _, rfl, 0, rfl⟩
  case round =>
    obtain ⟨k, hk, rfl, q, rfl⟩ := hrel
    by_cases hlt : k < n
    · have hltz : (k : Int) < n := by omega
      obtain ⟨p, hp⟩ : ∃ p, l[k]? = some p := ⟨_, List.getElem?_eq_getElem (by rw [HN.out]; exact hlt)⟩
      have hne : l ≠ [] := fun e => by rw [e] at hp; simp at hp
      obtain ⟨g1, o1, rfl, y1⟩ := H1.out hne
      obtain ⟨g2, o2, rfl, y2⟩ := H2.out hne
      obtain ⟨d0, d1, d2, d3, d4, d5⟩ := y1 k p hp
      obtain ⟨b0, b1, b2, b3, b4, b5⟩ := y2 k p hp
      obtain ⟨s, h, d, hpp⟩ := parts p
      rw [hpp.s1] at d3 b3
      rw [hpp.h1] at d4 b4
      rw [hpp.d1] at d5 b5
      generalize p.kind = z0 at d0 b0
      generalize p.seq = z1 at d1 b1
      generalize p.time = z2 at d2 b2
      clear hp hpp hne y1 y2
      go_wp2_with fail
      go_quiet (fail)
      go_wp2_with fail
      exact ⟨⟨k + 1, by omega, by go_num, _, rfl⟩, by simp [intOf]; omega⟩
    · have hltz : ¬ (k : Int) < n := by omega
      go_wp2_with fail
      go_ret
      exact ⟨rfl, _, rfl⟩

theorem res_sums {fn : Func} (hf : fn.results = #[.cell 2 96]) (tmps : Array Value) (w : World) (R : Nat) {a0 a1 a2 a3 : Value}
    (h2 : tmps.getD 2 undef = .pointer (some ⟨R, 0, none⟩)) (hR : w.heap[R]? = some (.cells #[a0, a1, a2, a3] 96 (0, 0))) :
    (results fn tmps).run Tryd.prog w = .ok (.agg #[a0, a1, a2, a3]) w := by
  obtain ⟨z0, z1, z2, z3, zf⟩ := fourS hR
  simp only [Array.getD_eq_getD_getElem?] at h2
  simp [results, hf, go_sem, h2, z0, z1, z2, z3]

theorem set4 {w : World} {R : Nat} {b0 b1 b2 b3 : Value} {t : TypeId} (a0 a1 a2 a3 : Value) (hR : w.heap[R]? = some (.cells #[b0, b1, b2, b3] t (0, 0))) :
    ((((w.setCell ⟨R, 0, none⟩ a0).setCell ⟨R, 1, none⟩ a1).setCell ⟨R, 2, none⟩ a2).setCell ⟨R, 3, none⟩ a3).heap[R]? = some (.cells #[a0, a1, a2, a3] t (0, 0)) := by
  have h1 := heap_setCell_same w R 0 _ _ a0 hR
  have h2 := heap_setCell_same _ R 1 _ _ a1 h1
  have h3 := heap_setCell_same _ R 2 _ _ a2 h2
  exact heap_setCell_same _ R 3 _ _ a3 h3

/-- The sums. -/
def sumsV (L : List Rc) (last : Int) : Value := .agg #[.int .i64 (L.length : Nat), .int .i64 (bytesR L : Nat), .int .i64 ((L.head?.map (·.seq)).getD 0), .int .i64 last]

section
variable {W : World} {F : Nat → Prop} {D B : Nat} {L : List Rc} {last : Int}

theorem all_any (hA : StoreAt W F D B L last w) : Calls Tryd.prog 21 #[.pointer (some ⟨D, 0, none⟩)] w (Copied w L) := by
  obtain ⟨M, x, N, I, v, h, hR, _, _⟩ := hA.ex
  obtain ⟨c0, c1, c2, c3, cf⟩ := fourS h.cell
  have hlt := h.lt
  have HC := Lib.hid (clone_rec h.row (by have := hR.few; omega))
  clear hA h hR
  go_enter Tryd.func21, Tryd.ntmps21
  go_wp2_with fail
  refine HC.out.mono ?_
  rintro e w' ⟨v', rfl, h1, h2, h3⟩
  have HF := Lib.hid (show Copied w L (.returned v') w' from ⟨v', rfl, h1, h2, h3⟩)
  clear h1 h2 h3
  go_wp2
  go_ret
  exact HF.out

set_option maxHeartbeats 2000000 in
set_option maxRecDepth 100000 in
theorem sums_any (hA : StoreAt W F D B L last w) : Calls Tryd.prog 45 #[.pointer (some ⟨D, 0, none⟩)] w fun e w' => e = .returned (sumsV L last) ∧ Below w.heap.size w w' := by
  obtain ⟨M, x, N, I, v, h, hR, _, _⟩ := hA.ex
  obtain ⟨n, hn⟩ : ∃ n, L.length = n := ⟨_, rfl⟩
  obtain ⟨bt, hbt⟩ : ∃ bt, bytesR L = bt := ⟨_, rfl⟩
  obtain ⟨fz, hfz⟩ : ∃ fz, (L.head?.map (·.seq)).getD 0 = fz := ⟨_, rfl⟩
  unfold sumsV
  rw [hn, hbt, hfz]
  have HFZ := Lib.hid hfz
  clear hfz
  rw [hbt] at h
  have hfew := hR.few
  rw [hn] at hfew
  have hrow := h.row
  rw [hn] at hrow
  obtain ⟨va, vc, rfl⟩ := hrow.slice
  obtain ⟨c0, c1, c2, c3, cf⟩ := fourS h.cell
  have hlt := h.lt
  have hDw := h.lt
  obtain ⟨w0, hw0⟩ : ∃ w0, w0 = w.alloc (.cells #[.int .i64 0, .int .i64 0, .int .i64 0, .int .i64 0] 96) := ⟨_, rfl⟩
  have hb0 : Below w.heap.size w w0 := by rw [hw0]; exact (Below.refl _ _).alloc (Nat.le_refl _) _
  have hrs : w0.heap[w.heap.size]? = some (.cells #[.int .i64 0, .int .i64 0, .int .i64 0, .int .i64 0] 96 (0, 0)) := by rw [hw0]; exact heap_alloc_new w _
  obtain ⟨rb, hrb⟩ : ∃ rb, w.heap.size = rb := ⟨_, rfl⟩
  rw [hrb] at hrs
  have h0 := h.next hb0
  obtain ⟨d0, d1, d2, d3, df⟩ := fourS h0.cell
  have hlt0 := h0.lt
  have HH := Lib.hid h0; have HB0 := Lib.hid hb0; have HRS := Lib.hid hrs; have HRB := Lib.hid hrb; have HN := Lib.hid hn
  have hn1 : w0.heap.size ≠ D := by omega
  clear hA h hR hrow c0 c1 c2 c3 cf hlt h0 hb0 hrs hrb hbt
  go_enter Tryd.func45, Tryd.ntmps45
  go_upto_region 1 with fail
  rw [← hw0, HRB.out]
  clear hw0
  go_region_held3 (fun w' => w'.cell? ⟨D, 0, none⟩ = some (.slice va n vc) ∧ w'.cell? ⟨D, 2, none⟩ = some (.int .i64 bt) ∧ w'.cell? ⟨D, 3, none⟩ = some (.int .i64 last)) (first | (with_reducible exact ⟨d0, d2, d3⟩) | go_keep) (fail)
  rename_i hheld
  clear hheld
  obtain ⟨w3, hw3⟩ : ∃ w3, w3 = (w0.alloc (.cells #[.int .i64 (n : Nat), .int .i64 (bt : Nat), .int .i64 0, .int .i64 last] 96)).drew := ⟨_, rfl⟩
  have hb3 : Below w0.heap.size w0 w3 := by rw [hw3]; exact ((Below.refl _ _).alloc (Nat.le_refl _) _).drew
  have hs3 : w3.heap[w0.heap.size]? = some (.cells #[.int .i64 (n : Nat), .int .i64 (bt : Nat), .int .i64 0, .int .i64 last] 96 (0, 0)) := by rw [hw3]; exact heap_alloc_new w0 _
  rw [← hw3]
  have h3 := HH.out.next hb3
  have hrs3 := (hb3.block rb (heap_lt HRS.out)).trans HRS.out
  have hrbl : rb < w0.heap.size := heap_lt HRS.out
  obtain ⟨sb, hsb⟩ : ∃ sb, w0.heap.size = sb := ⟨_, rfl⟩
  have hrow3 := h3.row
  rw [HN.out] at hrow3
  obtain ⟨c0, c1, c2, c3, cf⟩ := fourS h3.cell
  have hlt := h3.lt
  have hwb := Lib.hid (HB0.out.trans (hb3.mono HB0.out.size))
  rw [hsb] at hs3 hrbl ⊢
  have hdr : D ≠ rb := by have := HRB.out; have := hDw; omega
  obtain ⟨x0, x1, x2, x3, xf⟩ := fourS hs3
  obtain ⟨y0, y1, y2, y3, yf⟩ := fourS hrs3
  have hsl := heap_lt hs3
  have hrl := heap_lt hrs3
  have HS3 := Lib.hid hs3; have HR3 := Lib.hid hrs3
  clear hw3 hb3 hs3 h3 hrs3 hsb d0 d1 d2 d3 df hlt0 hn1
  by_cases hn0 : n = 0
  · subst hn0
    have hL : L = [] := List.eq_nil_of_length_eq_zero HN.out
    subst hL
    obtain rfl : fz = 0 := by rw [← HFZ.out]; rfl
    clear hrow3
    have HF := Lib.hid (show Below w.heap.size w ((((w3.setCell ⟨rb, 0, none⟩ (.int .i64 0)).setCell ⟨rb, 1, none⟩ (.int .i64 bt)).setCell ⟨rb, 2, none⟩ (.int .i64 0)).setCell ⟨rb, 3, none⟩ (.int .i64 last)) from
      ((((hwb.out.setCell (by have := HRB.out; simp only; omega) _).setCell (by have := HRB.out; simp only; omega) _).setCell (by have := HRB.out; simp only; omega) _).setCell (by have := HRB.out; simp only; omega) _))
    have HR4 := Lib.hid (set4 (.int .i64 0) (.int .i64 bt) (.int .i64 0) (.int .i64 last) HR3.out)
    go_wp2_with fail
    refine bodyPost_ret (v := .agg #[.int .i64 0, .int .i64 bt, .int .i64 0, .int .i64 last]) (res_sums Tryd.results45 _ _ rb rfl HR4.out) rfl ?_
    exact ⟨rfl, HF.out⟩
  · obtain ⟨p, hp⟩ : ∃ p, L[0]? = some p := ⟨_, List.getElem?_eq_getElem (by rw [HN.out]; omega)⟩
    have hz : fz = p.seq := by rw [← HFZ.out, List.head?_eq_getElem?, hp]; rfl
    rcases hrow3.2 with ⟨_, h0⟩ | ⟨g, off, cap, cur, ev, hgg, _⟩
    · omega
    simp only [Value.slice.injEq, true_and] at ev
    obtain ⟨rfl, rfl⟩ := ev
    obtain ⟨m0, m1, m2, m3, m4, m5⟩ := cells_rec hrow3 0 p hp (by omega)
    simp only [Nat.zero_mul, Nat.add_zero] at m1
    rw [← hz] at m1
    have hnz : (0 : Int) < n := by omega
    have hne : ¬ rb = sb := by omega
    have hne2 : ¬ sb = rb := by omega
    obtain ⟨w4, hw4⟩ : ∃ w4, w4 = w3.setCell ⟨sb, 2, none⟩ (.int .i64 fz) := ⟨_, rfl⟩
    have hs4 : w4.heap[sb]? = some (.cells #[.int .i64 (n : Nat), .int .i64 (bt : Nat), .int .i64 fz, .int .i64 last] 96 (0, 0)) := by rw [hw4]; exact heap_setCell_same _ _ _ _ _ _ HS3.out
    have hr4 : w4.heap[rb]? = some (.cells #[.int .i64 0, .int .i64 0, .int .i64 0, .int .i64 0] 96 (0, 0)) := by rw [hw4]; exact (heap_setCell_other _ _ _ _ hne).trans HR3.out
    have hb4 : Below w.heap.size w w4 := by rw [hw4]; exact hwb.out.setCell (by have := HRB.out; simp only; omega) _
    have HR4 := Lib.hid (set4 (.int .i64 n) (.int .i64 bt) (.int .i64 fz) (.int .i64 last) hr4)
    have HF := Lib.hid (show Below w.heap.size w ((((w4.setCell ⟨rb, 0, none⟩ (.int .i64 n)).setCell ⟨rb, 1, none⟩ (.int .i64 bt)).setCell ⟨rb, 2, none⟩ (.int .i64 fz)).setCell ⟨rb, 3, none⟩ (.int .i64 last)) from
      ((((hb4.setCell (by have := HRB.out; simp only; omega) _).setCell (by have := HRB.out; simp only; omega) _).setCell (by have := HRB.out; simp only; omega) _).setCell (by have := HRB.out; simp only; omega) _))
    have HS4 := Lib.hid hs4; have HR5 := Lib.hid hr4
    clear hrow3 hgg m0 m2 m3 m4 m5 hp hs4 hr4 hb4 hz
    go_upto_region 4 with fail
    rw [← hw4]
    obtain ⟨x0, x1, x2, x3, xf⟩ := fourS HS4.out
    obtain ⟨y0, y1, y2, y3, yf⟩ := fourS HR5.out
    have hsl4 := heap_lt HS4.out
    have hrl4 := heap_lt HR5.out
    clear hw4 m1 c0 c1 c2 c3 cf
    go_wp2_with fail
    refine bodyPost_ret (v := .agg #[.int .i64 n, .int .i64 bt, .int .i64 fz, .int .i64 last]) (res_sums Tryd.results45 _ _ rb rfl HR4.out) rfl ?_
    exact ⟨rfl, HF.out⟩
end
end
end Go.Proofs.YthhingihjpkipaaDoor.Sto

namespace Go.Proofs.YthhingihjpkipaaDoor.Sto
open Go.RowKit Heap
open Subj (Tok ML pieces takes StrsAt)
open Rec (Rc recErr far)
open Idx (Ents ptrV new_any)
open Shf (XAt NextX SortedE putL x_new)

/-- What a list of records leaves. -/
def runS (l : List Rc) : List Rc × Int := l.foldl (fun s r => after s.1 s.2 r) ([], 0)

theorem runS_step {l : List Rc} {k : Nat} {r : Rc} (h : l[k]? = some r) : runS (l.take (k + 1)) = after (runS (l.take k)).1 (runS (l.take k)).2 r := by
  unfold runS
  rw [List.take_add_one, h, List.foldl_append]
  rfl

theorem res_rec {fn : Func} (hf : fn.results = #[.cell 2 29]) (tmps : Array Value) (w : World) (R : Nat) {a0 a1 a2 a3 a4 a5 : Value}
    (h2 : tmps.getD 2 undef = .pointer (some ⟨R, 0, none⟩)) (hR : w.heap[R]? = some (.cells #[a0, a1, a2, a3, a4, a5] 29 (0, 0))) :
    (results fn tmps).run Tryd.prog w = .ok (.agg #[a0, a1, a2, a3, a4, a5]) w := by
  obtain ⟨z0, z1, z2, z3, z4, z5⟩ := sixC hR
  simp only [Array.getD_eq_getD_getElem?] at h2
  simp [results, hf, go_sem, h2, z0, z1, z2, z3, z4, z5]

theorem set6 {w : World} {R : Nat} {b0 b1 b2 b3 b4 b5 : Value} {t : TypeId} (a0 a1 a2 a3 a4 a5 : Value) (hR : w.heap[R]? = some (.cells #[b0, b1, b2, b3, b4, b5] t (0, 0))) :
    ((((((w.setCell ⟨R, 0, none⟩ a0).setCell ⟨R, 1, none⟩ a1).setCell ⟨R, 2, none⟩ a2).setCell ⟨R, 3, none⟩ a3).setCell ⟨R, 4, none⟩ a4).setCell ⟨R, 5, none⟩ a5).heap[R]? = some (.cells #[a0, a1, a2, a3, a4, a5] t (0, 0)) := by
  have h1 := heap_setCell_same w R 0 _ _ a0 hR
  have h2 := heap_setCell_same _ R 1 _ _ a1 h1
  have h3 := heap_setCell_same _ R 2 _ _ a2 h2
  have h4 := heap_setCell_same _ R 3 _ _ a3 h3
  have h5 := heap_setCell_same _ R 4 _ _ a4 h4
  exact heap_setCell_same _ R 5 _ _ a5 h5

def noteR (q : Int) : Rc := ⟨1, q, 0, [97, 46, 98], [], [120]⟩

section
variable {W w : World}

set_option maxRecDepth 100000 in
theorem note_any (q : Int) : Calls Tryd.prog 28 #[.int .i64 q] w fun e w' => e = .returned (recV (noteR q)) ∧ Below w.heap.size w w' := by
  show Calls Tryd.prog _ _ w fun e w' => e = .returned (.agg #[.int .i64 1, .int .i64 q, .int .i64 0, .string ⟨#[97, 46, 98]⟩, .string ⟨#[]⟩, .string ⟨#[120]⟩]) ∧ Below w.heap.size w w'
  go_enter Tryd.func28, Tryd.ntmps28
  go_wp2_with fail
  refine bodyPost_ret (v := .agg #[.int .i64 1, .int .i64 q, .int .i64 0, .string ⟨#[97, 46, 98]⟩, .string ⟨#[]⟩, .string ⟨#[120]⟩]) (res_rec Tryd.results28 _ _ w.heap.size rfl (heap_alloc_new w _)) rfl ?_
  exact ⟨rfl, (Below.refl _ _).alloc (Nat.le_refl _) _⟩

theorem new_store (hb : Below W.heap.size W w) : Calls Tryd.prog 7 #[] w fun e w' => e = .returned (.pointer (some ⟨w.heap.size + 1, 0, none⟩)) ∧ StoreAt W (fun k => w.heap.size ≤ k ∧ k < w.heap.size + 2) (w.heap.size + 1) 0 [] 0 w' ∧ Below w.heap.size w w' := by
  have HN := Lib.hid (new_any w)
  obtain ⟨w1, hw1⟩ : ∃ w1, w1 = w.alloc (.cells #[.string ⟨#[]⟩, .slice none 0 0, .bool false, .int .i64 0, .int .i64 0] 151) := ⟨_, rfl⟩
  have hX := x_new hb
  rw [← hw1] at hX HN
  have hsz : w1.heap.size = w.heap.size + 1 := by rw [hw1]; simp
  have hb1 : Below w.heap.size w w1 := by rw [hw1]; exact (Below.refl _ _).alloc (Nat.le_refl _) _
  have hP := Lib.hid (show StoreAt W (fun k => w.heap.size ≤ k ∧ k < w.heap.size + 2) (w.heap.size + 1) 0 [] 0 (w1.alloc (.cells #[.slice none 0 0, ptrV w.heap.size, .int .i64 0, .int .i64 0] 84)) ∧ Below w.heap.size w (w1.alloc (.cells #[.slice none 0 0, ptrV w.heap.size, .int .i64 0, .int .i64 0] 84)) from by
    have hb2 : Below w1.heap.size w1 (w1.alloc (.cells #[.slice none 0 0, ptrV w.heap.size, .int .i64 0, .int .i64 0] 84)) := (Below.refl _ _).alloc (Nat.le_refl _) _
    have hW := hb.size
    refine ⟨⟨⟨_, w.heap.size, 0, [], .slice none 0 0, ⟨hX.next hb2, by rw [← hsz]; exact heap_alloc_new w1 _, Row.nil _ _ _, by omega, by omega, fun k hk => by simp [own, Value.ownBlock] at hk⟩, ⟨List.Pairwise.nil, (fun _ h => by cases h), (fun _ h => by cases h), by simp, ⟨by omega, by unfold far; omega⟩, List.Pairwise.nil, fun s n => ⟨fun h => (by cases h), fun h => absurd rfl h.2⟩⟩, Nat.le_refl _, fun k hk => ?_⟩, ⟨by omega, by omega⟩, fun k hk => by omega, fun k hk => ?_⟩, hb1.trans (hb2.mono hb1.size)⟩
    · rcases hk with rfl | hk
      · exact ⟨Nat.le_refl _, by omega⟩
      · simp [own, Value.ownBlock] at hk
    · have : (w1.alloc (.cells #[.slice none 0 0, ptrV w.heap.size, .int .i64 0, .int .i64 0] 84)).heap.size = w1.heap.size + 1 := by simp
      omega)
  have HSZ := Lib.hid hsz
  clear hX hw1 hsz hb1
  go_enter Tryd.func7, Tryd.ntmps7
  go_wp2_with fail
  refine HN.out.mono ?_
  rintro e w' ⟨rfl, rfl⟩
  have hs := HSZ.out
  go_wp2
  go_ret
  exact ⟨by simp [hs], hP.out⟩

/-- A store of one's own, filled. -/
def FilledAt (W w : World) (l : List Rc) (e : Ending) (w' : World) : Prop :=
  ∃ D F, e = .returned (.pointer (some ⟨D, 0, none⟩)) ∧ StoreAt W F D (16 * l.length) (runS l).1 (runS l).2 w' ∧ (∀ k, F k → w.heap.size ≤ k) ∧ Below w.heap.size w w'

set_option maxHeartbeats 2000000 in
set_option maxRecDepth 100000 in
theorem filled_any (hb : Below W.heap.size W w) (hm : ML W) {v : Value} {l : List Rc} (hl : RecsAt w v l) (hn : l.length ≤ 1000) (hf : ∀ r ∈ l, Fits r) :
    Calls Tryd.prog 14 #[v] w (FilledAt W w l) := by
  obtain ⟨n, hnL⟩ : ∃ n, l.length = n := ⟨_, rfl⟩
  have HN := Lib.hid hnL
  obtain ⟨ao, cap, rfl, ha⟩ := hl
  rw [hnL] at hn ⊢
  have HNEW := Lib.hid (new_store hb)
  obtain ⟨D, hD⟩ : ∃ D, w.heap.size + 1 = D := ⟨_, rfl⟩
  rw [hD] at HNEW
  have HL := Lib.hid (show RecsAt w (.slice ao l.length cap) l from ⟨ao, cap, rfl, ha⟩); have HF := Lib.hid hf; have HML := Lib.hid hm
  clear ha hf hm hD hnL
  go_enter Tryd.func14, Tryd.ntmps14
  go_wp2_with fail
  refine HNEW.out.mono ?_
  rintro e w1 ⟨rfl, hs1, hb1⟩
  have h0 := Lib.hid (show ∃ F, StoreAt W F D (16 * 0) (runS (l.take 0)).1 (runS (l.take 0)).2 w1 ∧ (∀ k, F k → w.heap.size ≤ k) ∧ Below w.heap.size w w1 from ⟨_, hs1, fun k hk => hk.1, hb1⟩)
  clear hs1 hb1 HNEW
  go_wp2_with fail
  go_loopw [9] (fun i wr => ∃ k : Nat, k ≤ n ∧ i = .int .i64 k ∧ Hid (∃ F, StoreAt W F D (16 * k) (runS (l.take k)).1 (runS (l.take k)).2 wr ∧ (∀ k, F k → w.heap.size ≤ k) ∧ Below w.heap.size w wr)) (fun i _ => n - (intOf i).toNat)
  case atStart => exact ⟨0, Nat.zero_le _, rfl, h0⟩
  case round =>
    obtain ⟨k, hk, rfl, HR⟩ := hrel
    clear h0
    obtain ⟨F, hS, hFn, hbw⟩ := HR.out
    by_cases hlt : k < n
    · have hltz : (k : Int) < n := by omega
      obtain ⟨p, hp⟩ : ∃ p, l[k]? = some p := ⟨_, List.getElem?_eq_getElem (by rw [HN.out]; exact hlt)⟩
      have hlr := HL.out.below hbw (Nat.le_refl _)
      obtain ⟨ao', cap', hv, ha⟩ := hlr
      simp only [Value.slice.injEq, true_and] at hv
      obtain ⟨rfl, rfl⟩ := hv
      obtain ⟨g, off, rfl, hcs⟩ := ha (fun e => by rw [e] at hp; simp at hp)
      obtain ⟨m0, m1, m2, m3, m4, m5⟩ := hcs k p hp
      have hfp := HF.out p (List.mem_of_getElem? hp)
      have hrv : recV p = .agg #[.int .i64 p.kind, .int .i64 p.seq, .int .i64 p.time, .string ⟨p.subj.toArray⟩, .string ⟨p.head.toArray⟩, .string ⟨p.data.toArray⟩] := rfl
      obtain ⟨s, h, d, hpp⟩ := parts p
      rw [hpp.s1, hpp.h1, hpp.d1] at hrv
      rw [hpp.s1] at m3
      rw [hpp.h1] at m4
      rw [hpp.d1] at m5
      obtain ⟨wa, hwa⟩ : ∃ wa, wa = wr.alloc (.cells #[.int .i64 p.kind, .int .i64 p.seq, .int .i64 p.time, .string s, .string h, .string d] 29) := ⟨_, rfl⟩
      have hba : Below wr.heap.size wr wa := by rw [hwa]; exact (Below.refl _ _).alloc (Nat.le_refl _) _
      have hea : wa.heap[wr.heap.size]? = some (.cells #[.int .i64 p.kind, .int .i64 p.seq, .int .i64 p.time, .string s, .string h, .string d] 29 (0, 0)) := by rw [hwa]; exact heap_alloc_new wr _
      obtain ⟨bx, hbx⟩ : ∃ bx, wr.heap.size = bx := ⟨_, rfl⟩
      rw [hbx] at hea
      have hAP := apply_any (hS.next hba) (by omega) HML.out p hfp
      rw [hrv] at hAP
      have HSA := Lib.hid (hS.next hba)
      obtain ⟨q0, q1, q2, q3, q4, q5⟩ := sixC hea
      have hbxl := heap_lt hea
      have HAP := Lib.hid hAP; have HBX := Lib.hid hbx; have HBW := Lib.hid (hbw.trans (hba.mono hbw.size)); have HFN := Lib.hid hFn; have HP := Lib.hid hp
      clear hp ha hcs hfp hrv hpp hea hbx hAP hS hFn hbw hba HR
      go_upto_region 5 with fail
      rw [← hwa, HBX.out]
      clear hwa m0 m1 m2 m3 m4 m5
      go_wp2_with fail
      refine HAP.out.mono ?_
      rintro e w4 ⟨rfl, ⟨F', hS4, hF4⟩, ht4⟩
      have HNX := Lib.hid (show ∃ F, StoreAt W F D (16 * (k + 1)) (runS (l.take (k + 1))).1 (runS (l.take (k + 1))).2 w4 ∧ (∀ k, F k → w.heap.size ≤ k) ∧ Below w.heap.size w w4 from by
        refine ⟨F', ?_, fun j hj => ?_, HBW.out.trans (ht4.below HBW.out.size HFN.out)⟩
        · rw [runS_step HP.out]
          exact hS4.mono (by omega)
        · rcases hF4 j hj with e | e
          · exact HFN.out j e
          · exact Nat.le_trans HBW.out.size e)
      clear hS4 hF4 ht4 HAP q0 q1 q2 q3 q4 q5
      go_wp2_with fail
      exact ⟨⟨k + 1, by omega, by go_num, HNX⟩, by simp [intOf]; omega⟩
    · have hltz : ¬ (k : Int) < n := by omega
      obtain rfl : k = n := by omega
      have HFI := Lib.hid (show FilledAt W w l (.returned (.pointer (some ⟨D, 0, none⟩))) wr from by
        rw [List.take_of_length_le (by rw [HN.out]; exact Nat.le_refl _)] at hS
        exact ⟨D, F, rfl, by rw [HN.out]; exact hS, hFn, hbw⟩)
      clear hS hFn hbw HR
      go_wp2_with fail
      go_ret
      exact HFI.out
end
end Go.Proofs.YthhingihjpkipaaDoor.Sto
