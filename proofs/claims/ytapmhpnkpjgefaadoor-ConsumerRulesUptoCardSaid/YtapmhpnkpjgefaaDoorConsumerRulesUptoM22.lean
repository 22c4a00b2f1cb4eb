/- Parts of the proof, joined: What a store tells of itself: All, Sums; slices.Clone and slices.Equal of records. -/
import Derived.Test.YtapmhpnkpjgefaaDoorConsumerRulesUptoM21
import Derived.Laws.StructEq
import Derived.BigRegion
import Derived.Lib.SliceRun
namespace Go.Proofs.YtapmhpnkpjgefaaDoor.Sto
open Go.RowKit Heap
open Subj (Tok ML pieces takes StrsAt)
open Rec (Rc recErr far)
open Idx (Ents ptrV)
open Shf (XAt NextX SortedE putL)

section
variable {w : World}

theorem res_sums {fn : Func} (hf : fn.results = #[.cell 2 65]) (tmps : Array Value) (w : World) (R : Nat) {a0 a1 a2 a3 : Value}
    (h2 : tmps.getD 2 undef = .pointer (some ⟨R, 0, none⟩)) (hR : w.heap[R]? = some (.cells #[a0, a1, a2, a3] 65 (0, 0))) :
    (results fn tmps).run Tryd.prog w = .ok (.agg #[a0, a1, a2, a3]) w := by
  obtain ⟨z0, z1, z2, z3, zf⟩ := fourS hR
  simp only [Array.getD_eq_getD_getElem?] at h2
  simp [results, hf, go_sem, h2, z0, z1, z2, z3]

theorem set4 {w : World} {R : Nat} {b0 b1 b2 b3 : Value} {t : TypeId} (a0 a1 a2 a3 : Value) (hR : w.heap[R]? = some (.cells #[b0, b1, b2, b3] t (0, 0))) :
    ((((w.setCell ⟨R, 0, none⟩ a0).setCell ⟨R, 1, none⟩ a1).setCell ⟨R, 2, none⟩ a2).setCell ⟨R, 3, none⟩ a3).heap[R]? = some (.cells #[a0, a1, a2, a3] t (0, 0)) := by
  have h1 := heap_setCell_same w R 0 _ _ a0 hR
  have h2 := heap_setCell_same _ R 1 _ _ a1 h1
  have h3 := heap_setCell_same _ R 2 _ _ a2 h2
  exact heap_setCell_same _ R 3 _ _ a3 h3

/-- The sums. -/
def sumsV (L : List Rc) (last : Int) : Value := .agg #[.int .i64 (L.length : Nat), .int .i64 (bytesR L : Nat), .int .i64 ((L.head?.map (·.seq)).getD 0), .int .i64 last]

section
variable {W : World} {F : Nat → Prop} {D B : Nat} {L : List Rc} {last : Int}
set_option maxHeartbeats 2000000 in
set_option maxRecDepth 100000 in
theorem sums_any (hA : StoreAt W F D B L last w) : Calls Tryd.prog 17 #[.pointer (some ⟨D, 0, none⟩)] w fun e w' => e = .returned (sumsV L last) ∧ Below w.heap.size w w' := by
  obtain ⟨M, x, N, I, v, h, hR, _, _⟩ := hA.ex
  obtain ⟨n, hn⟩ : ∃ n, L.length = n := ⟨_, rfl⟩
  obtain ⟨bt, hbt⟩ : ∃ bt, bytesR L = bt := ⟨_, rfl⟩
  obtain ⟨fz, hfz⟩ : ∃ fz, (L.head?.map (·.seq)).getD 0 = fz := ⟨_, rfl⟩
  unfold sumsV
  rw [hn, hbt, hfz]
  have HFZ := Lib.hid hfz
  clear hfz
  rw [hbt] at h
  have hfew := hR.few
  rw [hn] at hfew
  have hrow := h.row
  rw [hn] at hrow
  obtain ⟨va, vc, rfl⟩ := hrow.slice
  obtain ⟨c0, c1, c2, c3, cf⟩ := fourS h.cell
  have hlt := h.lt
  have hDw := h.lt
  obtain ⟨w0, hw0⟩ : ∃ w0, w0 = w.alloc (.cells #[.int .i64 0, .int .i64 0, .int .i64 0, .int .i64 0] 65) := ⟨_, rfl⟩
  have hb0 : Below w.heap.size w w0 := by rw [hw0]; exact (Below.refl _ _).alloc (Nat.le_refl _) _
  have hrs : w0.heap[w.heap.size]? = some (.cells #[.int .i64 0, .int .i64 0, .int .i64 0, .int .i64 0] 65 (0, 0)) := by rw [hw0]; exact heap_alloc_new w _
  obtain ⟨rb, hrb⟩ : ∃ rb, w.heap.size = rb := ⟨_, rfl⟩
  rw [hrb] at hrs
  have h0 := h.next hb0
  obtain ⟨d0, d1, d2, d3, df⟩ := fourS h0.cell
  have hlt0 := h0.lt
  have HH := Lib.hid h0; have HB0 := Lib.hid hb0; have HRS := Lib.hid hrs; have HRB := Lib.hid hrb; have HN := Lib.hid hn
  have hn1 : w0.heap.size ≠ D := by omega
  clear hA h hR hrow c0 c1 c2 c3 cf hlt h0 hb0 hrs hrb hbt
  go_enter Tryd.func17, Tryd.ntmps17
  go_upto_region 1 with fail
  rw [← hw0, HRB.out]
  clear hw0
  go_region_held3 (fun w' => w'.cell? ⟨D, 0, none⟩ = some (.slice va n vc) ∧ w'.cell? ⟨D, 2, none⟩ = some (.int .i64 bt) ∧ w'.cell? ⟨D, 3, none⟩ = some (.int .i64 last)) (first | (with_reducible exact ⟨d0, d2, d3⟩) | go_keep) (fail)
  rename_i hheld
  clear hheld
  obtain ⟨w3, hw3⟩ : ∃ w3, w3 = (w0.alloc (.cells #[.int .i64 (n : Nat), .int .i64 (bt : Nat), .int .i64 0, .int .i64 last] 65)).drew := ⟨_, rfl⟩
  have hb3 : Below w0.heap.size w0 w3 := by rw [hw3]; exact ((Below.refl _ _).alloc (Nat.le_refl _) _).drew
  have hs3 : w3.heap[w0.heap.size]? = some (.cells #[.int .i64 (n : Nat), .int .i64 (bt : Nat), .int .i64 0, .int .i64 last] 65 (0, 0)) := by rw [hw3]; exact heap_alloc_new w0 _
  rw [← hw3]
  have h3 := HH.out.next hb3
  have hrs3 := (hb3.block rb (heap_lt HRS.out)).trans HRS.out
  have hrbl : rb < w0.heap.size := heap_lt HRS.out
  obtain ⟨sb, hsb⟩ : ∃ sb, w0.heap.size = sb := ⟨_, rfl⟩
  have hrow3 := h3.row
  rw [HN.out] at hrow3
  obtain ⟨c0, c1, c2, c3, cf⟩ := fourS h3.cell
  have hlt := h3.lt
  have hwb := Lib.hid (HB0.out.trans (hb3.mono HB0.out.size))
  rw [hsb] at hs3 hrbl ⊢
  have hdr : D ≠ rb := by have := HRB.out; have := hDw; omega
  obtain ⟨x0, x1, x2, x3, xf⟩ := fourS hs3
  obtain ⟨y0, y1, y2, y3, yf⟩ := fourS hrs3
  have hsl := heap_lt hs3
  have hrl := heap_lt hrs3
  have HS3 := Lib.hid hs3; have HR3 := Lib.hid hrs3
  clear hw3 hb3 hs3 h3 hrs3 hsb d0 d1 d2 d3 df hlt0 hn1
  by_cases hn0 : n = 0
  · subst hn0
    have hL : L = [] := List.eq_nil_of_length_eq_zero HN.out
    subst hL
    obtain rfl : fz = 0 := by rw [← HFZ.out]; rfl
    clear hrow3
    have HF := Lib.hid (show Below w.heap.size w ((((w3.setCell ⟨rb, 0, none⟩ (.int .i64 0)).setCell ⟨rb, 1, none⟩ (.int .i64 bt)).setCell ⟨rb, 2, none⟩ (.int .i64 0)).setCell ⟨rb, 3, none⟩ (.int .i64 last)) from
      ((((hwb.out.setCell (by have := HRB.out; simp only; omega) _).setCell (by have := HRB.out; simp only; omega) _).setCell (by have := HRB.out; simp only; omega) _).setCell (by have := HRB.out; simp only; omega) _))
    have HR4 := Lib.hid (set4 (.int .i64 0) (.int .i64 bt) (.int .i64 0) (.int .i64 last) HR3.out)
    go_wp2_with fail
    refine bodyPost_ret (v := .agg #[.int .i64 0, .int .i64 bt, .int .i64 0, .int .i64 last]) (res_sums Tryd.results17 _ _ rb rfl HR4.out) rfl ?_
    exact ⟨rfl, HF.out⟩
  · obtain ⟨p, hp⟩ : ∃ p, L[0]? = some p := ⟨_, List.getElem?_eq_getElem (by rw [HN.out]; omega)⟩
    have hz : fz = p.seq := by rw [← HFZ.out, List.head?_eq_getElem?, hp]; rfl
    rcases hrow3.2 with ⟨_, h0⟩ | ⟨g, off, cap, cur, ev, hgg, _⟩
    · omega
    simp only [Value.slice.injEq, true_and] at ev
    obtain ⟨rfl, rfl⟩ := ev
    obtain ⟨m0, m1, m2, m3, m4, m5⟩ := cells_rec hrow3 0 p hp (by omega)
    simp only [Nat.zero_mul, Nat.add_zero] at m1
    rw [← hz] at m1
    have hnz : (0 : Int) < n := by omega
    have hne : ¬ rb = sb := by omega
    have hne2 : ¬ sb = rb := by omega
    obtain ⟨w4, hw4⟩ : ∃ w4, w4 = w3.setCell ⟨sb, 2, none⟩ (.int .i64 fz) := ⟨_, rfl⟩
    have hs4 : w4.heap[sb]? = some (.cells #[.int .i64 (n : Nat), .int .i64 (bt : Nat), .int .i64 fz, .int .i64 last] 65 (0, 0)) := by rw [hw4]; exact heap_setCell_same _ _ _ _ _ _ HS3.out
    have hr4 : w4.heap[rb]? = some (.cells #[.int .i64 0, .int .i64 0, .int .i64 0, .int .i64 0] 65 (0, 0)) := by rw [hw4]; exact (heap_setCell_other _ _ _ _ hne).trans HR3.out
    have hb4 : Below w.heap.size w w4 := by rw [hw4]; exact hwb.out.setCell (by have := HRB.out; simp only; omega) _
    have HR4 := Lib.hid (set4 (.int .i64 n) (.int .i64 bt) (.int .i64 fz) (.int .i64 last) hr4)
    have HF := Lib.hid (show Below w.heap.size w ((((w4.setCell ⟨rb, 0, none⟩ (.int .i64 n)).setCell ⟨rb, 1, none⟩ (.int .i64 bt)).setCell ⟨rb, 2, none⟩ (.int .i64 fz)).setCell ⟨rb, 3, none⟩ (.int .i64 last)) from
      ((((hb4.setCell (by have := HRB.out; simp only; omega) _).setCell (by have := HRB.out; simp only; omega) _).setCell (by have := HRB.out; simp only; omega) _).setCell (by have := HRB.out; simp only; omega) _))
    have HS4 := Lib.hid hs4; have HR5 := Lib.hid hr4
    clear hrow3 hgg m0 m2 m3 m4 m5 hp hs4 hr4 hb4 hz
    go_upto_region 4 with fail
    rw [← hw4]
    obtain ⟨x0, x1, x2, x3, xf⟩ := fourS HS4.out
    obtain ⟨y0, y1, y2, y3, yf⟩ := fourS HR5.out
    have hsl4 := heap_lt HS4.out
    have hrl4 := heap_lt HR5.out
    clear hw4 m1 c0 c1 c2 c3 cf
    go_wp2_with fail
    refine bodyPost_ret (v := .agg #[.int .i64 n, .int .i64 bt, .int .i64 fz, .int .i64 last]) (res_sums Tryd.results17 _ _ rb rfl HR4.out) rfl ?_
    exact ⟨rfl, HF.out⟩
end
end
end Go.Proofs.YtapmhpnkpjgefaaDoor.Sto
