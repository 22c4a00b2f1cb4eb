/- slices.DeleteFunc at a row of pulls, walked: what the predicate holds of is struck out. -/
import Derived.Test.YtglgbidcmkncgaaPullRun
namespace Go.Proofs.Ytglgbidcmkncgaa.Pull
open Go.RowKit Heap

theorem plsV_set (l : List Pl) (i : Nat) (x : Pl) (hi : i < l.length) :
    (((plsV l).set (i * 3) (.int .i64 x.batch)).set (i * 3 + 1) (.int .i64 x.till)).set (i * 3 + 2) (.bool x.nowait) = plsV (l.set i x) := by
  induction l generalizing i with
  | nil => simp at hi
  | cons q l ih =>
    cases i with
    | zero => rfl
    | succ i =>
      have := ih i (by simpa using hi)
      show (((cells q ++ plsV l).set ((i + 1) * 3) _).set ((i + 1) * 3 + 1) _).set ((i + 1) * 3 + 2) _ = cells q ++ plsV (l.set i x)
      rw [← this]
      have hc : (cells q).length = 3 := rfl
      rw [List.set_append_right _ _ (by omega), List.set_append_right _ _ (by omega), List.set_append_right _ _ (by omega)]
      rw [hc]
      congr 1
      rw [show (i + 1) * 3 + 2 - 3 = i * 3 + 2 by omega, show (i + 1) * 3 + 1 - 3 = i * 3 + 1 by omega, show (i + 1) * 3 - 3 = i * 3 by omega]

theorem plsV_take (l : List Pl) (i : Nat) : (plsV l).take (i * 3) = plsV (l.take i) := by
  induction l generalizing i with
  | nil => simp [plsV]
  | cons q l ih =>
    cases i with
    | zero => simp [plsV]
    | succ i =>
      show (cells q ++ plsV l).take ((i + 1) * 3) = cells q ++ plsV (l.take i)
      have hc : (cells q).length = 3 := rfl
      rw [List.take_append, hc, List.take_of_length_le (by omega), show (i + 1) * 3 - 3 = i * 3 by omega, ih]

/-- One pull of a row is written. -/
theorem row_set {w : World} {g off n cap : Nat} {l : List Pl} (h : Row w 28 3 (.slice (some ⟨g, off, none⟩) n cap) n (plsV l)) (i : Nat) (x : Pl) (hi : i < n) :
    Row (((w.setCell ⟨g, off + i * 3, none⟩ (.int .i64 x.batch)).setCell ⟨g, off + i * 3 + 1, none⟩ (.int .i64 x.till)).setCell ⟨g, off + i * 3 + 2, none⟩ (.bool x.nowait)) 28 3 (.slice (some ⟨g, off, none⟩) n cap) n (plsV (l.set i x)) := by
  have hl : l.length = n := by have := h.1; rw [plsV_len] at this; omega
  have := ((h.set (i * 3) (by omega) (.int .i64 x.batch)).set (i * 3 + 1) (by omega) (.int .i64 x.till)).set (i * 3 + 2) (by omega) (.bool x.nowait)
  rw [plsV_set l i x (by omega)] at this
  exact this

/-- What stands in the row meanwhile. -/
def Kept (p : Pl → Bool) (l : List Pl) (i j : Nat) (M : List Pl) : Prop :=
  M.length = l.length ∧ i < j ∧ j ≤ l.length ∧ M.take i = (l.take j).filter (fun x => !p x) ∧ M.drop j = l.drop j

theorem Kept.start {p : Pl → Bool} {l : List Pl} {k : Nat} {x : Pl} (h1 : l[k]? = some x) (h2 : p x = true) (h3 : ∀ y ∈ l.take k, p y = false) : Kept p l k (k + 1) l := by
  obtain ⟨hk, hx⟩ := List.getElem?_eq_some_iff.1 h1
  refine ⟨rfl, by omega, by omega, ?_, rfl⟩
  rw [List.take_succ_eq_append_getElem hk, List.filter_append, hx]
  simp only [List.filter_cons, h2, Bool.not_true, Bool.false_eq_true, if_false, List.filter_nil, List.append_nil]
  rw [List.filter_eq_self.2]
  intro y hy
  rw [h3 y hy]; rfl

theorem Kept.get {p : Pl → Bool} {l M : List Pl} {i j : Nat} (h : Kept p l i j M) : M[j]? = l[j]? := by
  have := congrArg (·[0]?) h.2.2.2.2
  simpa [List.getElem?_drop] using this

theorem Kept.skip {p : Pl → Bool} {l M : List Pl} {i j : Nat} {x : Pl} (h : Kept p l i j M) (hx : l[j]? = some x) (hp : p x = true) : Kept p l i (j + 1) M := by
  obtain ⟨h1, h2, h3, h4, h5⟩ := h
  obtain ⟨hk, hx⟩ := List.getElem?_eq_some_iff.1 hx
  refine ⟨h1, by omega, by omega, ?_, ?_⟩
  · rw [h4, List.take_succ_eq_append_getElem hk, List.filter_append, hx]
    simp [hp]
  · rw [← List.drop_drop, ← List.drop_drop, h5]

theorem Kept.keep {p : Pl → Bool} {l M : List Pl} {i j : Nat} {x : Pl} (h : Kept p l i j M) (hx : l[j]? = some x) (hp : p x = false) : Kept p l (i + 1) (j + 1) (M.set i x) := by
  obtain ⟨h1, h2, h3, h4, h5⟩ := h
  obtain ⟨hk, hx⟩ := List.getElem?_eq_some_iff.1 hx
  refine ⟨by simpa using h1, by omega, by omega, ?_, ?_⟩
  · rw [List.take_succ_eq_append_getElem hk, List.filter_append, hx, ← h4, List.take_succ_eq_append_getElem (by rw [List.length_set]; omega)]
    rw [List.take_set_of_le (by omega)]
    simp [hp]
  · rw [List.drop_set_of_lt (by omega), ← List.drop_drop, ← List.drop_drop, h5]

set_option maxHeartbeats 4000000 in
set_option maxRecDepth 100000 in
theorem delete_any (g : Nat) (lb : Array Value) (p : Pl → Bool) (C : World → Prop) (eg : ∀ args w, (callFunc g args).run Try.prog w = .ok (.enter g args) w)
    (v : Value) (l : List Pl) (w : World) (hrow : Row w 28 3 v l.length (plsV l)) (hl : l.length ≤ 1000) (hC : C w) (hk : KeptBy v C) (hp : Tells g lb p C) :
    Calls Try.prog 29 #[v, .func (.func g) #[] lb] w fun e w' => ∃ v', e = .returned v' ∧
      Row w' 28 3 v' (l.filter fun x => !p x).length (plsV (l.filter fun x => !p x)) ∧ Heap.Touch (own v) w w' ∧ ∀ k, own v' k → own v k := by
  rcases first_cases p l with hno | ⟨k0, x0, hk0, hx0, hb0⟩
  · have hidx := index_any g lb p C eg v l w hrow hl hC hk hp (-1) (.inl ⟨rfl, hno⟩)
    have hf : (l.filter fun x => !p x) = l := by
      rw [List.filter_eq_self]
      intro x hx
      rw [hno x hx]; rfl
    rw [hf]
    have HR := Lib.hid hrow
    clear hk hp hno hrow hf
    go_enter Try.func29, Try.ntmps29
    go_wp2_with fail
    refine hidx.mono ?_
    rintro e w' ⟨rfl, hb⟩
    go_wp2
    go_ret
    exact ⟨v, rfl, HR.out.kept (fun j _ hj => hb.block j hj), Heap.Touch.ofBelow hb, fun k h => h⟩
  · have hidx := index_any g lb p C eg v l w hrow hl hC hk hp k0 (.inr ⟨k0, x0, rfl, hk0, hx0, hb0⟩)
    have hK := Kept.start hk0 hx0 hb0
    have hk0l := (List.getElem?_eq_some_iff.1 hk0).1
    have hne1 : ((k0 : Int) == -1) = false := beq_eq_false_iff_ne.2 (by omega)
    rcases hrow.2 with ⟨rfl, h0⟩ | ⟨b, off, cap, cur, rfl, hg, hcap, hcm, _⟩
    · omega
    have hb : b < w.heap.size := heap_lt hg
    have HR := Lib.hid hrow; have HP := Lib.hid hp; have HKB := Lib.hid hk; have HCC := Lib.hid hC; have HK := Lib.hid hK
    clear hrow hp hk hC hg hK hb0 hx0 hk0
    generalize hn : l.length = n at *
    have HN := Lib.hid hn
    clear hn
    go_enter Try.func29, Try.ntmps29
    go_wp2_with fail
    refine hidx.mono ?_
    rintro e w0 ⟨rfl, hbw⟩
    go_wp2_with fail
    go_loopw [5, 6, 7] (fun iv jv _ wr => ∃ (i j : Nat) (M : List Pl), iv = .int .i64 i ∧ jv = .int .i64 j ∧ j ≤ n ∧ i < j ∧ Hid (Kept p l i j M) ∧ Hid (Row wr 28 3 (.slice (some ⟨b, off, none⟩) n cap) n (plsV M)) ∧ Hid (Heap.Touch (own (.slice (some ⟨b, off, none⟩) n cap)) w wr)) (fun _ jv _ _ => n - (intOf jv).toNat)
    case atStart => exact ⟨k0, k0 + 1, l, rfl, by go_num, by omega, by omega, HK, HR.out.kept (fun j _ hj => hbw.block j hj), Heap.Touch.ofBelow hbw⟩
    case round =>
      obtain ⟨i, j, M, rfl, rfl, hj, hij, KM, RM, TM⟩ := hrel
      by_cases hlt : j < n
      · have hltz : (j : Int) < (n : Int) := by omega
        obtain ⟨x, hx⟩ : ∃ x, l[j]? = some x := ⟨l[j]'(by rw [HN.out]; exact hlt), List.getElem?_eq_getElem (by rw [HN.out]; exact hlt)⟩
        obtain ⟨c0, c1, c2⟩ := cells_pull RM.out j x (KM.out.get.trans hx) hlt
        have X := Lib.hid hx
        clear hx
        have tsz := TM.out.size
        have hbwr : b < wr.heap.size := by omega
        have hcall := HP.out (wr.alloc (.cells #[.int .i64 x.batch, .int .i64 x.till, .bool x.nowait] 28)) x (HKB.out w _ HCC.out (TM.out.alloc _))
        have after : ∀ w2 : World, Below (wr.alloc (.cells #[.int .i64 x.batch, .int .i64 x.till, .bool x.nowait] 28)).heap.size (wr.alloc (.cells #[.int .i64 x.batch, .int .i64 x.till, .bool x.nowait] 28)) w2 →
            Row w2 28 3 (.slice (some ⟨b, off, none⟩) n cap) n (plsV M) ∧ Heap.Touch (own (.slice (some ⟨b, off, none⟩) n cap)) w w2 ∧
            w2.cell? ⟨wr.heap.size, 0, none⟩ = some (.int .i64 x.batch) ∧ w2.cell? ⟨wr.heap.size, 1, none⟩ = some (.int .i64 x.till) ∧ w2.cell? ⟨wr.heap.size, 2, none⟩ = some (.bool x.nowait) := fun w2 hb2 => by
          have hs : wr.heap.size < (wr.alloc (.cells #[.int .i64 x.batch, .int .i64 x.till, .bool x.nowait] 28)).heap.size := by simp
          refine ⟨RM.out.kept (fun q _ hq => (hb2.block q (by simp; omega)).trans (Below.heap_alloc _ _ _ hq)), (TM.out.alloc _).after (Heap.Touch.ofBelow hb2), ?_, ?_, ?_⟩
          · rw [hb2.cell (p := ⟨wr.heap.size, 0, none⟩) hs]; exact World.cell?_alloc_mark wr _ _ (0, 0) 0
          · rw [hb2.cell (p := ⟨wr.heap.size, 1, none⟩) hs]; exact World.cell?_alloc_mark wr _ _ (0, 0) 1
          · rw [hb2.cell (p := ⟨wr.heap.size, 2, none⟩) hs]; exact World.cell?_alloc_mark wr _ _ (0, 0) 2
        have AF := Lib.hid after
        clear after
        cases hq : p x with
        | true =>
          rw [hq] at hcall
          go_wp2_with (go_at_fn g; refine hcall.mono ?_; rintro e w2 ⟨rfl, hb2⟩)
          obtain ⟨r2, t2, _⟩ := AF.out w2 hb2
          refine ⟨⟨i, j + 1, M, rfl, by go_num, by omega, by omega, KM.out.skip X.out hq, r2, t2⟩, by simp [intOf]; omega⟩
        | false =>
          rw [hq] at hcall
          have hil : i < M.length := by rw [KM.out.1, HN.out]; omega
          obtain ⟨y, hy⟩ : ∃ y, M[i]? = some y := ⟨M[i], List.getElem?_eq_getElem hil⟩
          have Y := Lib.hid hy
          clear hy
          go_wp2_with fail
          go_at_fn g; refine hcall.mono ?_; rintro e w2 ⟨rfl, hb2⟩; obtain ⟨r2, t2, b0, b1, b2⟩ := AF.out w2 hb2; obtain ⟨d0, d1, d2⟩ := cells_pull r2 i y Y.out (by omega); obtain ⟨f0, f1, f2⟩ := frozen_pull r2 i (by omega); have R2 := Lib.hid r2; have T2 := Lib.hid t2; clear r2 t2 hb2
          clear AF HP HKB HR hidx c0 c1 c2
          go_wp2_with fail
          have e1 := KM.out.keep X.out hq
          have e2 := row_set R2.out i x (by omega)
          have hbo : own (.slice (some ⟨b, off, none⟩) n cap) b := rfl
          have e3 := ((T2.out.setCell (p := ⟨b, off + i * 3, none⟩) (.inl hbo) (.int .i64 x.batch)).setCell (p := ⟨b, off + i * 3 + 1, none⟩) (.inl hbo) (.int .i64 x.till)).setCell (p := ⟨b, off + i * 3 + 2, none⟩) (.inl hbo) (.bool x.nowait)
          have E1 := Lib.hid e1; have E2 := Lib.hid e2; have E3 := Lib.hid e3
          clear e1 e2 e3
          exact ⟨⟨i + 1, j + 1, M.set i x, by go_num, by go_num, by omega, by omega, E1, E2, E3⟩, by simp [intOf]; omega⟩
      · have hltz : ¬ (j : Int) < (n : Int) := by omega
        obtain rfl : j = n := by omega
        have hcap' : ¬ cap = i := by omega
        obtain ⟨w3, hcl, r3, t3⟩ := run_clear_row (P := Try.prog) 37 28 0 (.agg #[.int .i64 0, .int .i64 0, .bool false]) 3 Try.underlying37 Try.zeroValue28 rfl (by decide) (by decide) RM.out hij
        have hM : M.take i = l.filter (fun x => !p x) := by rw [KM.out.2.2.2.1, List.take_of_length_le (by rw [HN.out]; omega)]
        rw [plsV_take, hM] at r3
        have hlen : (l.filter fun x => !p x).length = i := by
          rw [← hM, List.length_take, KM.out.1, HN.out]; omega
        have R3 := Lib.hid r3; have T3 := Lib.hid t3; have HM := Lib.hid hlen
        clear r3 t3 hM hlen
        go_wp2_with fail
        go_ret
        exact ⟨_, rfl, by rw [HM.out]; exact R3.out, TM.out.after T3.out, fun k hk => hk⟩

end Go.Proofs.Ytglgbidcmkncgaa.Pull
