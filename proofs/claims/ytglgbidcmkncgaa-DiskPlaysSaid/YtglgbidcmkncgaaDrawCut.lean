/- The reference's disk: Sync, Cut. -/
import Derived.Test.YtglgbidcmkncgaaDrawRead
namespace Go.Proofs.Ytglgbidcmkncgaa.Drw
open Go.RowKit Heap Dsk

/-! ### in plain Lean -/
theorem setF_set : ∀ {A : List FileP} {k : Nat} {p q : FileP}, A[k]? = some p → p.n = q.n → (∀ y ∈ A.take k, y.n ≠ q.n) → setF A q = A.set k q
  | [], k, p, q, h, _, _ => by simp at h
  | a :: r, 0, p, q, h, e, _ => by
    simp only [List.getElem?_cons_zero, Option.some.injEq] at h; subst h
    unfold setF; rw [if_pos e]; rfl
  | a :: r, k + 1, p, q, h, e, hn => by
    unfold setF
    rw [if_neg (hn a (by simp)), setF_set (k := k) (by simpa using h) e (fun y hy => hn y (by rw [List.take_succ_cons]; exact List.mem_cons_of_mem _ hy))]
    rfl

theorem plsV_cons (a : FileP) (r : List FileP) : plsV (a :: r) = cells a ++ plsV r := rfl

/-- A paper's cell is written. -/
theorem plsV_set : ∀ {A : List FileP} {k : Nat} {p q : FileP} {j : Nat} {u : Value}, A[k]? = some p → j < 3 → cells q = (cells p).set j u → (plsV A).set (k * 3 + j) u = plsV (A.set k q)
  | [], k, p, q, j, u, h, _, _ => by simp at h
  | a :: r, 0, p, q, j, u, h, hj, hq => by
    simp only [List.getElem?_cons_zero, Option.some.injEq] at h; subst h
    rw [plsV_cons, Nat.zero_mul, Nat.zero_add, List.set_append_left _ _ (by simp [cells]; omega)]
    rw [List.set_cons_zero, plsV_cons, hq]
  | a :: r, k + 1, p, q, j, u, h, hj, hq => by
    have hl : (cells a).length = 3 := rfl
    rw [plsV_cons, List.set_append_right _ _ (by rw [hl]; omega), hl, show (k + 1) * 3 + j - 3 = k * 3 + j by omega, plsV_set (by simpa using h) hj hq]
    rfl

section
variable {W w : World} {G : Nat → Prop} {E : Nat} {room : Int} {A : List FileP}

/-- The world in which a drawer's paper is turned. -/
theorem DrawAt.put {w' : World} {v : Value} {k : Nat} {p q : FileP} {n : Int} (h : DrawAt W G E room A w) (hn : idxF A n = (k : Int)) (hp : A[k]? = some p) (hq : q.n = n) (hr : RightD room (setF A q))
    (hE : w'.heap[E]? = some (.cells #[.int .i64 room, v] 59 (0, 0))) (hrow : Row w' 81 3 v A.length (plsV (A.set k q))) (ho : ∀ k, own v k → G k) (ht : Heap.Touch G w w') :
    DrawAt W G E room (setF A q) w' := by
  obtain ⟨p', h1, h2, h3, h4, _⟩ := index_pos hn
  obtain rfl : p' = p := by rw [hp] at h1; simpa using h1.symm
  subst hq
  have hset : setF A q = A.set k q := setF_set hp h2 h4
  refine ⟨hr, h.below.trans (ht.below h.below.size h.newG), h.newG, h.gE, v, hE, ?_, ho⟩
  rw [hset, List.length_set]; exact hrow

set_option maxHeartbeats 1000000 in
set_option maxRecDepth 100000 in
theorem sync_drw (h : DrawAt W G E room A w) (n : Int) : Calls Try.prog 35 #[.pointer (some ⟨E, 0, none⟩), .int .i64 n] w fun e w' => e = .returned (.int .i64 ((syncD A n).2 : Nat)) ∧ DrawAt W G E room (syncD A n).1 w' ∧ Heap.Touch G w w' := by
  have HA := Lib.hid (at_any h n)
  have HH := Lib.hid h
  have hfew := h.right.few
  rcases idxF_cases A n with ⟨e1, e2⟩ | ⟨k, p, e1, e2, e3, e4, e5⟩
  · have hr : syncD A n = (A, 4) := by unfold syncD; rw [e2]
    rw [hr]
    rw [e1] at HA
    clear h e1 e2 hr
    go_enter Try.func35, Try.ntmps35
    go_wp2_with fail
    refine HA.out.mono ?_
    rintro e w' ⟨rfl, hb⟩
    have HB := Lib.hid hb
    clear hb
    go_wp2_with fail
    go_ret
    exact ⟨rfl, HH.out.next HB.out, Heap.Touch.ofBelow HB.out⟩
  · have hr : syncD A n = (setF A ⟨n, p.text, p.text.length⟩, 0) := by unfold syncD; rw [e4]
    rw [hr]
    have hkA := (List.getElem?_eq_some_iff.1 e2).1
    have htot := total_setF (q := ⟨n, p.text, p.text.length⟩) h.right.sorted e4
    have hrt : RightD room (setF A ⟨n, p.text, p.text.length⟩) := h.right.set e4 _ rfl (Nat.le_refl _) (by have := h.right.fits; simp only; omega)
    have HP := Lib.hid e2; have HRT := Lib.hid hrt; have HE1 := Lib.hid e1; have HPN := Lib.hid e3
    rw [e1] at HA
    clear h e1 e2 e3 e4 e5 hr htot hrt
    go_enter Try.func35, Try.ntmps35
    go_wp2_with fail
    refine HA.out.mono ?_
    rintro e w' ⟨rfl, hb⟩
    have HD := Lib.hid (HH.out.next hb)
    obtain ⟨v, h1, h2, h3⟩ := HD.out.mem
    obtain ⟨c0, c1, cf⟩ := twoC h1
    have hrow := h2.2
    rcases hrow with ⟨hv, h0⟩ | ⟨g, off, cap, cur, hv, _⟩
    · omega
    subst hv
    obtain ⟨d0, d1, d2⟩ := cells_pull h2 k p HP.out hkA
    obtain ⟨f0, f1, f2⟩ := frozen_pull h2 k hkA
    obtain ⟨T, hT, hTs, hTl⟩ := text_of p.text
    rw [← hT] at d2
    have hgG : G g := h3 g (by simp [own, Value.ownBlock])
    have hneE : E ≠ g := fun e => ne_row h1 h2 (by rw [e]; simp [own, Value.ownBlock])
    have hend : DrawAt W G E room (setF A ⟨n, p.text, p.text.length⟩) (w'.drew.setCell ⟨g, off + k * 3 + 1, none⟩ (.int .i64 (T.size : Nat))) ∧ Heap.Touch G w (w'.drew.setCell ⟨g, off + k * 3 + 1, none⟩ (.int .i64 (T.size : Nat))) := by
      have ht : Heap.Touch G w' (w'.drew.setCell ⟨g, off + k * 3 + 1, none⟩ (.int .i64 (T.size : Nat))) := (Heap.Touch.refl _ w').drew.setCell (.inl hgG) _
      have hset := Row.set (w := w'.drew) (h2.kept (w' := w'.drew) fun _ _ _ => rfl) (k * 3 + 1) (by omega) (.int .i64 (T.size : Nat))
      rw [plsV_set (q := ⟨n, p.text, p.text.length⟩) HP.out (by omega) (by simp [cells, HPN.out, hTs])] at hset
      rw [← Nat.add_assoc] at hset
      refine ⟨HD.out.put HE1.out HP.out rfl HRT.out ?_ hset h3 ht, (Heap.Touch.ofBelow hb).after ht⟩
      rw [heap_setCell_other _ _ _ _ hneE]; exact h1
    have HEND := Lib.hid hend
    clear hb h1 h2 h3 HA hT hTs hTl hend hgG
    go_wp2_with fail
    go_region
    go_wp2
    go_ret
    exact ⟨rfl, HEND.out⟩
end
end Go.Proofs.Ytglgbidcmkncgaa.Drw
