/- Parts of the proof, joined: The reference's disk: Used, List, Read.; The reference's disk: Sync, Cut.; The reference's disk: Cut.; The reference's disk: Remove.; The reference's disk: List. -/
import Derived.Test.YtbgchhgdlceceaaGreatDoorLogPlaysUptoM4
import Derived.Deep.RegionLaw
namespace Go.Proofs.YtbgchhgdlceceaaGreatDoor.Drw
open Go.RowKit Heap Dsk

theorem total_takeF {A : List FileP} {k : Nat} (hk : k < A.length) : total (A.take (k + 1)) = total (A.take k) + A[k].text.length := by
  rw [List.take_add_one, List.getElem?_eq_getElem hk]
  show total (A.take k ++ [A[k]]) = _
  have : ∀ (l : List FileP) (p : FileP), total (l ++ [p]) = total l + p.text.length := by
    intro l p
    induction l with
    | nil => simp [total]
    | cons a r ih => simp only [List.cons_append, total, ih]; omega
  exact this _ _

theorem total_take_le (A : List FileP) (k : Nat) : total (A.take k) ≤ total A := by
  induction A generalizing k with
  | nil => simp
  | cons a r ih =>
    cases k with
    | zero => simp [total]
    | succ k => simp only [List.take_succ_cons, total]; have := ih k; omega

section
variable {W w : World} {G : Nat → Prop} {E : Nat} {room : Int} {A : List FileP}

set_option maxHeartbeats 1000000 in
set_option maxRecDepth 100000 in
theorem used_drw (h : DrawAt W G E room A w) : Calls Tryz.prog 113 #[.pointer (some ⟨E, 0, none⟩)] w fun e w' => e = .returned (.int .i64 (total A : Nat)) ∧ w = w' := by
  obtain ⟨v, h1, h2, h3⟩ := h.mem
  obtain ⟨c0, c1, cf⟩ := twoC h1
  have hfit := h.right.fits; have hsm := h.right.small; have hfew := h.right.few
  obtain ⟨L, hL⟩ : ∃ L, A.length = L := ⟨_, rfl⟩
  rw [hL] at h2 hfew
  obtain ⟨a, c, hv⟩ := h2.slice
  subst hv
  have HL := Lib.hid hL; have HR := Lib.hid h2; have HH := Lib.hid h
  have HT := Lib.hid (total_take_le A)
  clear h h1 h2 h3 hL
  go_enter Tryz.func113, Tryz.ntmps113
  go_wp2_with fail
  go_loopw [3, 4] (fun s i wr => ∃ k : Nat, k ≤ L ∧ i = .int .i64 k ∧ s = .int .i64 (total (A.take k) : Nat) ∧ w = wr) (fun _ i _ => L - (intOf i).toNat)
  case atStart => exact ⟨0, Nat.zero_le _, rfl, rfl, rfl⟩
  case round =>
    obtain ⟨k, hk, rfl, rfl, rfl⟩ := hrel
    by_cases hlt : k < L
    · have hltz : (k : Int) < L := by omega
      have hkA : k < A.length := by rw [HL.out]; exact hlt
      have hst := total_takeF hkA
      have hp := List.getElem?_eq_getElem hkA
      generalize A[k] = p at hst hp
      have hrow := HR.out.2
      rcases hrow with ⟨hv, h0⟩ | ⟨g, off, cap, cur, hv, _⟩
      · omega
      simp only [Value.slice.injEq, true_and] at hv
      obtain ⟨rfl, rfl⟩ := hv
      obtain ⟨d0, d1, d2⟩ := cells_pull HR.out k p hp hlt
      obtain ⟨T, hT, hTs, hTl⟩ := text_of p.text
      rw [← hT] at d2
      have htt := HT.out (k + 1)
      rw [hst, ← hTs] at htt
      have HST := Lib.hid (show (total (A.take (k + 1)) : Nat) = total (A.take k) + T.size from by rw [hTs]; exact hst)
      obtain ⟨t0, ht0⟩ : ∃ t0, total (A.take k) = t0 := ⟨_, rfl⟩
      rw [ht0] at htt HST ⊢
      have wz : IntKind.i64.wrap ((t0 : Int) + (T.size : Int)) = (t0 : Int) + (T.size : Int) := IntWalk.i64_in _ (by omega)
      clear hst hp hT hTs hTl ht0
      go_wp2_with fail
      exact ⟨⟨k + 1, by omega, by go_num, by rw [HST.out]; go_num, trivial⟩, by simp [intOf]; omega⟩
    · have hltz : ¬ (k : Int) < L := by omega
      obtain rfl : k = L := by omega
      have HF := Lib.hid (show total (A.take k) = total A from by rw [List.take_of_length_le (by rw [HL.out]; exact Nat.le_refl _)])
      go_wp2_with fail
      go_ret
      exact ⟨ret_int (by rw [HF.out]), rfl⟩

theorem index_pos {A : List FileP} {n : Int} {k : Nat} (h : idxF A n = (k : Int)) : ∃ p, A[k]? = some p ∧ p.n = n ∧ getF A n = some p ∧ (∀ y ∈ A.take k, y.n ≠ n) ∧ k < A.length := by
  rcases idxF_cases A n with ⟨h1, h2⟩ | ⟨k', p, h1, h2, h3, h4, h5⟩
  · omega
  · obtain rfl : k' = k := by omega
    exact ⟨p, h2, h3, h4, h5, (List.getElem?_eq_some_iff.1 h2).1⟩

set_option maxHeartbeats 1000000 in
set_option maxRecDepth 100000 in
theorem read_drw (h : DrawAt W G E room A w) (n : Int) : Calls Tryz.prog 110 #[.pointer (some ⟨E, 0, none⟩), .int .i64 n] w fun e w' => e = .returned (.tuple #[.string ⟨(readD A n).1.toArray⟩, .int .i64 ((readD A n).2 : Nat)]) ∧ Below w.heap.size w w' := by
  have HA := Lib.hid (at_any h n)
  have HH := Lib.hid h
  have hfew := h.right.few
  rcases idxF_cases A n with ⟨e1, e2⟩ | ⟨k, p, e1, e2, e3, e4, e5⟩
  · have hr : readD A n = ([], 4) := by unfold readD; rw [e2]
    rw [hr]
    rw [e1] at HA
    clear h e1 e2 hr
    go_enter Tryz.func110, Tryz.ntmps110
    go_wp2_with fail
    refine HA.out.mono ?_
    rintro e w' ⟨rfl, hb⟩
    have HB := Lib.hid hb
    clear hb
    go_wp2_with fail
    go_ret2
    exact ⟨rfl, HB.out⟩
  · have hr : readD A n = (p.text, 0) := by unfold readD; rw [e4]
    rw [hr]
    rw [e1] at HA
    have hkA := (List.getElem?_eq_some_iff.1 e2).1
    have HP := Lib.hid e2
    clear h e1 e2 e3 e4 e5 hr
    go_enter Tryz.func110, Tryz.ntmps110
    go_wp2_with fail
    refine HA.out.mono ?_
    rintro e w' ⟨rfl, hb⟩
    obtain ⟨v, h1, h2, h3⟩ := (HH.out.next hb).mem
    obtain ⟨c0, c1, cf⟩ := twoC h1
    have HB := Lib.hid hb
    have hrow := h2.2
    rcases hrow with ⟨hv, h0⟩ | ⟨g, off, cap, cur, hv, _⟩
    · omega
    subst hv
    obtain ⟨d0, d1, d2⟩ := cells_pull h2 k p HP.out hkA
    clear hb h1 h2 h3 HA
    go_wp2_with fail
    go_ret2
    exact ⟨rfl, HB.out⟩
end
end Go.Proofs.YtbgchhgdlceceaaGreatDoor.Drw

namespace Go.Proofs.YtbgchhgdlceceaaGreatDoor.Drw
open Go.RowKit Heap Dsk

/-! ### in plain Lean -/
theorem setF_set : ∀ {A : List FileP} {k : Nat} {p q : FileP}, A[k]? = some p → p.n = q.n → (∀ y ∈ A.take k, y.n ≠ q.n) → setF A q = A.set k q
  | [], k, p, q, h, _, _ => by simp at h
  | a :: r, 0, p, q, h, e, _ => by
    simp only [List.getElem?_cons_zero, Option.some.injEq] at h; subst h
    unfold setF; rw [if_pos e]; rfl
  | a :: r, k + 1, p, q, h, e, hn => by
    unfold setF
    rw [if_neg (hn a (by simp)), setF_set (k := k) (by simpa using h) e (fun y hy => hn y (by rw [List.take_succ_cons]; exact List.mem_cons_of_mem _ hy))]
    rfl

theorem plsV_cons (a : FileP) (r : List FileP) : plsV (a :: r) = cells a ++ plsV r := rfl

/-- A paper's cell is written. -/
theorem plsV_set : ∀ {A : List FileP} {k : Nat} {p q : FileP} {j : Nat} {u : Value}, A[k]? = some p → j < 3 → cells q = (cells p).set j u → (plsV A).set (k * 3 + j) u = plsV (A.set k q)
  | [], k, p, q, j, u, h, _, _ => by simp at h
  | a :: r, 0, p, q, j, u, h, hj, hq => by
    simp only [List.getElem?_cons_zero, Option.some.injEq] at h; subst h
    rw [plsV_cons, Nat.zero_mul, Nat.zero_add, List.set_append_left _ _ (by simp [cells]; omega)]
    rw [List.set_cons_zero, plsV_cons, hq]
  | a :: r, k + 1, p, q, j, u, h, hj, hq => by
    have hl : (cells a).length = 3 := rfl
    rw [plsV_cons, List.set_append_right _ _ (by rw [hl]; omega), hl, show (k + 1) * 3 + j - 3 = k * 3 + j by omega, plsV_set (by simpa using h) hj hq]
    rfl

section
variable {W w : World} {G : Nat → Prop} {E : Nat} {room : Int} {A : List FileP}

/-- The world in which a drawer's paper is turned. -/
theorem DrawAt.put {w' : World} {v : Value} {k : Nat} {p q : FileP} {n : Int} (h : DrawAt W G E room A w) (hn : idxF A n = (k : Int)) (hp : A[k]? = some p) (hq : q.n = n) (hr : RightD room (setF A q))
    (hE : w'.heap[E]? = some (.cells #[.int .i64 room, v] 84 (0, 0))) (hrow : Row w' 101 3 v A.length (plsV (A.set k q))) (ho : ∀ k, own v k → G k) (ht : Heap.Touch G w w') :
    DrawAt W G E room (setF A q) w' := by
  obtain ⟨p', h1, h2, h3, h4, _⟩ := index_pos hn
  obtain rfl : p' = p := by rw [hp] at h1; simpa using h1.symm
  subst hq
  have hset : setF A q = A.set k q := setF_set hp h2 h4
  refine ⟨hr, h.below.trans (ht.below h.below.size h.newG), h.newG, h.gE, v, hE, ?_, ho⟩
  rw [hset, List.length_set]; exact hrow

set_option maxHeartbeats 1000000 in
set_option maxRecDepth 100000 in
theorem sync_drw (h : DrawAt W G E room A w) (n : Int) : Calls Tryz.prog 50 #[.pointer (some ⟨E, 0, none⟩), .int .i64 n] w fun e w' => e = .returned (.int .i64 ((syncD A n).2 : Nat)) ∧ DrawAt W G E room (syncD A n).1 w' ∧ Heap.Touch G w w' := by
  have HA := Lib.hid (at_any h n)
  have HH := Lib.hid h
  have hfew := h.right.few
  rcases idxF_cases A n with ⟨e1, e2⟩ | ⟨k, p, e1, e2, e3, e4, e5⟩
  · have hr : syncD A n = (A, 4) := by unfold syncD; rw [e2]
    rw [hr]
    rw [e1] at HA
    clear h e1 e2 hr
    go_enter Tryz.func50, Tryz.ntmps50
    go_wp2_with fail
    refine HA.out.mono ?_
    rintro e w' ⟨rfl, hb⟩
    have HB := Lib.hid hb
    clear hb
    go_wp2_with fail
    go_ret
    exact ⟨rfl, HH.out.next HB.out, Heap.Touch.ofBelow HB.out⟩
  · have hr : syncD A n = (setF A ⟨n, p.text, p.text.length⟩, 0) := by unfold syncD; rw [e4]
    rw [hr]
    have hkA := (List.getElem?_eq_some_iff.1 e2).1
    have htot := total_setF (q := ⟨n, p.text, p.text.length⟩) h.right.sorted e4
    have hrt : RightD room (setF A ⟨n, p.text, p.text.length⟩) := h.right.set e4 _ rfl (Nat.le_refl _) (by have := h.right.fits; simp only; omega)
    have HP := Lib.hid e2; have HRT := Lib.hid hrt; have HE1 := Lib.hid e1; have HPN := Lib.hid e3
    rw [e1] at HA
    clear h e1 e2 e3 e4 e5 hr htot hrt
    go_enter Tryz.func50, Tryz.ntmps50
    go_wp2_with fail
    refine HA.out.mono ?_
    rintro e w' ⟨rfl, hb⟩
    have HD := Lib.hid (HH.out.next hb)
    obtain ⟨v, h1, h2, h3⟩ := HD.out.mem
    obtain ⟨c0, c1, cf⟩ := twoC h1
    have hrow := h2.2
    rcases hrow with ⟨hv, h0⟩ | ⟨g, off, cap, cur, hv, _⟩
    · omega
    subst hv
    obtain ⟨d0, d1, d2⟩ := cells_pull h2 k p HP.out hkA
    obtain ⟨f0, f1, f2⟩ := frozen_pull h2 k hkA
    obtain ⟨T, hT, hTs, hTl⟩ := text_of p.text
    rw [← hT] at d2
    have hgG : G g := h3 g (by simp [own, Value.ownBlock])
    have hneE : E ≠ g := fun e => ne_row h1 h2 (by rw [e]; simp [own, Value.ownBlock])
    have hend : DrawAt W G E room (setF A ⟨n, p.text, p.text.length⟩) (w'.drew.setCell ⟨g, off + k * 3 + 1, none⟩ (.int .i64 (T.size : Nat))) ∧ Heap.Touch G w (w'.drew.setCell ⟨g, off + k * 3 + 1, none⟩ (.int .i64 (T.size : Nat))) := by
      have ht : Heap.Touch G w' (w'.drew.setCell ⟨g, off + k * 3 + 1, none⟩ (.int .i64 (T.size : Nat))) := (Heap.Touch.refl _ w').drew.setCell (.inl hgG) _
      have hset := Row.set (w := w'.drew) (h2.kept (w' := w'.drew) fun _ _ _ => rfl) (k * 3 + 1) (by omega) (.int .i64 (T.size : Nat))
      rw [plsV_set (q := ⟨n, p.text, p.text.length⟩) HP.out (by omega) (by simp [cells, HPN.out, hTs])] at hset
      rw [← Nat.add_assoc] at hset
      refine ⟨HD.out.put HE1.out HP.out rfl HRT.out ?_ hset h3 ht, (Heap.Touch.ofBelow hb).after ht⟩
      rw [heap_setCell_other _ _ _ _ hneE]; exact h1
    have HEND := Lib.hid hend
    clear hb h1 h2 h3 HA hT hTs hTl hend hgG
    go_wp2_with fail
    go_region
    go_wp2
    go_ret
    exact ⟨rfl, HEND.out⟩
end
end Go.Proofs.YtbgchhgdlceceaaGreatDoor.Drw

namespace Go.Proofs.YtbgchhgdlceceaaGreatDoor.Drw
open Go.RowKit Heap Dsk

theorem in_yes (n lo hi : Int) (w : World) (h : lo ≤ n ∧ n ≤ hi) : Calls Tryz.prog 43 #[.int .i64 n, .int .i64 lo, .int .i64 hi] w fun e w' => e = .returned (.bool true) ∧ w = w' := by
  obtain ⟨h1, h2⟩ := h
  go_enter Tryz.func43, Tryz.ntmps43
  go_wp2
  go_ret
  exact ⟨rfl, rfl⟩

theorem in_no (n lo hi : Int) (w : World) (h : ¬ (lo ≤ n ∧ n ≤ hi)) : Calls Tryz.prog 43 #[.int .i64 n, .int .i64 lo, .int .i64 hi] w fun e w' => e = .returned (.bool false) ∧ w = w' := by
  by_cases h1 : lo ≤ n
  · have h2 : hi < n := by omega
    clear h
    go_enter Tryz.func43, Tryz.ntmps43
    go_wp2
    go_ret
    exact ⟨ret_bool (decide_eq_false (by omega)), rfl⟩
  · have h1' : n < lo := by omega
    clear h h1
    go_enter Tryz.func43, Tryz.ntmps43
    go_wp2
    go_ret
    exact ⟨rfl, rfl⟩

section
variable {W w : World} {G : Nat → Prop} {E : Nat} {room : Int} {A : List FileP}

set_option maxHeartbeats 1000000 in
set_option maxRecDepth 100000 in
theorem cut_drw (h : DrawAt W G E room A w) (n size : Int) : Calls Tryz.prog 103 #[.pointer (some ⟨E, 0, none⟩), .int .i64 n, .int .i64 size] w fun e w' => e = .returned (.int .i64 ((cutD A n size).2 : Nat)) ∧ DrawAt W G E room (cutD A n size).1 w' ∧ Heap.Touch G w w' := by
  have HA := Lib.hid (at_any h n)
  have HH := Lib.hid h
  have hfew := h.right.few
  rcases idxF_cases A n with ⟨e1, e2⟩ | ⟨k, p, e1, e2, e3, e4, e5⟩
  · have hr : cutD A n size = (A, 4) := by unfold cutD; rw [e2]
    rw [hr]
    rw [e1] at HA
    clear h e1 e2 hr
    go_enter Tryz.func103, Tryz.ntmps103
    go_wp2_with fail
    refine HA.out.mono ?_
    rintro e w' ⟨rfl, hb⟩
    have HB := Lib.hid hb
    clear hb
    go_wp2_with fail
    go_ret
    exact ⟨rfl, HH.out.next HB.out, Heap.Touch.ofBelow HB.out⟩
  · have hkA := (List.getElem?_eq_some_iff.1 e2).1
    have hple := h.right.len (getF_n e4).2
    obtain ⟨T, hT, hTs, hTl⟩ := text_of p.text
    by_cases hbad : size < 0 ∨ (p.text.length : Int) < size
    · have hr : cutD A n size = (A, 1) := by unfold cutD; rw [e4]; simp only; rw [if_pos hbad]
      rw [hr]
      have HP := Lib.hid e2
      have HT := Lib.hid hT
      rw [e1] at HA
      have HIN := Lib.hid (fun w => in_no size 0 T.size w (by omega))
      clear h e1 e2 e3 e4 e5 hr hT hTs hTl hbad
      go_enter Tryz.func103, Tryz.ntmps103
      go_wp2_with fail
      refine HA.out.mono ?_
      rintro e w' ⟨rfl, hb⟩
      have HD := Lib.hid (HH.out.next hb)
      have HB := Lib.hid hb
      obtain ⟨v, h1, h2, h3⟩ := HD.out.mem
      obtain ⟨c0, c1, cf⟩ := twoC h1
      have hrow := h2.2
      rcases hrow with ⟨hv, h0⟩ | ⟨g, off, cap, cur, hv, _⟩
      · omega
      subst hv
      obtain ⟨d0, d1, d2⟩ := cells_pull h2 k p HP.out hkA
      rw [← HT.out] at d2
      clear hb h1 h2 h3 HA
      go_wp2_with fail
      refine (HIN.out _).mono ?_
      rintro e w2 ⟨rfl, rfl⟩
      clear HIN
      go_wp2_with fail
      go_ret
      exact ⟨rfl, HD.out, Heap.Touch.ofBelow HB.out⟩
    · obtain ⟨s, rfl⟩ : ∃ s : Nat, size = (s : Int) := ⟨size.toNat, by omega⟩
      have hr : cutD A n s = (setF A ⟨n, p.text.take s, s⟩, 0) := by unfold cutD; rw [e4]; simp only; rw [if_neg hbad]; rfl
      rw [hr]
      have hsl : s ≤ T.size := by omega
      have htk : (p.text.take s).length = s := by rw [List.length_take]; omega
      have htot := total_setF (q := ⟨n, p.text.take s, s⟩) h.right.sorted e4
      have hrt : RightD room (setF A ⟨n, p.text.take s, s⟩) := h.right.set e4 _ rfl (by simp only [htk]; omega) (by have := h.right.fits; have := h.right.sure p (getF_n e4).2; simp only [htk]; omega)
      have HP := Lib.hid e2; have HRT := Lib.hid hrt; have HE1 := Lib.hid e1; have HPN := Lib.hid e3
      have HT := Lib.hid hT; have HTL := Lib.hid hTl
      have HIN := Lib.hid (fun w => in_yes s 0 T.size w (by omega))
      rw [e1] at HA
      clear h e1 e2 e3 e4 e5 hr htot hrt hT hTs hTl hbad htk hple
      go_enter Tryz.func103, Tryz.ntmps103
      go_wp2_with fail
      refine HA.out.mono ?_
      rintro e w' ⟨rfl, hb⟩
      have HD := Lib.hid (HH.out.next hb)
      obtain ⟨v, h1, h2, h3⟩ := HD.out.mem
      obtain ⟨c0, c1, cf⟩ := twoC h1
      have hrow := h2.2
      rcases hrow with ⟨hv, h0⟩ | ⟨g, off, cap, cur, hv, _⟩
      · omega
      subst hv
      obtain ⟨d0, d1, d2⟩ := cells_pull h2 k p HP.out hkA
      obtain ⟨f0, f1, f2⟩ := frozen_pull h2 k hkA
      rw [← HT.out] at d2
      have hgG : G g := h3 g (by simp [own, Value.ownBlock])
      have hneE : E ≠ g := fun e => ne_row h1 h2 (by rw [e]; simp [own, Value.ownBlock])
      have hend : DrawAt W G E room (setF A ⟨n, p.text.take s, s⟩) ((w'.drew.setCell ⟨g, off + k * 3 + 2, none⟩ (.string (T.extract 0 s))).setCell ⟨g, off + k * 3 + 1, none⟩ (.int .i64 (s : Nat))) ∧ Heap.Touch G w ((w'.drew.setCell ⟨g, off + k * 3 + 2, none⟩ (.string (T.extract 0 s))).setCell ⟨g, off + k * 3 + 1, none⟩ (.int .i64 (s : Nat))) := by
        have ht : Heap.Touch G w' ((w'.drew.setCell ⟨g, off + k * 3 + 2, none⟩ (.string (T.extract 0 s))).setCell ⟨g, off + k * 3 + 1, none⟩ (.int .i64 (s : Nat))) := ((Heap.Touch.refl _ w').drew.setCell (.inl hgG) _).setCell (.inl hgG) _
        have hset := Row.set (w := w'.drew) (h2.kept (w' := w'.drew) fun _ _ _ => rfl) (k * 3 + 2) (by omega) (.string (T.extract 0 s))
        rw [plsV_set (q := ⟨p.n, p.text.take s, p.sure⟩) HP.out (by omega) (by simp [cells, take_text HTL.out]), ← Nat.add_assoc] at hset
        have hset2 := Row.set hset (k * 3 + 1) (by omega) (.int .i64 (s : Nat))
        rw [plsV_set (k := k) (p := ⟨p.n, p.text.take s, p.sure⟩) (q := ⟨n, p.text.take s, s⟩) (by rw [List.getElem?_set_self hkA]) (by omega) (by simp [cells, HPN.out]), List.set_set, ← Nat.add_assoc] at hset2
        refine ⟨HD.out.put HE1.out HP.out rfl HRT.out ?_ hset2 h3 ht, (Heap.Touch.ofBelow hb).after ht⟩
        rw [heap_setCell_other _ _ _ _ hneE, heap_setCell_other _ _ _ _ hneE]; exact h1
      have HEND := Lib.hid hend
      clear hb h1 h2 h3 HA hend hgG
      go_wp2_with fail
      refine (HIN.out _).mono ?_
      rintro e w2 ⟨rfl, rfl⟩
      clear HIN
      go_wp2_with fail
      go_region
      go_wp2
      go_ret
      exact ⟨rfl, HEND.out⟩
end
end Go.Proofs.YtbgchhgdlceceaaGreatDoor.Drw

namespace Go.Proofs.YtbgchhgdlceceaaGreatDoor.Drw
open Go.RowKit Heap Dsk

theorem delF_at : ∀ {A : List FileP} {k : Nat} {p : FileP} {n : Int}, A[k]? = some p → p.n = n → (∀ y ∈ A.take k, y.n ≠ n) → delF A n = A.take k ++ A.drop (k + 1)
  | [], k, p, n, h, _, _ => by simp at h
  | a :: r, 0, p, n, h, e, _ => by
    simp only [List.getElem?_cons_zero, Option.some.injEq] at h; subst h
    unfold delF; rw [if_pos e]; rfl
  | a :: r, k + 1, p, n, h, e, hn => by
    unfold delF
    rw [if_neg (hn a (by simp)), delF_at (k := k) (by simpa using h) e (fun y hy => hn y (by rw [List.take_succ_cons]; exact List.mem_cons_of_mem _ hy))]
    rfl

theorem plsV_take (A : List FileP) (k : Nat) : (plsV A).take (k * 3) = plsV (A.take k) := by
  induction A generalizing k with
  | nil => simp [plsV]
  | cons a r ih =>
    cases k with
    | zero => simp [plsV]
    | succ k =>
      have hl : (cells a).length = 3 := rfl
      rw [plsV_cons, List.take_append, hl, show (k + 1) * 3 - 3 = k * 3 by omega, ih, List.take_of_length_le (by rw [hl]; omega)]
      rfl

theorem plsV_drop (A : List FileP) (k : Nat) : (plsV A).drop (k * 3) = plsV (A.drop k) := by
  induction A generalizing k with
  | nil => simp [plsV]
  | cons a r ih =>
    cases k with
    | zero => simp
    | succ k =>
      have hl : (cells a).length = 3 := rfl
      rw [plsV_cons, List.drop_append, hl, show (k + 1) * 3 - 3 = k * 3 by omega, ih, List.drop_of_length_le (by rw [hl]; omega)]
      rfl

theorem plsV_one (A : List FileP) : ∀ u ∈ plsV A, u.oneCell' = true := by
  induction A with
  | nil => intro u hu; cases hu
  | cons a r ih =>
    intro u hu
    rw [plsV_cons, List.mem_append] at hu
    rcases hu with hu | hu
    · simp only [cells, List.mem_cons, List.not_mem_nil, or_false] at hu
      rcases hu with rfl | rfl | rfl <;> rfl
    · exact ih u hu

theorem info_paper : (Tryz.prog.info? 101).map (fun i => (i.zero, i.size, i.bytes)) = some (some (.agg #[.int .i64 0, .int .i64 0, .string ⟨#[]⟩]), 3, 32) := by kernel_rfl

section
variable {W w : World} {G : Nat → Prop} {E : Nat} {room : Int} {A : List FileP}

set_option maxHeartbeats 2000000 in
set_option maxRecDepth 100000 in
theorem remove_drw (h : DrawAt W G E room A w) (n : Int) : Calls Tryz.prog 106 #[.pointer (some ⟨E, 0, none⟩), .int .i64 n] w fun e w' => e = .returned (.int .i64 ((removeD A n).2 : Nat)) ∧ DrawAt W (Dsk.Grow G w) E room (removeD A n).1 w' ∧ Heap.Touch G w w' := by
  have HA := Lib.hid (at_any h n)
  have HH := Lib.hid h
  have hfew := h.right.few
  have HGN := Lib.hid (show ∀ k, Dsk.Grow G w k → W.heap.size ≤ k from fun k hk => by
    rcases hk with hk | hk
    · exact h.newG k hk
    · exact Nat.le_trans h.below.size hk)
  rcases idxF_cases A n with ⟨e1, e2⟩ | ⟨k, p, e1, e2, e3, e4, e5⟩
  · have hr : removeD A n = (A, 4) := by unfold removeD; rw [e2]
    rw [hr]
    rw [e1] at HA
    clear h e1 e2 hr
    go_enter Tryz.func106, Tryz.ntmps106
    go_wp2_with fail
    refine HA.out.mono ?_
    rintro e w' ⟨rfl, hb⟩
    have HB := Lib.hid hb
    clear hb
    go_wp2_with fail
    go_ret
    exact ⟨rfl, (HH.out.next HB.out).mono (fun k hk => .inl hk) HGN.out, Heap.Touch.ofBelow HB.out⟩
  · have hr : removeD A n = (delF A n, 0) := by unfold removeD; rw [e4]
    rw [hr]
    have hkA := (List.getElem?_eq_some_iff.1 e2).1
    have hdel := delF_at e2 e3 e5
    have HRT := Lib.hid (h.right.del e4); have HDEL := Lib.hid hdel
    rw [e1] at HA
    obtain ⟨L, hL⟩ : ∃ L, A.length = L := ⟨_, rfl⟩
    have HL := Lib.hid hL
    rw [hL] at hkA hfew
    clear h e1 e2 e3 e4 e5 hr hdel hL
    obtain ⟨i0, hi, hz0, hz1, hz2⟩ := info_parts info_paper
    go_enter Tryz.func106, Tryz.ntmps106
    go_wp2_with fail
    refine HA.out.mono ?_
    rintro e w' ⟨rfl, hb⟩
    have HD := Lib.hid (HH.out.next hb)
    have HB := Lib.hid hb
    obtain ⟨v, h1, h2, h3⟩ := HD.out.mem
    rw [HL.out] at h2
    obtain ⟨c0, c1, cf⟩ := twoC h1
    have hrow := h2.2
    rcases hrow with ⟨hv, h0⟩ | ⟨g, off, cap, cur, hv, _⟩
    · omega
    subst hv
    obtain ⟨hncap, hcapm⟩ := h2.cap_le
    have HROW := Lib.hid h2; have HE := Lib.hid h1; have H3 := Lib.hid h3
    have hnews1 : ∀ j u, (plsV (A.take k))[j]? = some u → w'.drew.cell? ((⟨g, off, none⟩ : Addr).add j) = some u := fun j u hj => by
      rw [← plsV_take, List.getElem?_take] at hj
      split at hj
      · rw [Addr.add_lit]
        exact (h2.cell j (by omega)).1.trans hj
      · cases hj
    have hlen1 : (plsV (A.take k)).length = k * 3 := by rw [plsV_len, List.length_take, HL.out]; omega
    have hlen2 : (plsV (A.drop (k + 1))).length = (L - (k + 1)) * 3 := by rw [plsV_len, List.length_drop, HL.out]
    have HN1 := Lib.hid hnews1
    have hkc : k ≤ cap := by omega
    have hkc2 : k + 1 ≤ cap := by omega
    have hkL : k ≤ L := by omega
    have hkL2 : k + 1 ≤ L := by omega
    have hb1 : (0 : Int) ≤ (k : Int) + 1 := by omega
    have hb3 : (k : Int) + 1 ≤ (L : Int) := by omega
    have htn : ((k : Int) + 1).toNat = k + 1 := by omega
    have wz : IntKind.i64.wrap ((k : Int) + 1) = (k : Int) + 1 := IntWalk.i64_in _ (by omega)
    have hneE : E ≠ g := fun e => ne_row h1 h2 (by rw [e]; simp [own, Value.ownBlock])
    have HE2 := Lib.hid (fun w2 (t2 : Heap.Touch (own (.slice none 0 0)) w'.drew w2) => (⟨(t2.block E (heap_lt (w := w'.drew) h1) (by simp [own, Value.ownBlock])).trans h1, fun j u hj => by
        rw [← plsV_drop, List.getElem?_drop] at hj
        rw [Addr.add_lit]
        have hjl : j < (L - (k + 1)) * 3 := by
          have := (List.getElem?_eq_some_iff.1 hj).1
          rw [plsV_len, HL.out] at this; omega
        have h9 := (h2.cell ((k + 1) * 3 + j) (by omega)).1
        rw [hj, ← Nat.add_assoc] at h9
        exact (t2.cell (p := ⟨g, off + (k + 1) * 3 + j, none⟩) (World.block_lt_of_cell? w'.drew _ h9) (by simp [own, Value.ownBlock])).trans h9⟩ :
        w2.heap[E]? = some (.cells #[.int .i64 room, .slice (some ⟨g, off, none⟩) L cap] 84 (0, 0)) ∧ ∀ j u, (plsV (A.drop (k + 1)))[j]? = some u → w2.cell? ((⟨g, off + (k + 1) * 3, none⟩ : Addr).add j) = some u))
    have HFIN := Lib.hid (fun w2 w3 a2 n2 v3 (t2 : Heap.Touch (own (.slice none 0 0)) w'.drew w2) (o2 : ∀ j, own (.slice a2 k n2) j → own (.slice none 0 0) j ∨ w'.drew.heap.size ≤ j) (r3 : Row w3 101 3 v3 (k + (L - (k + 1))) (plsV (A.take k) ++ plsV (A.drop (k + 1)))) (t3 : Heap.Touch (own (.slice a2 k n2)) w2 w3) (o3 : ∀ j, own v3 j → own (.slice a2 k n2) j ∨ w2.heap.size ≤ j) => (by
      have hnew2 : ∀ j, own (.slice a2 k n2) j → w'.heap.size ≤ j := fun j hj => by
        rcases o2 j hj with h | h
        · simp [own, Value.ownBlock] at h
        · exact h
      have hnew3 : ∀ j, own v3 j → w'.heap.size ≤ j := fun j hj => by
        rcases o3 j hj with h | h
        · exact hnew2 j h
        · exact Nat.le_trans t2.size h
      have tw : Heap.Touch (fun _ => False) w' w3 := ((Heap.Touch.refl _ w').drew.after (t2.mono fun j _ hj => by simp [own, Value.ownBlock] at hj)).trans t3 (fun j hj hj2 => by have := hnew2 j hj2; omega)
      have hE3 : w3.heap[E]? = some (.cells #[.int .i64 room, .slice (some ⟨g, off, none⟩) L cap] 84 (0, 0)) := (tw.block E (heap_lt h1) (fun h => h)).trans h1
      have hE4 := heap_setCell_same w3 E 1 _ _ v3 hE3
      have tf : Heap.Touch G w' (w3.setCell ⟨E, 1, none⟩ v3) := (tw.mono fun _ _ h => h.elim).setCell (.inl HD.out.gE) _
      have hlen : k + (L - (k + 1)) = (A.take k ++ A.drop (k + 1)).length := by rw [List.length_append, List.length_take, List.length_drop, HL.out]; omega
      refine ⟨⟨hE3, ⟨HRT.out, (HD.out.below).trans (tf.below HD.out.below.size HD.out.newG), HGN.out, .inl HD.out.gE, v3, hE4, ?_, fun j hj => .inr (Nat.le_trans hb.size (hnew3 j hj))⟩⟩, (Heap.Touch.ofBelow hb).after tf⟩
      rw [HDEL.out]
      rw [hlen, ← plsV_append] at r3
      refine r3.kept fun j hj _ => heap_setCell_other _ _ _ _ (fun e => ?_)
      have h5 := hnew3 j hj
      have h6 := heap_lt h1
      have e' : j = E := e
      omega : (w3.heap[E]? = some (.cells #[.int .i64 room, .slice (some ⟨g, off, none⟩) L cap] 84 (0, 0)) ∧ DrawAt W (Dsk.Grow G w) E room (delF A n) (w3.setCell ⟨E, 1, none⟩ v3)) ∧ Heap.Touch G w (w3.setCell ⟨E, 1, none⟩ v3)))
    clear hb h1 h2 h3 HA hnews1
    by_cases hcp : cap = k + 1
    · obtain rfl : L = k + 1 := by omega
      subst hcp
      have hz : k + 1 - (k + 1) = 0 := by omega
      rw [hz] at HFIN hlen2
      have hq1 : (k : Int) ≤ (k : Int) + 1 := by omega
      have hnil : plsV (A.drop (k + 1)) = [] := List.eq_nil_of_length_eq_zero (by rw [hlen2])
      go_upto_region 4 with fail
      go_region_law (first
        | (refine Heap.step_append_row _ rfl (.const (.slice none 0 0)) (.tmp 17) 82 rfl 101 i0 _ 3 32 Tryz.underlying82 hi hz0 hz1 hz2 rfl (by decide) (.slice none 0 0) 0 [] (by simp [Act.eval, Act.put]) (Row.nil _ _ _) ⟨g, off, none⟩ k (k + 1) (plsV (A.take k)) (by simp [Act.eval, Act.put]) hlen1 HN1.out (plsV_one _) (by unfold maxLen; omega) (by omega) ?_
           intro v2 w2 r2 t2 o2
           rw [Nat.zero_add, List.nil_append] at r2
           obtain ⟨a2, n2, rfl⟩ := r2.slice
           have hx := HE2.out w2 t2
           obtain ⟨b0, b1, bf⟩ := twoC hx.1
           have HX := Lib.hid hx.2
           have R2 := Lib.hid r2; have T2 := Lib.hid t2; have O2 := Lib.hid o2
           clear hx r2 t2 o2)
        | (refine Heap.step_append_row _ rfl (.tmp 18) (.tmp 25) 82 rfl 101 i0 _ 3 32 Tryz.underlying82 hi hz0 hz1 hz2 rfl (by decide) (.slice a2 k n2) k (plsV (A.take k)) (by simp [Act.eval, Act.put]) R2.out ⟨g, off, none⟩ 0 0 (plsV (A.drop (k + 1))) (by simp [Act.eval, Act.put]) hlen2 (fun j u hj => by rw [hnil] at hj; simp at hj) (plsV_one _) (by unfold maxLen; omega) (by omega) ?_
           intro v3 w3 r3 t3 o3
           have hx := HFIN.out w2 w3 a2 n2 v3 T2.out O2.out r3 t3 o3
           obtain ⟨x0, x1, xf⟩ := twoC hx.1.1
           obtain ⟨a3, n3, rfl⟩ := r3.slice
           have HF := Lib.hid (⟨hx.1.2, hx.2⟩ : DrawAt W (Dsk.Grow G w) E room (delF A n) (w3.setCell ⟨E, 1, none⟩ (.slice a3 (k + 0) n3)) ∧ Heap.Touch G w (w3.setCell ⟨E, 1, none⟩ (.slice a3 (k + 0) n3)))
           clear hx r3 t3 o3))
      all_goals
        go_wp2
        go_ret
        exact ⟨rfl, HF.out⟩
    · go_upto_region 4 with fail
      go_region_law (first
        | (refine Heap.step_append_row _ rfl (.const (.slice none 0 0)) (.tmp 17) 82 rfl 101 i0 _ 3 32 Tryz.underlying82 hi hz0 hz1 hz2 rfl (by decide) (.slice none 0 0) 0 [] (by simp [Act.eval, Act.put]) (Row.nil _ _ _) ⟨g, off, none⟩ k cap (plsV (A.take k)) (by simp [Act.eval, Act.put]) hlen1 HN1.out (plsV_one _) (by unfold maxLen; omega) (by omega) ?_
           intro v2 w2 r2 t2 o2
           rw [Nat.zero_add, List.nil_append] at r2
           obtain ⟨a2, n2, rfl⟩ := r2.slice
           have hx := HE2.out w2 t2
           obtain ⟨b0, b1, bf⟩ := twoC hx.1
           have HX := Lib.hid hx.2
           have R2 := Lib.hid r2; have T2 := Lib.hid t2; have O2 := Lib.hid o2
           clear hx r2 t2 o2)
        | (refine Heap.step_append_row _ rfl (.tmp 18) (.tmp 25) 82 rfl 101 i0 _ 3 32 Tryz.underlying82 hi hz0 hz1 hz2 rfl (by decide) (.slice a2 k n2) k (plsV (A.take k)) (by simp [Act.eval, Act.put]) R2.out ⟨g, off + (k + 1) * 3, none⟩ (L - (k + 1)) (cap - (k + 1)) (plsV (A.drop (k + 1))) (by simp [Act.eval, Act.put]) hlen2 HX.out (plsV_one _) (by unfold maxLen; omega) (by omega) ?_
           intro v3 w3 r3 t3 o3
           have hx := HFIN.out w2 w3 a2 n2 v3 T2.out O2.out r3 t3 o3
           obtain ⟨x0, x1, xf⟩ := twoC hx.1.1
           obtain ⟨a3, n3, rfl⟩ := r3.slice
           have HF := Lib.hid (⟨hx.1.2, hx.2⟩ : DrawAt W (Dsk.Grow G w) E room (delF A n) (w3.setCell ⟨E, 1, none⟩ (.slice a3 (k + (L - (k + 1))) n3)) ∧ Heap.Touch G w (w3.setCell ⟨E, 1, none⟩ (.slice a3 (k + (L - (k + 1))) n3)))
           clear hx r3 t3 o3))
      all_goals
        go_wp2
        go_ret
        exact ⟨rfl, HF.out⟩
end
end Go.Proofs.YtbgchhgdlceceaaGreatDoor.Drw

namespace Go.Proofs.YtbgchhgdlceceaaGreatDoor.Drw
open Go.RowKit Heap Dsk

def LN (w : World) (l : List Int) (v : Value) (wr : World) : Prop := Below w.heap.size w wr ∧ Row wr 3 1 v l.length (numsV l) ∧ ∀ k, own v k → w.heap.size ≤ k

theorem LN.step {w wr : World} {l : List Int} {v : Value} (h : LN w l v wr) (x : Int) :
    Row (wr.alloc (.cells #[.int .i64 x] 3)) 3 1 v l.length (numsV l) ∧
      ∀ v2 w3, Row w3 3 1 v2 (l.length + 1) (numsV l ++ [.int .i64 x]) → Heap.Touch (own v) (wr.alloc (.cells #[.int .i64 x] 3)) w3 → (∀ k, own v2 k → own v k ∨ wr.heap.size + 1 ≤ k) → LN w (l ++ [x]) v2 w3 := by
  obtain ⟨hb, hr, ho⟩ := h
  have hba : Below wr.heap.size wr (wr.alloc (.cells #[.int .i64 x] 3)) := (Below.refl _ _).alloc (Nat.le_refl _) _
  refine ⟨hr.kept fun k _ hk => hba.block k hk, fun v2 w3 r3 t3 o3 => ⟨?_, ?_, ?_⟩⟩
  · have h1 := hb.trans (hba.mono hb.size)
    exact h1.trans (t3.below h1.size fun k hk => ho k hk)
  · have e1 : (l ++ [x]).length = l.length + 1 := by simp
    have e2 : numsV (l ++ [x]) = numsV l ++ [.int .i64 x] := by simp [numsV]
    rw [e1, e2]; exact r3
  · intro k hk
    rcases o3 k hk with hk | hk
    · exact ho k hk
    · have := hb.size; omega

section
variable {W w : World} {G : Nat → Prop} {E : Nat} {room : Int} {A : List FileP}

set_option maxHeartbeats 2000000 in
set_option maxRecDepth 100000 in
theorem list_drw (h : DrawAt W G E room A w) : Calls Tryz.prog 58 #[.pointer (some ⟨E, 0, none⟩)] w fun e w' => ∃ v, e = .returned v ∧ LN w (A.map (·.n)) v w' := by
  have HH := Lib.hid h
  have hfew := h.right.few
  obtain ⟨L, hL⟩ : ∃ L, A.length = L := ⟨_, rfl⟩
  rw [hL] at hfew
  have HL := Lib.hid hL
  clear h hL
  obtain ⟨i0, hi, hz0, hz1, hz2⟩ := info_parts info_intD
  go_enter Tryz.func58, Tryz.ntmps58
  go_wp2_with fail
  go_loopw [3, 4] (fun s i wr => ∃ k : Nat, k ≤ L ∧ i = .int .i64 k ∧ Hid (LN w ((A.take k).map (·.n)) s wr)) (fun _ i _ => L - (intOf i).toNat)
  case atStart => exact ⟨0, Nat.zero_le _, rfl, Lib.hid ⟨Below.refl _ _, Row.nil _ _ _, fun k hk => by simp [own, Value.ownBlock] at hk⟩⟩
  case round =>
    obtain ⟨k, hk, rfl, HR⟩ := hrel
    obtain ⟨v, h1, h2, h3⟩ := (HH.out.next HR.out.1).mem
    rw [HL.out] at h2
    obtain ⟨c0, c1, cf⟩ := twoC h1
    obtain ⟨a, c, hv⟩ := h2.slice
    subst hv
    by_cases hlt : k < L
    · have hltz : (k : Int) < L := by omega
      have hkA : k < A.length := by rw [HL.out]; exact hlt
      have hp := List.getElem?_eq_getElem hkA
      have hst : (A.take (k + 1)).map (·.n) = (A.take k).map (·.n) ++ [A[k].n] := by
        rw [List.take_add_one, hp]
        show ((A.take k) ++ [A[k]]).map _ = _
        rw [List.map_append]; rfl
      have hll : ((A.take k).map (·.n)).length = k := by rw [List.length_map, List.length_take]; omega
      generalize A[k] = p at hp hst
      have hrow := h2.2
      rcases hrow with ⟨hv, h0⟩ | ⟨g, off, cap, cur, hv, _⟩
      · omega
      simp only [Value.slice.injEq, true_and] at hv
      obtain ⟨rfl, rfl⟩ := hv
      obtain ⟨d0, d1, d2⟩ := cells_pull h2 k p hp hlt
      have HST := Lib.hid hst; have HLL := Lib.hid hll
      have HG := Lib.hid (LN.step HR.out p.n)
      obtain ⟨a3, c3, hs3⟩ := HR.out.2.1.slice
      subst hs3
      clear hp hst hll h1 h2 h3 HR d1 d2
      generalize (A.take k).map (·.n) = l at *
      have hk20 : l.length ≤ 20 := by rw [HLL.out]; omega
      go_wp2_with (at_builtin; refine Heap.wpList_append_row _ rfl (.tmp 14) (.tmp 23) 22 rfl 3 i0 _ 1 8 Tryz.underlying22 hi hz0 hz1 hz2 rfl (by decide) _ l.length _ rfl HG.out.1 ⟨wr.heap.size, 0, none⟩ 1 1 [.int .i64 p.n] rfl rfl (news_intD wr p.n _) (by simp [Value.oneCell']) (by unfold maxLen; omega) (by omega) ?_)
      intro v2 w3 r3 t3 o3
      have HF := Lib.hid (HG.out.2 v2 w3 r3 t3 o3)
      clear r3 t3 o3
      go_wp2_with fail
      exact ⟨⟨k + 1, by omega, by go_num, by rw [HST.out]; exact HF⟩, by simp [intOf]; omega⟩
    · have hltz : ¬ (k : Int) < L := by omega
      obtain rfl : k = L := by omega
      have HF := Lib.hid HR.out
      rw [List.take_of_length_le (by rw [HL.out]; exact Nat.le_refl _)] at HF
      clear h1 h2 h3 HR
      go_wp2_with fail
      go_ret
      exact ⟨_, rfl, HF.out⟩
end
end Go.Proofs.YtbgchhgdlceceaaGreatDoor.Drw
