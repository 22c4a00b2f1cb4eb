/- The reference's disk: Append. -/
import Derived.Test.YtglgbidcmkncgaaDrawIns3
import Derived.BigQuiet
namespace Go.Proofs.Ytglgbidcmkncgaa.Drw
open Go.RowKit Heap Dsk

theorem below_drewN (w : World) (m : Nat) : Below w.heap.size w (w.drewN m) := ⟨rfl, rfl, rfl, Nat.le_refl _, fun _ _ => rfl⟩

/-- Where a new number goes. -/
def slotF : List FileP → Int → Nat
  | [], _ => 0
  | p :: r, n => if p.n < n then slotF r n + 1 else 0

theorem slotF_le : ∀ (A : List FileP) (n : Int), slotF A n ≤ A.length
  | [], _ => Nat.le_refl _
  | p :: r, n => by
    unfold slotF
    split
    · have := slotF_le r n; simp only [List.length_cons]; omega
    · exact Nat.zero_le _

theorem slotF_at : ∀ {A : List FileP} {n : Int} {k : Nat}, k < slotF A n → ∃ p, A[k]? = some p ∧ p.n < n
  | [], n, k, h => by simp [slotF] at h
  | p :: r, n, 0, h => by
    unfold slotF at h
    split at h
    · rename_i e; exact ⟨p, rfl, e⟩
    · omega
  | p :: r, n, k + 1, h => by
    unfold slotF at h
    split at h
    · obtain ⟨q, h1, h2⟩ := slotF_at (A := r) (n := n) (k := k) (by omega)
      exact ⟨q, by simpa using h1, h2⟩
    · omega

theorem slotF_stop : ∀ {A : List FileP} {n : Int} {p : FileP}, A[slotF A n]? = some p → ¬ p.n < n
  | [], n, p, h => by simp [slotF] at h
  | a :: r, n, p, h => by
    unfold slotF at h
    split at h
    · exact slotF_stop (A := r) (by simpa using h)
    · rename_i e
      simp only [List.getElem?_cons_zero, Option.some.injEq] at h
      rw [← h]; exact e

theorem insF_slot : ∀ {A : List FileP} {q : FileP}, (∀ p ∈ A, p.n ≠ q.n) → insF A q = A.take (slotF A q.n) ++ q :: A.drop (slotF A q.n)
  | [], q, _ => rfl
  | a :: r, q, h => by
    have ha := h a (by simp)
    have ih := insF_slot (A := r) (q := q) fun p hp => h p (List.mem_cons_of_mem _ hp)
    unfold insF slotF
    by_cases e : q.n < a.n
    · rw [if_pos e, if_neg (by omega)]; rfl
    · rw [if_neg e, if_pos (by omega), ih]; rfl

section
variable {W w : World} {G : Nat → Prop} {E : Nat} {room : Int} {A : List FileP}

theorem DrawAt.usedN (h : DrawAt W G E room A w) (m : Nat) : Calls Try.prog 43 #[.pointer (some ⟨E, 0, none⟩)] (w.drewN m) fun e w' => e = .returned (.int .i64 (total A : Nat)) ∧ w' = w.drewN m :=
  (used_drw (h.next (below_drewN w m))).mono fun _ _ ⟨a, b⟩ => ⟨a, b.symm⟩

theorem DrawAt.grow (h : DrawAt W G E room A w) : DrawAt W (Dsk.Grow G w) E room A w := h.mono (fun _ hk => .inl hk) fun k hk => by
  rcases hk with hk | hk
  · exact h.newG k hk
  · exact Nat.le_trans h.below.size hk

set_option maxHeartbeats 2000000 in
set_option maxRecDepth 100000 in
theorem append_drw_hit (h : DrawAt W G E room A w) (n : Int) (s : ByteArray) (hs : s.size ≤ 4611686018427387904) (k : Nat) (p : FileP) (e1 : idxF A n = (k : Int)) (e2 : A[k]? = some p) (e3 : p.n = n) (e4 : getF A n = some p) : Calls Try.prog 33 #[.pointer (some ⟨E, 0, none⟩), .int .i64 n, .string s] w fun e w' => e = .returned (.int .i64 ((appD room A n s.data.toList).2 : Nat)) ∧ DrawAt W G E room (appD room A n s.data.toList).1 w' ∧ Heap.Touch G w w' := by
  have HA := Lib.hid (at_any h n)
  have HH := Lib.hid h
  have hnum := h.right.num p (getF_n e4).2
  rw [e3] at hnum
  have HIN := Lib.hid (in_yes n 0 1099511627776 w hnum)
  have hkA := (List.getElem?_eq_some_iff.1 e2).1
  have hfew := h.right.few; have hfit := h.right.fits; have hsm := h.right.small
  have hsl : s.data.toList.length = s.size := rfl
  have hkz : decide ((k : Int) < 0) = false := decide_eq_false (by omega)
  have w0 : IntKind.i64.wrap ((s.size : Int) + (total A : Int)) = (s.size : Int) + (total A : Int) := IntWalk.i64_in _ (by omega)
  obtain ⟨T, hT, hTs, hTl⟩ := text_of p.text
  have hTlen := h.right.len (getF_n e4).2
  rw [← hTs] at hTlen
  have HP := Lib.hid e2; have HE1 := Lib.hid e1; have HPN := Lib.hid e3; have HT := Lib.hid hT; have HTL := Lib.hid hTl
  rw [e1] at HA
  by_cases hfull : room - (total A : Int) < s.size
  · have hr : appD room A n s.data.toList = (A, 8) := by unfold appD; rw [if_neg (by omega), if_pos (by rw [hsl]; exact hfull)]
    rw [hr]
    have hd : decide (room < (s.size : Int) + (total A : Int)) = true := decide_eq_true (by omega)
    clear h e1 e2 e3 e4 hr hT hTs hTl hsl hnum
    go_enter Try.func33, Try.ntmps33
    go_wp2_with fail
    refine HIN.out.mono ?_
    rintro e w' ⟨rfl, rfl⟩
    go_wp2_with fail
    refine HA.out.mono ?_
    rintro e w' ⟨rfl, hb⟩
    have HD := Lib.hid (HH.out.next hb)
    have HB := Lib.hid hb
    obtain ⟨v, h1, h2, h3⟩ := HD.out.mem
    obtain ⟨c0, c1, cf⟩ := twoC h1
    have HU := Lib.hid (HD.out.usedN)
    clear hb h1 h2 h3 HA HIN
    go_upto_region 4 with fail
    go_quiet ((go_at_call 43; exact Calls.quiet_of_same (HU.out _)))
    go_wp2
    go_ret
    exact ⟨rfl, HD.out.next (below_drewN _ _), (Heap.Touch.ofBelow HB.out).drewN _⟩
  · have hr : appD room A n s.data.toList = (setF A ⟨n, p.text ++ s.data.toList, p.sure⟩, 0) := by unfold appD; rw [if_neg (by omega), if_neg (by rw [hsl]; exact hfull), e4]
    rw [hr]
    have hd : decide (room < (s.size : Int) + (total A : Int)) = false := decide_eq_false (by omega)
    have htl : (p.text ++ s.data.toList).length = T.size + s.size := by rw [List.length_append, hsl, hTs]
    have hrt : RightD room (setF A ⟨n, p.text ++ s.data.toList, p.sure⟩) := h.right.set e4 _ rfl (by have := h.right.sure p (getF_n e4).2; simp only [htl]; omega) (by simp only [htl]; omega)
    have hcat : T.size + s.size ≤ 131072 := by omega
    have HRT := Lib.hid hrt
    clear h e1 e2 e3 e4 hr hT hTs hTl hsl hnum htl hrt
    go_enter Try.func33, Try.ntmps33
    go_wp2_with fail
    refine HIN.out.mono ?_
    rintro e w' ⟨rfl, rfl⟩
    go_wp2_with fail
    refine HA.out.mono ?_
    rintro e w' ⟨rfl, hb⟩
    have HD := Lib.hid (HH.out.next hb)
    have HB := Lib.hid hb
    obtain ⟨v, h1, h2, h3⟩ := HD.out.mem
    obtain ⟨c0, c1, cf⟩ := twoC h1
    have HU := Lib.hid (HD.out.usedN)
    have hrow := h2.2
    rcases hrow with ⟨hv, h0⟩ | ⟨g, off, cap, cur, hv, _⟩
    · omega
    subst hv
    obtain ⟨d0, d1, d2⟩ := cells_pull h2 k p HP.out hkA
    obtain ⟨f0, f1, f2⟩ := frozen_pull h2 k hkA
    rw [← HT.out] at d2
    have hgG : G g := h3 g (by simp [own, Value.ownBlock])
    have hneE : E ≠ g := fun e => ne_row h1 h2 (by rw [e]; simp [own, Value.ownBlock])
    have HEND := Lib.hid (fun m => (by
      have ht : Heap.Touch G w' ((w'.drewN m).setCell ⟨g, off + k * 3 + 2, none⟩ (.string (T ++ s))) := ((Heap.Touch.refl _ w').drewN m).setCell (.inl hgG) _
      have hset := Row.set (w := w'.drewN m) (h2.kept (w' := w'.drewN m) fun _ _ _ => rfl) (k * 3 + 2) (by omega) (.string (T ++ s))
      rw [plsV_set (q := ⟨n, p.text ++ s.data.toList, p.sure⟩) HP.out (by omega) (by simp only [cells]; rw [app_text HTL.out rfl, HPN.out]; rfl), ← Nat.add_assoc] at hset
      refine ⟨HD.out.put HE1.out HP.out rfl HRT.out ?_ hset h3 ht, (Heap.Touch.ofBelow hb).after ht⟩
      rw [heap_setCell_other _ _ _ _ hneE]; exact h1 : DrawAt W G E room (setF A ⟨n, p.text ++ s.data.toList, p.sure⟩) ((w'.drewN m).setCell ⟨g, off + k * 3 + 2, none⟩ (.string (T ++ s))) ∧ Heap.Touch G w ((w'.drewN m).setCell ⟨g, off + k * 3 + 2, none⟩ (.string (T ++ s)))))
    clear hb h1 h2 h3 HA HIN hgG
    go_upto_region 4 with fail
    go_quiet ((go_at_call 43; exact Calls.quiet_of_same (HU.out _)))
    go_wp2
    go_ret
    exact ⟨rfl, HEND.out _⟩
end
end Go.Proofs.Ytglgbidcmkncgaa.Drw
