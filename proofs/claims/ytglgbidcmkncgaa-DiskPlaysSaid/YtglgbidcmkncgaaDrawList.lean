/- The reference's disk: List. -/
import Derived.Test.YtglgbidcmkncgaaDrawRem
namespace Go.Proofs.Ytglgbidcmkncgaa.Drw
open Go.RowKit Heap Dsk

def LN (w : World) (l : List Int) (v : Value) (wr : World) : Prop := Below w.heap.size w wr ∧ Row wr 3 1 v l.length (numsV l) ∧ ∀ k, own v k → w.heap.size ≤ k

theorem LN.step {w wr : World} {l : List Int} {v : Value} (h : LN w l v wr) (x : Int) :
    Row (wr.alloc (.cells #[.int .i64 x] 3)) 3 1 v l.length (numsV l) ∧
      ∀ v2 w3, Row w3 3 1 v2 (l.length + 1) (numsV l ++ [.int .i64 x]) → Heap.Touch (own v) (wr.alloc (.cells #[.int .i64 x] 3)) w3 → (∀ k, own v2 k → own v k ∨ wr.heap.size + 1 ≤ k) → LN w (l ++ [x]) v2 w3 := by
  obtain ⟨hb, hr, ho⟩ := h
  have hba : Below wr.heap.size wr (wr.alloc (.cells #[.int .i64 x] 3)) := (Below.refl _ _).alloc (Nat.le_refl _) _
  refine ⟨hr.kept fun k _ hk => hba.block k hk, fun v2 w3 r3 t3 o3 => ⟨?_, ?_, ?_⟩⟩
  · have h1 := hb.trans (hba.mono hb.size)
    exact h1.trans (t3.below h1.size fun k hk => ho k hk)
  · have e1 : (l ++ [x]).length = l.length + 1 := by simp
    have e2 : numsV (l ++ [x]) = numsV l ++ [.int .i64 x] := by simp [numsV]
    rw [e1, e2]; exact r3
  · intro k hk
    rcases o3 k hk with hk | hk
    · exact ho k hk
    · have := hb.size; omega

section
variable {W w : World} {G : Nat → Prop} {E : Nat} {room : Int} {A : List FileP}

set_option maxHeartbeats 2000000 in
set_option maxRecDepth 100000 in
theorem list_drw (h : DrawAt W G E room A w) : Calls Try.prog 46 #[.pointer (some ⟨E, 0, none⟩)] w fun e w' => ∃ v, e = .returned v ∧ LN w (A.map (·.n)) v w' := by
  have HH := Lib.hid h
  have hfew := h.right.few
  obtain ⟨L, hL⟩ : ∃ L, A.length = L := ⟨_, rfl⟩
  rw [hL] at hfew
  have HL := Lib.hid hL
  clear h hL
  obtain ⟨i0, hi, hz0, hz1, hz2⟩ := info_parts info_intD
  go_enter Try.func46, Try.ntmps46
  go_wp2_with fail
  go_loopw [3, 4] (fun s i wr => ∃ k : Nat, k ≤ L ∧ i = .int .i64 k ∧ Hid (LN w ((A.take k).map (·.n)) s wr)) (fun _ i _ => L - (intOf i).toNat)
  case atStart => exact ⟨0, Nat.zero_le _, rfl, Lib.hid ⟨Below.refl _ _, Row.nil _ _ _, fun k hk => by simp [own, Value.ownBlock] at hk⟩⟩
  case round =>
    obtain ⟨k, hk, rfl, HR⟩ := hrel
    obtain ⟨v, h1, h2, h3⟩ := (HH.out.next HR.out.1).mem
    rw [HL.out] at h2
    obtain ⟨c0, c1, cf⟩ := twoC h1
    obtain ⟨a, c, hv⟩ := h2.slice
    subst hv
    by_cases hlt : k < L
    · have hltz : (k : Int) < L := by omega
      have hkA : k < A.length := by rw [HL.out]; exact hlt
      have hp := List.getElem?_eq_getElem hkA
      have hst : (A.take (k + 1)).map (·.n) = (A.take k).map (·.n) ++ [A[k].n] := by
        rw [List.take_add_one, hp]
        show ((A.take k) ++ [A[k]]).map _ = _
        rw [List.map_append]; rfl
      have hll : ((A.take k).map (·.n)).length = k := by rw [List.length_map, List.length_take]; omega
      generalize A[k] = p at hp hst
      have hrow := h2.2
      rcases hrow with ⟨hv, h0⟩ | ⟨g, off, cap, cur, hv, _⟩
      · omega
      simp only [Value.slice.injEq, true_and] at hv
      obtain ⟨rfl, rfl⟩ := hv
      obtain ⟨d0, d1, d2⟩ := cells_pull h2 k p hp hlt
      have HST := Lib.hid hst; have HLL := Lib.hid hll
      have HG := Lib.hid (LN.step HR.out p.n)
      obtain ⟨a3, c3, hs3⟩ := HR.out.2.1.slice
      subst hs3
      clear hp hst hll h1 h2 h3 HR d1 d2
      generalize (A.take k).map (·.n) = l at *
      have hk20 : l.length ≤ 20 := by rw [HLL.out]; omega
      go_wp2_with (at_builtin; refine Heap.wpList_append_row _ rfl (.tmp 14) (.tmp 23) 22 rfl 3 i0 _ 1 8 Try.underlying22 hi hz0 hz1 hz2 rfl (by decide) _ l.length _ rfl HG.out.1 ⟨wr.heap.size, 0, none⟩ 1 1 [.int .i64 p.n] rfl rfl (news_intD wr p.n _) (by simp [Value.oneCell']) (by unfold maxLen; omega) (by omega) ?_)
      intro v2 w3 r3 t3 o3
      have HF := Lib.hid (HG.out.2 v2 w3 r3 t3 o3)
      clear r3 t3 o3
      go_wp2_with fail
      exact ⟨⟨k + 1, by omega, by go_num, by rw [HST.out]; exact HF⟩, by simp [intOf]; omega⟩
    · have hltz : ¬ (k : Int) < L := by omega
      obtain rfl : k = L := by omega
      have HF := Lib.hid HR.out
      rw [List.take_of_length_le (by rw [HL.out]; exact Nat.le_refl _)] at HF
      clear h1 h2 h3 HR
      go_wp2_with fail
      go_ret
      exact ⟨_, rfl, HF.out⟩
end
end Go.Proofs.Ytglgbidcmkncgaa.Drw
