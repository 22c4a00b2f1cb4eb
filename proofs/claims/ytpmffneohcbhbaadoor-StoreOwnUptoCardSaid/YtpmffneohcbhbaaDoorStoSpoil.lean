/- spoil: a list is overwritten, with the room behind it. gen_spoil.py writes this text. -/
import Derived.Test.YtpmffneohcbhbaaDoorStoFill
namespace Go.Proofs.YtpmffneohcbhbaaDoor.Sto
open Go.RowKit Heap
open Subj (Tok ML pieces takes StrsAt)
open Rec (Rc recErr far)
open Idx (Ents ptrV)

/-- A block of so many cells. -/
def BlockOf (w : World) (e : TypeId) (g m : Nat) : Prop := ∃ cur, w.heap[g]? = some (.cells cur e (0, 0)) ∧ m ≤ cur.size

theorem BlockOf.set {w : World} {e : TypeId} {g m : Nat} (h : BlockOf w e g m) (j : Nat) (u : Value) : BlockOf (w.setCell ⟨g, j, none⟩ u) e g m := by
  obtain ⟨cur, h1, h2⟩ := h
  exact ⟨cur.setIfInBounds j u, heap_setCell_same _ _ _ _ _ _ h1, by simpa using h2⟩

theorem BlockOf.there {w : World} {e : TypeId} {g m : Nat} (h : BlockOf w e g m) {j : Nat} (hj : j < m) : ∃ u, w.cell? ⟨g, j, none⟩ = some u := by
  obtain ⟨cur, h1, h2⟩ := h
  exact ⟨cur[j], by rw [cell_of_row w g j _ _ _ h1]; exact Array.getElem?_eq_getElem (by omega)⟩

theorem BlockOf.free {w : World} {e : TypeId} {g m : Nat} (h : BlockOf w e g m) : (∀ j, w.frozen? ⟨g, j, none⟩ = false) ∧ g < w.heap.size := by
  obtain ⟨cur, h1, h2⟩ := h
  exact ⟨fun j => frozen_of_row w g j _ _ h1, heap_lt h1⟩

section
variable {w : World}

set_option maxHeartbeats 4000000 in
set_option maxRecDepth 100000 in
theorem spoil_ent {v : Value} {n : Nat} {xs : List Value} (hrow : Row w 40 2 v n xs) (sx : ByteArray) (nx : Int) :
    Calls Tryd.prog 39 #[v, .agg #[.string sx, .int .i64 nx]] w fun e w' => e = .returned (.tuple #[]) ∧ Heap.Touch (own v) w w' := by
  rcases hrow.2 with ⟨rfl, rfl⟩ | ⟨g, off, cap, cur, rfl, hg, hnc, hcm, hsz, _⟩
  · have HF := Lib.hid (show Heap.Touch (own (.slice none 0 0)) w (w.alloc (.cells #[.string sx, .int .i64 nx] 40)) from (Heap.Touch.refl _ w).alloc _)
    clear hrow
    go_enter Tryd.func39, Tryd.ntmps39
    go_wp2_with fail
    go_loopw [11] (fun i wr => i = .int .i64 0 ∧ Hid (Heap.Touch (own (.slice none 0 0)) w wr)) (fun _ _ => 0)
    case atStart => exact ⟨rfl, HF⟩
    case round =>
      obtain ⟨rfl, HT⟩ := hrel
      go_wp2_with fail
      go_end0
      exact ⟨rfl, HT.out⟩
  · obtain ⟨w1, hw1⟩ : ∃ w1, w1 = w.alloc (.cells #[.string sx, .int .i64 nx] 40) := ⟨_, rfl⟩
    have hb1 : Below w.heap.size w w1 := by rw [hw1]; exact (Below.refl _ _).alloc (Nat.le_refl _) _
    have hea : w1.heap[w.heap.size]? = some (.cells #[.string sx, .int .i64 nx] 40 (0, 0)) := by rw [hw1]; exact heap_alloc_new w _
    have hgl := heap_lt hg
    obtain ⟨bx, hbx⟩ : ∃ bx, w.heap.size = bx := ⟨_, rfl⟩
    have hgb : g ≠ bx := by omega
    have hg1 : BlockOf w1 40 g (off + cap * 2) := ⟨cur, (hb1.block g hgl).trans hg, hsz⟩
    have HT1 := Lib.hid (Heap.Touch.ofBelow (F := own (.slice (some ⟨g, off, none⟩) n cap)) hb1)
    have HG1 := Lib.hid hg1
    rw [hbx] at hea
    have HEA := Lib.hid hea; have HBX := Lib.hid hbx
    have hcz : (cap : Int) ≤ 9223372036854775807 := by unfold maxLen at hcm; omega
    clear hrow hb1 hea hg hg1 hgl hsz hbx hcm
    go_enter Tryd.func39, Tryd.ntmps39
    go_upto_region 1 with fail
    rw [← hw1, HBX.out]
    clear hw1
    go_wp2_with fail
    go_loopw [11] (fun i wr => ∃ k : Nat, k ≤ cap ∧ i = .int .i64 k ∧ Hid (BlockOf wr 40 g (off + cap * 2)) ∧ Hid (wr.heap[bx]? = some (.cells #[.string sx, .int .i64 nx] 40 (0, 0))) ∧ Hid (Heap.Touch (own (.slice (some ⟨g, off, none⟩) n cap)) w wr)) (fun i _ => cap - (intOf i).toNat)
    case atStart => exact ⟨0, Nat.zero_le _, rfl, HG1, HEA, HT1⟩
    case round =>
      obtain ⟨k, hk, rfl, HG, HE, HT⟩ := hrel
      clear HG1 HEA HT1
      by_cases hlt : k < cap
      · have hltz : (k : Int) < cap := by omega
        obtain ⟨hfz, hgl⟩ := HG.out.free
        have hbl := heap_lt HE.out
        have q0 : wr.cell? ⟨bx, 0, none⟩ = some (.string sx) := by rw [cell_of_row wr bx 0 _ _ _ HE.out]; rfl
        have q1 : wr.cell? ⟨bx, 1, none⟩ = some (.int .i64 nx) := by rw [cell_of_row wr bx 1 _ _ _ HE.out]; rfl
        obtain ⟨u0, d0⟩ := HG.out.there (j := off + k * 2) (by omega)
        obtain ⟨u1, d1⟩ := HG.out.there (j := off + k * 2 + 1) (by omega)
        have HN := Lib.hid (show BlockOf ((wr.setCell ⟨g, off + k * 2, none⟩ (.string sx)).setCell ⟨g, off + k * 2 + 1, none⟩ (.int .i64 nx)) 40 g (off + cap * 2) ∧ ((wr.setCell ⟨g, off + k * 2, none⟩ (.string sx)).setCell ⟨g, off + k * 2 + 1, none⟩ (.int .i64 nx)).heap[bx]? = some (.cells #[.string sx, .int .i64 nx] 40 (0, 0)) ∧ Heap.Touch (own (.slice (some ⟨g, off, none⟩) n cap)) w ((wr.setCell ⟨g, off + k * 2, none⟩ (.string sx)).setCell ⟨g, off + k * 2 + 1, none⟩ (.int .i64 nx)) from
          ⟨((HG.out.set (off + k * 2) (.string sx)).set (off + k * 2 + 1) (.int .i64 nx)), (heap_setCell_other _ _ _ _ (Ne.symm hgb)).trans ((heap_setCell_other _ _ _ _ (Ne.symm hgb)).trans (HE.out)), ((HT.out.setCell (.inl (by simp [own, Value.ownBlock])) _).setCell (.inl (by simp [own, Value.ownBlock])) _)⟩)
        go_wp2_with fail
        exact ⟨⟨k + 1, by omega, by go_num, Lib.hid HN.out.1, Lib.hid HN.out.2.1, Lib.hid HN.out.2.2⟩, by simp [intOf]; omega⟩
      · have hltz : ¬ (k : Int) < cap := by omega
        go_wp2_with fail
        go_end0
        exact ⟨rfl, HT.out⟩

set_option maxHeartbeats 4000000 in
set_option maxRecDepth 100000 in
theorem spoil_rec {v : Value} {n : Nat} {xs : List Value} (hrow : Row w 56 6 v n xs) :
    Calls Tryd.prog 41 #[v, .agg #[.int .i64 0, .int .i64 0, .int .i64 0, .string ⟨#[]⟩, .string ⟨#[]⟩, .string ⟨#[]⟩]] w fun e w' => e = .returned (.tuple #[]) ∧ Heap.Touch (own v) w w' := by
  rcases hrow.2 with ⟨rfl, rfl⟩ | ⟨g, off, cap, cur, rfl, hg, hnc, hcm, hsz, _⟩
  · have HF := Lib.hid (show Heap.Touch (own (.slice none 0 0)) w (w.alloc (.cells #[.int .i64 0, .int .i64 0, .int .i64 0, .string ⟨#[]⟩, .string ⟨#[]⟩, .string ⟨#[]⟩] 56)) from (Heap.Touch.refl _ w).alloc _)
    clear hrow
    go_enter Tryd.func41, Tryd.ntmps41
    go_wp2_with fail
    go_loopw [11] (fun i wr => i = .int .i64 0 ∧ Hid (Heap.Touch (own (.slice none 0 0)) w wr)) (fun _ _ => 0)
    case atStart => exact ⟨rfl, HF⟩
    case round =>
      obtain ⟨rfl, HT⟩ := hrel
      go_wp2_with fail
      go_end0
      exact ⟨rfl, HT.out⟩
  · obtain ⟨w1, hw1⟩ : ∃ w1, w1 = w.alloc (.cells #[.int .i64 0, .int .i64 0, .int .i64 0, .string ⟨#[]⟩, .string ⟨#[]⟩, .string ⟨#[]⟩] 56) := ⟨_, rfl⟩
    have hb1 : Below w.heap.size w w1 := by rw [hw1]; exact (Below.refl _ _).alloc (Nat.le_refl _) _
    have hea : w1.heap[w.heap.size]? = some (.cells #[.int .i64 0, .int .i64 0, .int .i64 0, .string ⟨#[]⟩, .string ⟨#[]⟩, .string ⟨#[]⟩] 56 (0, 0)) := by rw [hw1]; exact heap_alloc_new w _
    have hgl := heap_lt hg
    obtain ⟨bx, hbx⟩ : ∃ bx, w.heap.size = bx := ⟨_, rfl⟩
    have hgb : g ≠ bx := by omega
    have hg1 : BlockOf w1 56 g (off + cap * 6) := ⟨cur, (hb1.block g hgl).trans hg, hsz⟩
    have HT1 := Lib.hid (Heap.Touch.ofBelow (F := own (.slice (some ⟨g, off, none⟩) n cap)) hb1)
    have HG1 := Lib.hid hg1
    rw [hbx] at hea
    have HEA := Lib.hid hea; have HBX := Lib.hid hbx
    have hcz : (cap : Int) ≤ 9223372036854775807 := by unfold maxLen at hcm; omega
    clear hrow hb1 hea hg hg1 hgl hsz hbx hcm
    go_enter Tryd.func41, Tryd.ntmps41
    go_upto_region 1 with fail
    rw [← hw1, HBX.out]
    clear hw1
    go_wp2_with fail
    go_loopw [11] (fun i wr => ∃ k : Nat, k ≤ cap ∧ i = .int .i64 k ∧ Hid (BlockOf wr 56 g (off + cap * 6)) ∧ Hid (wr.heap[bx]? = some (.cells #[.int .i64 0, .int .i64 0, .int .i64 0, .string ⟨#[]⟩, .string ⟨#[]⟩, .string ⟨#[]⟩] 56 (0, 0))) ∧ Hid (Heap.Touch (own (.slice (some ⟨g, off, none⟩) n cap)) w wr)) (fun i _ => cap - (intOf i).toNat)
    case atStart => exact ⟨0, Nat.zero_le _, rfl, HG1, HEA, HT1⟩
    case round =>
      obtain ⟨k, hk, rfl, HG, HE, HT⟩ := hrel
      clear HG1 HEA HT1
      by_cases hlt : k < cap
      · have hltz : (k : Int) < cap := by omega
        obtain ⟨hfz, hgl⟩ := HG.out.free
        have hbl := heap_lt HE.out
        have q0 : wr.cell? ⟨bx, 0, none⟩ = some (.int .i64 0) := by rw [cell_of_row wr bx 0 _ _ _ HE.out]; rfl
        have q1 : wr.cell? ⟨bx, 1, none⟩ = some (.int .i64 0) := by rw [cell_of_row wr bx 1 _ _ _ HE.out]; rfl
        have q2 : wr.cell? ⟨bx, 2, none⟩ = some (.int .i64 0) := by rw [cell_of_row wr bx 2 _ _ _ HE.out]; rfl
        have q3 : wr.cell? ⟨bx, 3, none⟩ = some (.string ⟨#[]⟩) := by rw [cell_of_row wr bx 3 _ _ _ HE.out]; rfl
        have q4 : wr.cell? ⟨bx, 4, none⟩ = some (.string ⟨#[]⟩) := by rw [cell_of_row wr bx 4 _ _ _ HE.out]; rfl
        have q5 : wr.cell? ⟨bx, 5, none⟩ = some (.string ⟨#[]⟩) := by rw [cell_of_row wr bx 5 _ _ _ HE.out]; rfl
        obtain ⟨u0, d0⟩ := HG.out.there (j := off + k * 6) (by omega)
        obtain ⟨u1, d1⟩ := HG.out.there (j := off + k * 6 + 1) (by omega)
        obtain ⟨u2, d2⟩ := HG.out.there (j := off + k * 6 + 2) (by omega)
        obtain ⟨u3, d3⟩ := HG.out.there (j := off + k * 6 + 3) (by omega)
        obtain ⟨u4, d4⟩ := HG.out.there (j := off + k * 6 + 4) (by omega)
        obtain ⟨u5, d5⟩ := HG.out.there (j := off + k * 6 + 5) (by omega)
        have HN := Lib.hid (show BlockOf ((((((wr.setCell ⟨g, off + k * 6, none⟩ (.int .i64 0)).setCell ⟨g, off + k * 6 + 1, none⟩ (.int .i64 0)).setCell ⟨g, off + k * 6 + 2, none⟩ (.int .i64 0)).setCell ⟨g, off + k * 6 + 3, none⟩ (.string ⟨#[]⟩)).setCell ⟨g, off + k * 6 + 4, none⟩ (.string ⟨#[]⟩)).setCell ⟨g, off + k * 6 + 5, none⟩ (.string ⟨#[]⟩)) 56 g (off + cap * 6) ∧ ((((((wr.setCell ⟨g, off + k * 6, none⟩ (.int .i64 0)).setCell ⟨g, off + k * 6 + 1, none⟩ (.int .i64 0)).setCell ⟨g, off + k * 6 + 2, none⟩ (.int .i64 0)).setCell ⟨g, off + k * 6 + 3, none⟩ (.string ⟨#[]⟩)).setCell ⟨g, off + k * 6 + 4, none⟩ (.string ⟨#[]⟩)).setCell ⟨g, off + k * 6 + 5, none⟩ (.string ⟨#[]⟩)).heap[bx]? = some (.cells #[.int .i64 0, .int .i64 0, .int .i64 0, .string ⟨#[]⟩, .string ⟨#[]⟩, .string ⟨#[]⟩] 56 (0, 0)) ∧ Heap.Touch (own (.slice (some ⟨g, off, none⟩) n cap)) w ((((((wr.setCell ⟨g, off + k * 6, none⟩ (.int .i64 0)).setCell ⟨g, off + k * 6 + 1, none⟩ (.int .i64 0)).setCell ⟨g, off + k * 6 + 2, none⟩ (.int .i64 0)).setCell ⟨g, off + k * 6 + 3, none⟩ (.string ⟨#[]⟩)).setCell ⟨g, off + k * 6 + 4, none⟩ (.string ⟨#[]⟩)).setCell ⟨g, off + k * 6 + 5, none⟩ (.string ⟨#[]⟩)) from
          ⟨((((((HG.out.set (off + k * 6) (.int .i64 0)).set (off + k * 6 + 1) (.int .i64 0)).set (off + k * 6 + 2) (.int .i64 0)).set (off + k * 6 + 3) (.string ⟨#[]⟩)).set (off + k * 6 + 4) (.string ⟨#[]⟩)).set (off + k * 6 + 5) (.string ⟨#[]⟩)), (heap_setCell_other _ _ _ _ (Ne.symm hgb)).trans ((heap_setCell_other _ _ _ _ (Ne.symm hgb)).trans ((heap_setCell_other _ _ _ _ (Ne.symm hgb)).trans ((heap_setCell_other _ _ _ _ (Ne.symm hgb)).trans ((heap_setCell_other _ _ _ _ (Ne.symm hgb)).trans ((heap_setCell_other _ _ _ _ (Ne.symm hgb)).trans (HE.out)))))), ((((((HT.out.setCell (.inl (by simp [own, Value.ownBlock])) _).setCell (.inl (by simp [own, Value.ownBlock])) _).setCell (.inl (by simp [own, Value.ownBlock])) _).setCell (.inl (by simp [own, Value.ownBlock])) _).setCell (.inl (by simp [own, Value.ownBlock])) _).setCell (.inl (by simp [own, Value.ownBlock])) _)⟩)
        go_wp2_with fail
        exact ⟨⟨k + 1, by omega, by go_num, Lib.hid HN.out.1, Lib.hid HN.out.2.1, Lib.hid HN.out.2.2⟩, by simp [intOf]; omega⟩
      · have hltz : ¬ (k : Int) < cap := by omega
        go_wp2_with fail
        go_end0
        exact ⟨rfl, HT.out⟩
end
end Go.Proofs.YtpmffneohcbhbaaDoor.Sto
