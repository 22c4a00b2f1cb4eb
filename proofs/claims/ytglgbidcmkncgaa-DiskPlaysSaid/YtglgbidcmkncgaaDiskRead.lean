/- The disk's small calls: Used, Read, Sync. -/
import Derived.Test.YtglgbidcmkncgaaDiskMem
namespace Go.Proofs.Ytglgbidcmkncgaa.Dsk
open Go.RowKit Go.Maps Heap

theorem twoC {B : Nat} {w : World} {t : TypeId} {a0 a1 : Value} (h : w.heap[B]? = some (.cells #[a0, a1] t (0, 0))) :
    w.cell? ⟨B, 0, none⟩ = some a0 ∧ w.cell? ⟨B, 1, none⟩ = some a1 ∧ ∀ j, w.frozen? ⟨B, j, none⟩ = false := by
  refine ⟨?_, ?_, fun j => ?_⟩
  · rw [cell_of_row w B 0 _ _ _ h]; rfl
  · rw [cell_of_row w B 1 _ _ _ h]; rfl
  · exact frozen_of_row w B j _ _ h

theorem threeC {B : Nat} {w : World} {t : TypeId} {a0 a1 a2 : Value} (h : w.heap[B]? = some (.cells #[a0, a1, a2] t (0, 0))) :
    w.cell? ⟨B, 0, none⟩ = some a0 ∧ w.cell? ⟨B, 1, none⟩ = some a1 ∧ w.cell? ⟨B, 2, none⟩ = some a2 ∧ ∀ j, w.frozen? ⟨B, j, none⟩ = false := by
  refine ⟨?_, ?_, ?_, fun j => ?_⟩
  · rw [cell_of_row w B 0 _ _ _ h]; rfl
  · rw [cell_of_row w B 1 _ _ _ h]; rfl
  · rw [cell_of_row w B 2 _ _ _ h]; rfl
  · exact frozen_of_row w B j _ _ h

section
variable {W w : World} {F : Nat → Prop} {D : Nat} {room : Int} {A : List FileP}

theorem used_any (h : DiskAt W F D room A w) : Calls Try.prog 19 #[.pointer (some ⟨D, 0, none⟩)] w fun e w' => e = .returned (.int .i64 (total A : Nat)) ∧ w = w' := by
  obtain ⟨M, β, X, hm⟩ := h.mem
  obtain ⟨c0, c1, c2, cf⟩ := threeC hm.cells
  clear hm h
  go_enter Try.func19, Try.ntmps19
  go_wp2
  go_ret
  exact ⟨rfl, rfl⟩

theorem read_any (h : DiskAt W F D room A w) (n : Int) (hk : -9223372036854775808 ≤ n ∧ n ≤ 9223372036854775807) : Calls Try.prog 23 #[.pointer (some ⟨D, 0, none⟩), .int .i64 n] w fun e w' => e = .returned (.tuple #[.string ⟨(readD A n).1.toArray⟩, .int .i64 ((readD A n).2 : Nat)]) ∧ w = w' := by
  obtain ⟨M, β, X, hm⟩ := h.mem
  obtain ⟨c0, c1, c2, cf⟩ := threeC hm.cells
  have hown := Lib.hid hm.own
  cases hg : getF A n with
  | some p =>
    have hhas : Maps.has X (.int .i64 n) = true := by rw [hm.has, hg]; rfl
    have hat : ∀ z, X.atKey (.int .i64 n) z = .lit (.int .i64 (β p.n : Nat)) := fun z => by have := hm.at_ p (getF_n hg).2 z; rw [(getF_n hg).1] at this; rw [(getF_n hg).1]; exact this
    obtain ⟨f0, f1, ff⟩ := twoC (hm.files p (getF_n hg).2)
    have hr : readD A n = (p.text, 0) := by unfold readD; rw [hg]
    rw [hr]
    have HHAS := Lib.hid hhas; have HAT := Lib.hid hat; have HK := Lib.hid hk
    clear hm h hg hr hhas hat hk
    go_enter Try.func23, Try.ntmps23
    go_wp2_with (first | (at_lookup; refine look_hit _ rfl _ _ rfl M _ X rfl hown.out n rfl HK.out (β p.n) HHAS.out HAT.out ?_))
    go_ret2
    exact ⟨rfl, rfl⟩
  | none =>
    have hhas : Maps.has X (.int .i64 n) = false := by rw [hm.has, hg]; rfl
    have hr : readD A n = ([], 4) := by unfold readD; rw [hg]
    rw [hr]
    have HHAS := Lib.hid hhas; have HK := Lib.hid hk
    clear hm h hg hr hhas hk
    go_enter Try.func23, Try.ntmps23
    go_wp2_with (first | (at_lookup; refine look_miss _ rfl _ _ rfl M _ X rfl hown.out n rfl HK.out HHAS.out ?_))
    go_ret2
    exact ⟨rfl, rfl⟩

/-- Of whatever two cells are written the disk's others stand. -/
theorem DiskAt.next {w' : World} {G : Nat → Prop} {A' : List FileP} (h : DiskAt W F D room A w) (hr : RightD room A') (ht : Heap.Touch F w w') (hG : ∀ k, G k → W.heap.size ≤ k) (hm : ∃ M β X, DM G D M β X room A' w') : DiskAt W G D room A' w' :=
  ⟨hr, h.below.trans (ht.below h.below.size h.newF), hG, hm⟩

theorem Grow.new (h : DiskAt W F D room A w) : ∀ k, Grow F w k → W.heap.size ≤ k := by
  rintro k (hk | hk)
  · exact h.newF k hk
  · exact Nat.le_trans h.below.size hk

/-- A disk of fewer blocks is one of more. -/
theorem DiskAt.mono {G : Nat → Prop} (h : DiskAt W F D room A w) (hG : ∀ k, F k → G k) (hn : ∀ k, G k → W.heap.size ≤ k) : DiskAt W G D room A w := by
  obtain ⟨M, β, X, hm⟩ := h.mem
  exact ⟨h.right, h.below, hn, M, β, X, hm.mono hG⟩

theorem DiskAt.kept {w' : World} (h : DiskAt W F D room A w) (hb : Below W.heap.size w w') (hs : Same F w w') : DiskAt W F D room A w' := by
  obtain ⟨M, β, X, hm⟩ := h.mem
  exact ⟨h.right, h.below.trans hb, h.newF, M, β, X, hm.kept hs⟩

set_option maxRecDepth 100000 in
theorem sync_any (h : DiskAt W F D room A w) (n : Int) (hk : -9223372036854775808 ≤ n ∧ n ≤ 9223372036854775807) : Calls Try.prog 21 #[.pointer (some ⟨D, 0, none⟩), .int .i64 n] w fun e w' => e = .returned (.int .i64 ((syncD A n).2 : Nat)) ∧ DiskAt W F D room (syncD A n).1 w' ∧ Heap.Touch F w w' := by
  obtain ⟨M, β, X, hm⟩ := h.mem
  obtain ⟨c0, c1, c2, cf⟩ := threeC hm.cells
  have hown := Lib.hid hm.own
  cases hg : getF A n with
  | some p =>
    obtain ⟨hpn, hpm⟩ := getF_n hg
    have hhas : Maps.has X (.int .i64 n) = true := by rw [hm.has, hg]; rfl
    have hat : ∀ z, X.atKey (.int .i64 n) z = .lit (.int .i64 (β p.n : Nat)) := fun z => by have := hm.at_ p hpm z; rw [hpn] at this; rw [hpn]; exact this
    have hf := hm.files p hpm
    obtain ⟨f0, f1, ff⟩ := twoC hf
    have hsize : (ByteArray.mk p.text.toArray).size = p.text.length := by show p.text.toArray.size = _; rw [List.size_toArray]
    have hr : syncD A n = (setF A ⟨n, p.text, p.text.length⟩, 0) := by unfold syncD; rw [hg]
    rw [hr]
    have hend : DiskAt W F D room (setF A ⟨n, p.text, p.text.length⟩) (w.setCell ⟨β p.n, 1, none⟩ (.int .i64 (p.text.length : Nat))) ∧ Heap.Touch F w (w.setCell ⟨β p.n, 1, none⟩ (.int .i64 (p.text.length : Nat))) := by
      have ht : Heap.Touch (fun k => k = β n) w (w.setCell ⟨β p.n, 1, none⟩ (.int .i64 (p.text.length : Nat))) := (Heap.Touch.refl _ w).setCell (.inl (by rw [hpn])) _
      have htF : Heap.Touch F w (w.setCell ⟨β p.n, 1, none⟩ (.int .i64 (p.text.length : Nat))) := ht.mono fun k _ e => by subst e; rw [← hpn]; exact hm.fF p hpm
      have htot : total (setF A ⟨n, p.text, p.text.length⟩) = total A := by have := total_setF (q := ⟨n, p.text, p.text.length⟩) h.right.sorted hg; simp only at this; omega
      refine ⟨h.next (h.right.set hg _ rfl (Nat.le_refl _) (by have := h.right.fits; simp only; omega)) htF h.newF ⟨M, β, X, hm.set (q := ⟨n, p.text, p.text.length⟩) h.right hg (ht.mono fun k _ e => .inr e) ?_ ?_⟩, htF⟩
      · rw [heap_setCell_other _ _ _ _ (by rw [← hpn] at *; exact hm.neDF hpm), htot]; exact hm.cells
      · rw [hpn] at hf ⊢
        rw [heap_setCell_same _ _ _ _ _ _ hf]; rfl
    have HHAS := Lib.hid hhas; have HAT := Lib.hid hat; have HK := Lib.hid hk; have HEND := Lib.hid hend
    clear hm h hg hr hhas hat hk hf hpm hpn hend
    go_enter Try.func21, Try.ntmps21
    go_wp2_with (first | (at_lookup; refine look_hit _ rfl _ _ rfl M _ X rfl hown.out n rfl HK.out (β p.n) HHAS.out HAT.out ?_))
    go_ret
    exact ⟨rfl, HEND.out⟩
  | none =>
    have hhas : Maps.has X (.int .i64 n) = false := by rw [hm.has, hg]; rfl
    have hr : syncD A n = (A, 4) := by unfold syncD; rw [hg]
    rw [hr]
    have HHAS := Lib.hid hhas; have HK := Lib.hid hk; have HH := Lib.hid h
    clear hm h hg hr hhas hk
    go_enter Try.func21, Try.ntmps21
    go_wp2_with (first | (at_lookup; refine look_miss _ rfl _ _ rfl M _ X rfl hown.out n rfl HK.out HHAS.out ?_))
    go_ret
    exact ⟨rfl, HH.out, Heap.Touch.refl _ _⟩
end
end Go.Proofs.Ytglgbidcmkncgaa.Dsk
