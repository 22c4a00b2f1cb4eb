/- Parts of the proof, joined: The disk's small calls: Used, Read, Sync.; The disk's Cut, Remove and Append.; The reference's disk in memory: a room and a slice of papers. -/
import Derived.Test.YtbgchhgdlceceaaGreatDoorLogPlaysUptoM2
import Derived.RegionTactic
import Derived.Deep.CutRange
import Derived.Deep.QuietTactic
import Derived.BigQuiet
namespace Go.Proofs.YtbgchhgdlceceaaGreatDoor.Dsk
open Go.RowKit Go.Maps Heap

theorem twoC {B : Nat} {w : World} {t : TypeId} {a0 a1 : Value} (h : w.heap[B]? = some (.cells #[a0, a1] t (0, 0))) :
    w.cell? ⟨B, 0, none⟩ = some a0 ∧ w.cell? ⟨B, 1, none⟩ = some a1 ∧ ∀ j, w.frozen? ⟨B, j, none⟩ = false := by
  refine ⟨?_, ?_, fun j => ?_⟩
  · rw [cell_of_row w B 0 _ _ _ h]; rfl
  · rw [cell_of_row w B 1 _ _ _ h]; rfl
  · exact frozen_of_row w B j _ _ h

theorem threeC {B : Nat} {w : World} {t : TypeId} {a0 a1 a2 : Value} (h : w.heap[B]? = some (.cells #[a0, a1, a2] t (0, 0))) :
    w.cell? ⟨B, 0, none⟩ = some a0 ∧ w.cell? ⟨B, 1, none⟩ = some a1 ∧ w.cell? ⟨B, 2, none⟩ = some a2 ∧ ∀ j, w.frozen? ⟨B, j, none⟩ = false := by
  refine ⟨?_, ?_, ?_, fun j => ?_⟩
  · rw [cell_of_row w B 0 _ _ _ h]; rfl
  · rw [cell_of_row w B 1 _ _ _ h]; rfl
  · rw [cell_of_row w B 2 _ _ _ h]; rfl
  · exact frozen_of_row w B j _ _ h

section
variable {W w : World} {F : Nat → Prop} {D : Nat} {room : Int} {A : List FileP}

theorem used_any (h : DiskAt W F D room A w) : Calls Tryz.prog 112 #[.pointer (some ⟨D, 0, none⟩)] w fun e w' => e = .returned (.int .i64 (total A : Nat)) ∧ w = w' := by
  obtain ⟨M, β, X, hm⟩ := h.mem
  obtain ⟨c0, c1, c2, cf⟩ := threeC hm.cells
  clear hm h
  go_enter Tryz.func112, Tryz.ntmps112
  go_wp2
  go_ret
  exact ⟨rfl, rfl⟩

theorem read_any (h : DiskAt W F D room A w) (n : Int) (hk : -9223372036854775808 ≤ n ∧ n ≤ 9223372036854775807) : Calls Tryz.prog 108 #[.pointer (some ⟨D, 0, none⟩), .int .i64 n] w fun e w' => e = .returned (.tuple #[.string ⟨(readD A n).1.toArray⟩, .int .i64 ((readD A n).2 : Nat)]) ∧ w = w' := by
  obtain ⟨M, β, X, hm⟩ := h.mem
  obtain ⟨c0, c1, c2, cf⟩ := threeC hm.cells
  have hown := Lib.hid hm.own
  cases hg : getF A n with
  | some p =>
    have hhas : Maps.has X (.int .i64 n) = true := by rw [hm.has, hg]; rfl
    have hat : ∀ z, X.atKey (.int .i64 n) z = .lit (.int .i64 (β p.n : Nat)) := fun z => by have := hm.at_ p (getF_n hg).2 z; rw [(getF_n hg).1] at this; rw [(getF_n hg).1]; exact this
    obtain ⟨f0, f1, ff⟩ := twoC (hm.files p (getF_n hg).2)
    have hr : readD A n = (p.text, 0) := by unfold readD; rw [hg]
    rw [hr]
    have HHAS := Lib.hid hhas; have HAT := Lib.hid hat; have HK := Lib.hid hk
    clear hm h hg hr hhas hat hk
    go_enter Tryz.func108, Tryz.ntmps108
    go_wp2_with (first | (at_lookup; refine look_hit _ rfl _ _ rfl M _ X rfl hown.out n rfl HK.out (β p.n) HHAS.out HAT.out ?_))
    go_ret2
    exact ⟨rfl, rfl⟩
  | none =>
    have hhas : Maps.has X (.int .i64 n) = false := by rw [hm.has, hg]; rfl
    have hr : readD A n = ([], 4) := by unfold readD; rw [hg]
    rw [hr]
    have HHAS := Lib.hid hhas; have HK := Lib.hid hk
    clear hm h hg hr hhas hk
    go_enter Tryz.func108, Tryz.ntmps108
    go_wp2_with (first | (at_lookup; refine look_miss _ rfl _ _ rfl M _ X rfl hown.out n rfl HK.out HHAS.out ?_))
    go_ret2
    exact ⟨rfl, rfl⟩

/-- Of whatever two cells are written the disk's others stand. -/
theorem DiskAt.next {w' : World} {G : Nat → Prop} {A' : List FileP} (h : DiskAt W F D room A w) (hr : RightD room A') (ht : Heap.Touch F w w') (hG : ∀ k, G k → W.heap.size ≤ k) (hm : ∃ M β X, DM G D M β X room A' w') : DiskAt W G D room A' w' :=
  ⟨hr, h.below.trans (ht.below h.below.size h.newF), hG, hm⟩

theorem Grow.new (h : DiskAt W F D room A w) : ∀ k, Grow F w k → W.heap.size ≤ k := by
  rintro k (hk | hk)
  · exact h.newF k hk
  · exact Nat.le_trans h.below.size hk

/-- A disk of fewer blocks is one of more. -/
theorem DiskAt.mono {G : Nat → Prop} (h : DiskAt W F D room A w) (hG : ∀ k, F k → G k) (hn : ∀ k, G k → W.heap.size ≤ k) : DiskAt W G D room A w := by
  obtain ⟨M, β, X, hm⟩ := h.mem
  exact ⟨h.right, h.below, hn, M, β, X, hm.mono hG⟩

theorem DiskAt.kept {w' : World} (h : DiskAt W F D room A w) (hb : Below W.heap.size w w') (hs : Same F w w') : DiskAt W F D room A w' := by
  obtain ⟨M, β, X, hm⟩ := h.mem
  exact ⟨h.right, h.below.trans hb, h.newF, M, β, X, hm.kept hs⟩

set_option maxRecDepth 100000 in
theorem sync_any (h : DiskAt W F D room A w) (n : Int) (hk : -9223372036854775808 ≤ n ∧ n ≤ 9223372036854775807) : Calls Tryz.prog 104 #[.pointer (some ⟨D, 0, none⟩), .int .i64 n] w fun e w' => e = .returned (.int .i64 ((syncD A n).2 : Nat)) ∧ DiskAt W F D room (syncD A n).1 w' ∧ Heap.Touch F w w' := by
  obtain ⟨M, β, X, hm⟩ := h.mem
  obtain ⟨c0, c1, c2, cf⟩ := threeC hm.cells
  have hown := Lib.hid hm.own
  cases hg : getF A n with
  | some p =>
    obtain ⟨hpn, hpm⟩ := getF_n hg
    have hhas : Maps.has X (.int .i64 n) = true := by rw [hm.has, hg]; rfl
    have hat : ∀ z, X.atKey (.int .i64 n) z = .lit (.int .i64 (β p.n : Nat)) := fun z => by have := hm.at_ p hpm z; rw [hpn] at this; rw [hpn]; exact this
    have hf := hm.files p hpm
    obtain ⟨f0, f1, ff⟩ := twoC hf
    have hsize : (ByteArray.mk p.text.toArray).size = p.text.length := by show p.text.toArray.size = _; rw [List.size_toArray]
    have hr : syncD A n = (setF A ⟨n, p.text, p.text.length⟩, 0) := by unfold syncD; rw [hg]
    rw [hr]
    have hend : DiskAt W F D room (setF A ⟨n, p.text, p.text.length⟩) (w.setCell ⟨β p.n, 1, none⟩ (.int .i64 (p.text.length : Nat))) ∧ Heap.Touch F w (w.setCell ⟨β p.n, 1, none⟩ (.int .i64 (p.text.length : Nat))) := by
      have ht : Heap.Touch (fun k => k = β n) w (w.setCell ⟨β p.n, 1, none⟩ (.int .i64 (p.text.length : Nat))) := (Heap.Touch.refl _ w).setCell (.inl (by rw [hpn])) _
      have htF : Heap.Touch F w (w.setCell ⟨β p.n, 1, none⟩ (.int .i64 (p.text.length : Nat))) := ht.mono fun k _ e => by subst e; rw [← hpn]; exact hm.fF p hpm
      have htot : total (setF A ⟨n, p.text, p.text.length⟩) = total A := by have := total_setF (q := ⟨n, p.text, p.text.length⟩) h.right.sorted hg; simp only at this; omega
      refine ⟨h.next (h.right.set hg _ rfl (Nat.le_refl _) (by have := h.right.fits; simp only; omega)) htF h.newF ⟨M, β, X, hm.set (q := ⟨n, p.text, p.text.length⟩) h.right hg (ht.mono fun k _ e => .inr e) ?_ ?_⟩, htF⟩
      · rw [heap_setCell_other _ _ _ _ (by rw [← hpn] at *; exact hm.neDF hpm), htot]; exact hm.cells
      · rw [hpn] at hf ⊢
        rw [heap_setCell_same _ _ _ _ _ _ hf]; rfl
    have HHAS := Lib.hid hhas; have HAT := Lib.hid hat; have HK := Lib.hid hk; have HEND := Lib.hid hend
    clear hm h hg hr hhas hat hk hf hpm hpn hend
    go_enter Tryz.func104, Tryz.ntmps104
    go_wp2_with (first | (at_lookup; refine look_hit _ rfl _ _ rfl M _ X rfl hown.out n rfl HK.out (β p.n) HHAS.out HAT.out ?_))
    go_ret
    exact ⟨rfl, HEND.out⟩
  | none =>
    have hhas : Maps.has X (.int .i64 n) = false := by rw [hm.has, hg]; rfl
    have hr : syncD A n = (A, 4) := by unfold syncD; rw [hg]
    rw [hr]
    have HHAS := Lib.hid hhas; have HK := Lib.hid hk; have HH := Lib.hid h
    clear hm h hg hr hhas hk
    go_enter Tryz.func104, Tryz.ntmps104
    go_wp2_with (first | (at_lookup; refine look_miss _ rfl _ _ rfl M _ X rfl hown.out n rfl HK.out HHAS.out ?_))
    go_ret
    exact ⟨rfl, HH.out, Heap.Touch.refl _ _⟩
end
end Go.Proofs.YtbgchhgdlceceaaGreatDoor.Dsk

namespace Go.Proofs.YtbgchhgdlceceaaGreatDoor.Dsk
open Go.RowKit Go.Maps Heap

theorem text_of (l : List UInt8) : ∃ T : ByteArray, T = ⟨l.toArray⟩ ∧ T.size = l.length ∧ T.data.toList = l := ⟨_, rfl, by show l.toArray.size = _; rw [List.size_toArray], rfl⟩

theorem take_text {T : ByteArray} {l : List UInt8} (h : T.data.toList = l) (k : Nat) : (⟨(l.take k).toArray⟩ : ByteArray) = T.extract 0 k := by
  cases T with
  | mk d =>
    rw [ByteArray.extract_mk]
    apply ByteArray.ext
    apply Array.ext'
    rw [← h]
    simp

theorem app_text {T S : ByteArray} {l m : List UInt8} (h : T.data.toList = l) (h2 : S.data.toList = m) : (⟨(l ++ m).toArray⟩ : ByteArray) = T ++ S := by
  apply ByteArray.ext
  apply Array.ext'
  rw [← h, ← h2]
  simp

section
variable {W w : World} {F : Nat → Prop} {D : Nat} {room : Int} {A : List FileP}

/-- Both cells of a file and the sum are written. -/
theorem DiskAt.put {M : Nat} {β : Int → Nat} {X : DataW Unit} {w' : World} (h : DiskAt W F D room A w) (hm : DM F D M β X room A w) {n : Int} {p q : FileP} (hg : getF A n = some p) (hq : q.n = n) (hr : RightD room (setF A q)) (ht : Heap.Touch (fun k => k = D ∨ k = β p.n) w w')
    (hD : w'.heap[D]? = some (.cells #[.int .i64 room, .int .i64 (total (setF A q) : Nat), .map (some M)] 189 (0, 0)))
    (hB : w'.heap[β p.n]? = some (.cells #[.string ⟨q.text.toArray⟩, .int .i64 (q.sure : Nat)] 206 (0, 0))) : DiskAt W F D room (setF A q) w' ∧ Heap.Touch F w w' := by
  obtain ⟨hpn, hpm⟩ := getF_n hg
  have htF : Heap.Touch F w w' := ht.mono fun k _ e => by
    rcases e with rfl | rfl
    · exact hm.fD
    · exact hm.fF p hpm
  subst hq
  rw [hpn] at ht hB
  exact ⟨h.next hr htF h.newF ⟨M, β, X, hm.set h.right hg ht hD hB⟩, htF⟩

set_option maxHeartbeats 1000000 in
set_option maxRecDepth 100000 in
theorem cut_any (h : DiskAt W F D room A w) (n size : Int) (hk : -9223372036854775808 ≤ n ∧ n ≤ 9223372036854775807) : Calls Tryz.prog 102 #[.pointer (some ⟨D, 0, none⟩), .int .i64 n, .int .i64 size] w fun e w' => e = .returned (.int .i64 ((cutD A n size).2 : Nat)) ∧ DiskAt W F D room (cutD A n size).1 w' ∧ Heap.Touch F w w' := by
  obtain ⟨M, β, X, hm⟩ := h.mem
  obtain ⟨c0, c1, c2, cf⟩ := threeC hm.cells
  have hown := Lib.hid hm.own
  cases hg : getF A n with
  | some p =>
    obtain ⟨hpn, hpm⟩ := getF_n hg
    have hhas : Maps.has X (.int .i64 n) = true := by rw [hm.has, hg]; rfl
    have hat : ∀ z, X.atKey (.int .i64 n) z = .lit (.int .i64 (β p.n : Nat)) := fun z => by have := hm.at_ p hpm z; rw [hpn] at this; rw [hpn]; exact this
    have hf := hm.files p hpm
    obtain ⟨T, hT, hTs, hTl⟩ := text_of p.text
    rw [← hT] at hf
    obtain ⟨f0, f1, ff⟩ := twoC hf
    have hneDB := hm.neDF hpm
    have hlen := h.right.len hpm
    have hfit := h.right.fits; have hsm := h.right.small; have hle := le_total hpm
    by_cases hbad : size < 0 ∨ (p.text.length : Int) < size
    · have hr : cutD A n size = (A, 1) := by unfold cutD; rw [hg]; simp only; rw [if_pos hbad]
      rw [hr]
      have HHAS := Lib.hid hhas; have HAT := Lib.hid hat; have HK := Lib.hid hk; have HH := Lib.hid h
      rcases hbad with hb | hb
      · clear hm hg hr hhas hat hk hf hpm hpn h hle hT hTl hneDB hTs
        go_enter Tryz.func102, Tryz.ntmps102
        go_wp2_with (first | (at_lookup; refine look_hit _ rfl _ _ rfl M _ X rfl hown.out n rfl HK.out (β p.n) HHAS.out HAT.out ?_))
        go_ret
        exact ⟨rfl, HH.out, Heap.Touch.refl _ _⟩
      · have hb' : (T.size : Int) < size := by omega
        clear hm hg hr hhas hat hk hf hpm hpn h hle hT hTl hneDB hTs
        go_enter Tryz.func102, Tryz.ntmps102
        go_wp2_with (first | (at_lookup; refine look_hit _ rfl _ _ rfl M _ X rfl hown.out n rfl HK.out (β p.n) HHAS.out HAT.out ?_))
        go_ret
        exact ⟨rfl, HH.out, Heap.Touch.refl _ _⟩
    · obtain ⟨k, rfl⟩ : ∃ k : Nat, size = (k : Int) := ⟨size.toNat, by omega⟩
      have hkl : k ≤ T.size := by omega
      have hr : cutD A n k = (setF A ⟨n, p.text.take k, k⟩, 0) := by unfold cutD; rw [hg]; simp only; rw [if_neg hbad]; rfl
      rw [hr]
      have htk : (p.text.take k).length = k := by rw [List.length_take]; omega
      have htot : (total (setF A ⟨n, p.text.take k, k⟩) : Int) = (total A : Int) - (T.size - k) := by have := total_setF (q := ⟨n, p.text.take k, k⟩) h.right.sorted hg; simp only [htk] at this; omega
      have w1 : IntKind.i64.wrap ((T.size : Int) - k) = (T.size : Int) - k := IntWalk.i64_in _ (by omega)
      have w2 : IntKind.i64.wrap ((total A : Int) - ((T.size : Int) - k)) = (total A : Int) - ((T.size : Int) - k) := IntWalk.i64_in _ (by omega)
      have hend : ∀ w' : World, w' = (((w.setCell ⟨D, 1, none⟩ (.int .i64 ((total A : Int) - ((T.size : Int) - k)))).setCell ⟨β p.n, 0, none⟩ (.string (T.extract 0 k))).setCell ⟨β p.n, 1, none⟩ (.int .i64 k)).drew → DiskAt W F D room (setF A ⟨n, p.text.take k, k⟩) w' ∧ Heap.Touch F w w' := by
        rintro w' rfl
        refine h.put hm hg rfl (h.right.set hg _ rfl (by simp only [htk]; omega) (by simp only [htk]; omega)) ((((Heap.Touch.refl _ w).setCell (.inl (.inl rfl)) _).setCell (.inl (.inr rfl)) _).setCell (.inl (.inr rfl)) _).drew ?_ ?_
        · show (World.setCell _ _ _).heap[D]? = _
          rw [heap_setCell_other _ _ _ _ hneDB, heap_setCell_other _ _ _ _ hneDB, heap_setCell_same _ _ _ _ _ _ hm.cells, htot]; rfl
        · have f1 := heap_setCell_other w ⟨D, 1, none⟩ (β p.n) (.int .i64 ((total A : Int) - ((T.size : Int) - k))) (Ne.symm hneDB)
          have f2 := heap_setCell_same _ (β p.n) 0 _ _ (.string (T.extract 0 k)) (f1.trans hf)
          show (World.setCell _ _ _).heap[β p.n]? = _
          rw [heap_setCell_same _ _ _ _ _ _ f2]
          show _ = some (Obj.cells #[.string ⟨(p.text.take k).toArray⟩, .int .i64 (k : Nat)] _ _)
          rw [take_text hTl]; rfl
      have HHAS := Lib.hid hhas; have HAT := Lib.hid hat; have HK := Lib.hid hk; have HEND := Lib.hid hend
      clear hm h hg hr hhas hat hk hf hpm hpn hend htot hT hTl hle htk hbad hTs hlen hfit hsm
      go_enter Tryz.func102, Tryz.ntmps102
      go_wp2_with (first | (at_lookup; refine look_hit _ rfl _ _ rfl M _ X rfl hown.out n rfl HK.out (β p.n) HHAS.out HAT.out ?_))
      go_region
      go_wp2
      go_ret
      exact ⟨rfl, HEND.out _ rfl⟩
  | none =>
    have hhas : Maps.has X (.int .i64 n) = false := by rw [hm.has, hg]; rfl
    have hr : cutD A n size = (A, 4) := by unfold cutD; rw [hg]
    rw [hr]
    have HHAS := Lib.hid hhas; have HK := Lib.hid hk; have HH := Lib.hid h
    clear hm h hg hr hhas hk
    go_enter Tryz.func102, Tryz.ntmps102
    go_wp2_with (first | (at_lookup; refine look_miss _ rfl _ _ rfl M _ X rfl hown.out n rfl HK.out HHAS.out ?_))
    go_ret
    exact ⟨rfl, HH.out, Heap.Touch.refl _ _⟩

end
end Go.Proofs.YtbgchhgdlceceaaGreatDoor.Dsk

namespace Go.Proofs.YtbgchhgdlceceaaGreatDoor.Drw
open Go.RowKit Heap Dsk

/-- The drawer at block E, its papers in the blocks of G. -/
structure DrawAt (W : World) (G : Nat → Prop) (E : Nat) (room : Int) (A : List FileP) (w : World) : Prop where
  right : RightD room A
  below : Below W.heap.size W w
  newG : ∀ k, G k → W.heap.size ≤ k
  gE : G E
  mem : ∃ v, w.heap[E]? = some (.cells #[.int .i64 room, v] 84 (0, 0)) ∧ Row w 101 3 v A.length (plsV A) ∧ ∀ k, own v k → G k

/-- The drawer's cells, and one paper's. -/
theorem drawCells {E : Nat} {w : World} {t : TypeId} {a0 a1 : Value} (h : w.heap[E]? = some (.cells #[a0, a1] t (0, 0))) : w.cell? ⟨E, 0, none⟩ = some a0 ∧ w.cell? ⟨E, 1, none⟩ = some a1 ∧ ∀ j, w.frozen? ⟨E, j, none⟩ = false := twoC h

theorem ne_row {E n : Nat} {w : World} {v a0 a1 : Value} {xs : List Value} (h : w.heap[E]? = some (.cells #[a0, a1] 84 (0, 0))) (hr : Row w 101 3 v n xs) : ¬ own v E := fun ho => by
  rcases hr.2 with ⟨rfl, _⟩ | ⟨g, off, cap, cur, rfl, hg, _⟩
  · simp [own, Value.ownBlock] at ho
  · simp [own, Value.ownBlock] at ho
    subst ho
    rw [h] at hg
    simp at hg

namespace DrawAt
variable {W w w' : World} {G : Nat → Prop} {E : Nat} {room : Int} {A : List FileP}

theorem kept (h : DrawAt W G E room A w) (hb : Below W.heap.size W w') (hs : Same G w w') : DrawAt W G E room A w' := by
  obtain ⟨v, h1, h2, h3⟩ := h.mem
  exact ⟨h.right, hb, h.newG, h.gE, v, (hs E h.gE (heap_lt h1)).trans h1, h2.kept (fun k hk hlt => hs k (h3 k hk) hlt), h3⟩

theorem next (h : DrawAt W G E room A w) (hb : Below w.heap.size w w') : DrawAt W G E room A w' :=
  h.kept (h.below.trans (hb.mono h.below.size)) fun k _ hk => hb.block k hk

theorem mono {H : Nat → Prop} (h : DrawAt W G E room A w) (hH : ∀ k, G k → H k) (hn : ∀ k, H k → W.heap.size ≤ k) : DrawAt W H E room A w := by
  obtain ⟨v, h1, h2, h3⟩ := h.mem
  exact ⟨h.right, h.below, hn, hH _ h.gE, v, h1, h2, fun k hk => hH k (h3 k hk)⟩
end DrawAt

/-! ### at -/
/-- Where a file stands, or -1. -/
def idxF : List FileP → Int → Int
  | [], _ => -1
  | p :: r, n => if p.n = n then 0 else if idxF r n = -1 then -1 else idxF r n + 1

theorem idxF_cases : ∀ (A : List FileP) (n : Int), (idxF A n = -1 ∧ getF A n = none) ∨ ∃ (k : Nat) (p : FileP), idxF A n = (k : Int) ∧ A[k]? = some p ∧ p.n = n ∧ getF A n = some p ∧ ∀ y ∈ A.take k, y.n ≠ n
  | [], n => .inl ⟨rfl, rfl⟩
  | a :: r, n => by
    unfold idxF getF
    by_cases e : a.n = n
    · rw [if_pos e, if_pos e]
      exact .inr ⟨0, a, rfl, rfl, e, rfl, fun y h => by simp at h⟩
    · rw [if_neg e, if_neg e]
      rcases idxF_cases r n with ⟨h1, h2⟩ | ⟨k, p, h1, h2, h3, h4, h5⟩
      · rw [if_pos h1]; exact .inl ⟨rfl, h2⟩
      · rw [if_neg (by omega), h1]
        refine .inr ⟨k + 1, p, by omega, by simpa using h2, h3, h4, fun y hy => ?_⟩
        rw [List.take_succ_cons] at hy
        rcases List.mem_cons.1 hy with rfl | hy
        · exact e
        · exact h5 y hy

theorem tells_n (n : Int) (X : Nat) : Tells 183 #[.pointer (some ⟨X, 0, none⟩)] (fun p => p.n == n) (fun w => w.cell? ⟨X, 0, none⟩ = some (.int .i64 n)) := by
  intro W x hC
  show Calls Tryz.prog _ #[.agg #[.int .i64 x.n, .int .i64 (x.sure : Nat), .string ⟨x.text.toArray⟩], .pointer (some ⟨X, 0, none⟩)] W _
  have hX := World.block_lt_of_cell? W _ hC
  go_enter Tryz.func183, Tryz.ntmps183
  go_wp2
  go_ret
  exact ⟨rfl, (Below.refl _ _).alloc (Nat.le_refl _) _⟩

set_option maxHeartbeats 1000000 in
set_option maxRecDepth 100000 in
theorem at_any {W w : World} {G : Nat → Prop} {E : Nat} {room : Int} {A : List FileP} (h : DrawAt W G E room A w) (n : Int) :
    Calls Tryz.prog 118 #[.pointer (some ⟨E, 0, none⟩), .int .i64 n] w fun e w' => e = .returned (.int .i64 (idxF A n)) ∧ Below w.heap.size w w' := by
  obtain ⟨v, h1, h2, h3⟩ := h.mem
  obtain ⟨w1, hw1⟩ : ∃ w1, w1 = w.alloc (.cells #[.int .i64 n] 3) := ⟨_, rfl⟩
  have hb1 : Below w.heap.size w w1 := by rw [hw1]; exact (Below.refl _ _).alloc (Nat.le_refl _) _
  have hc : w1.cell? ⟨w.heap.size, 0, none⟩ = some (.int .i64 n) := by rw [hw1, World.cell?_alloc_at _ _ _ _ rfl]; rfl
  have hE1 := (hb1.block E (heap_lt h1)).trans h1
  obtain ⟨c0, c1, cf⟩ := twoC hE1
  have hr1 := h2.kept (w' := w1) fun k _ hk => hb1.block k hk
  have hlen := h.right.few
  have hidx := index_any 183 #[.pointer (some ⟨w.heap.size, 0, none⟩)] (fun p => p.n == n) (fun w => w.cell? ⟨_, 0, none⟩ = some (.int .i64 n)) (fun _ _ => rfl) v A w1 hr1 (by omega) hc
    (fun Wa Wb hCa ht => (ht.cell (World.block_lt_of_cell? Wa _ hCa) (fun ho => by have h4 : w.heap.size < w.heap.size := h2.lt _ ho; omega)).trans hCa) (tells_n n _) (idxF A n) (by
      rcases idxF_cases A n with ⟨e1, e2⟩ | ⟨k, p, e1, e2, e3, e4, e5⟩
      · exact .inl ⟨e1, fun x hx => by have := getF_none e2 x hx; simpa using this⟩
      · exact .inr ⟨k, p, e1, e2, by simpa using e3, fun y hy => by have := e5 y hy; simpa using this⟩)
  have HI := Lib.hid hidx; have HB := Lib.hid hb1
  clear h h1 h2 h3 hc hE1 hr1 hlen hidx hb1
  go_enter Tryz.func118, Tryz.ntmps118
  go_upto_region 1 with fail
  rw [← hw1]
  clear hw1
  go_wp2_with fail
  refine HI.out.mono ?_
  rintro e w' ⟨rfl, hb⟩
  have HF := Lib.hid (HB.out.trans (hb.mono HB.out.size))
  clear hb
  go_wp2
  go_ret
  exact ⟨rfl, HF.out⟩
end Go.Proofs.YtbgchhgdlceceaaGreatDoor.Drw
