/- Parts of the proof, joined: The disk's Cut, Remove and Append.; The disk's Remove and Append.; disk.New. -/
import Derived.Test.YtbgchhgdlceceaaGreatDoorPlansOwnUptoM31
import Derived.RegionTactic
import Derived.Deep.Cut
namespace Go.Proofs.YtbgchhgdlceceaaGreatDoor.Dsk
open Go.RowKit Go.Maps Heap

theorem text_of (l : List UInt8) : ∃ T : ByteArray, T = ⟨l.toArray⟩ ∧ T.size = l.length ∧ T.data.toList = l := ⟨_, rfl, by show l.toArray.size = _; rw [List.size_toArray], rfl⟩

theorem take_text {T : ByteArray} {l : List UInt8} (h : T.data.toList = l) (k : Nat) : (⟨(l.take k).toArray⟩ : ByteArray) = T.extract 0 k := by
  cases T with
  | mk d =>
    rw [ByteArray.extract_mk]
    apply ByteArray.ext
    apply Array.ext'
    rw [← h]
    simp

section
variable {W w : World} {F : Nat → Prop} {D : Nat} {room : Int} {A : List FileP}

/-- Both cells of a file and the sum are written. -/
theorem DiskAt.put {M : Nat} {β : Int → Nat} {X : DataW Unit} {w' : World} (h : DiskAt W F D room A w) (hm : DM F D M β X room A w) {n : Int} {p q : FileP} (hg : getF A n = some p) (hq : q.n = n) (hr : RightD room (setF A q)) (ht : Heap.Touch (fun k => k = D ∨ k = β p.n) w w')
    (hD : w'.heap[D]? = some (.cells #[.int .i64 room, .int .i64 (total (setF A q) : Nat), .map (some M)] 189 (0, 0)))
    (hB : w'.heap[β p.n]? = some (.cells #[.string ⟨q.text.toArray⟩, .int .i64 (q.sure : Nat)] 206 (0, 0))) : DiskAt W F D room (setF A q) w' ∧ Heap.Touch F w w' := by
  obtain ⟨hpn, hpm⟩ := getF_n hg
  have htF : Heap.Touch F w w' := ht.mono fun k _ e => by
    rcases e with rfl | rfl
    · exact hm.fD
    · exact hm.fF p hpm
  subst hq
  rw [hpn] at ht hB
  exact ⟨h.next hr htF h.newF ⟨M, β, X, hm.set h.right hg ht hD hB⟩, htF⟩

set_option maxHeartbeats 1000000 in
set_option maxRecDepth 100000 in
theorem cut_any (h : DiskAt W F D room A w) (n size : Int) (hk : -9223372036854775808 ≤ n ∧ n ≤ 9223372036854775807) : Calls Tryz.prog 102 #[.pointer (some ⟨D, 0, none⟩), .int .i64 n, .int .i64 size] w fun e w' => e = .returned (.int .i64 ((cutD A n size).2 : Nat)) ∧ DiskAt W F D room (cutD A n size).1 w' ∧ Heap.Touch F w w' := by
  obtain ⟨M, β, X, hm⟩ := h.mem
  obtain ⟨c0, c1, c2, cf⟩ := threeC hm.cells
  have hown := Lib.hid hm.own
  cases hg : getF A n with
  | some p =>
    obtain ⟨hpn, hpm⟩ := getF_n hg
    have hhas : Maps.has X (.int .i64 n) = true := by rw [hm.has, hg]; rfl
    have hat : ∀ z, X.atKey (.int .i64 n) z = .lit (.int .i64 (β p.n : Nat)) := fun z => by have := hm.at_ p hpm z; rw [hpn] at this; rw [hpn]; exact this
    have hf := hm.files p hpm
    obtain ⟨T, hT, hTs, hTl⟩ := text_of p.text
    rw [← hT] at hf
    obtain ⟨f0, f1, ff⟩ := twoC hf
    have hneDB := hm.neDF hpm
    have hlen := h.right.len hpm
    have hfit := h.right.fits; have hsm := h.right.small; have hle := le_total hpm
    by_cases hbad : size < 0 ∨ (p.text.length : Int) < size
    · have hr : cutD A n size = (A, 1) := by unfold cutD; rw [hg]; simp only; rw [if_pos hbad]
      rw [hr]
      have HHAS := Lib.hid hhas; have HAT := Lib.hid hat; have HK := Lib.hid hk; have HH := Lib.hid h
      rcases hbad with hb | hb
      · clear hm hg hr hhas hat hk hf hpm hpn h hle hT hTl hneDB hTs
        go_enter Tryz.func102, Tryz.ntmps102
        go_wp2_with (first | (at_lookup; refine look_hit _ rfl _ _ rfl M _ X rfl hown.out n rfl HK.out (β p.n) HHAS.out HAT.out ?_))
        go_ret
        exact ⟨rfl, HH.out, Heap.Touch.refl _ _⟩
      · have hb' : (T.size : Int) < size := by omega
        clear hm hg hr hhas hat hk hf hpm hpn h hle hT hTl hneDB hTs
        go_enter Tryz.func102, Tryz.ntmps102
        go_wp2_with (first | (at_lookup; refine look_hit _ rfl _ _ rfl M _ X rfl hown.out n rfl HK.out (β p.n) HHAS.out HAT.out ?_))
        go_ret
        exact ⟨rfl, HH.out, Heap.Touch.refl _ _⟩
    · obtain ⟨k, rfl⟩ : ∃ k : Nat, size = (k : Int) := ⟨size.toNat, by omega⟩
      have hkl : k ≤ T.size := by omega
      have hr : cutD A n k = (setF A ⟨n, p.text.take k, k⟩, 0) := by unfold cutD; rw [hg]; simp only; rw [if_neg hbad]; rfl
      rw [hr]
      have htk : (p.text.take k).length = k := by rw [List.length_take]; omega
      have htot : (total (setF A ⟨n, p.text.take k, k⟩) : Int) = (total A : Int) - (T.size - k) := by have := total_setF (q := ⟨n, p.text.take k, k⟩) h.right.sorted hg; simp only [htk] at this; omega
      have w1 : IntKind.i64.wrap ((T.size : Int) - k) = (T.size : Int) - k := IntWalk.i64_in _ (by omega)
      have w2 : IntKind.i64.wrap ((total A : Int) - ((T.size : Int) - k)) = (total A : Int) - ((T.size : Int) - k) := IntWalk.i64_in _ (by omega)
      have hend : ∀ w' : World, w' = (((w.setCell ⟨D, 1, none⟩ (.int .i64 ((total A : Int) - ((T.size : Int) - k)))).setCell ⟨β p.n, 0, none⟩ (.string (T.extract 0 k))).setCell ⟨β p.n, 1, none⟩ (.int .i64 k)).drew → DiskAt W F D room (setF A ⟨n, p.text.take k, k⟩) w' ∧ Heap.Touch F w w' := by
        rintro w' rfl
        refine h.put hm hg rfl (h.right.set hg _ rfl (by simp only [htk]; omega) (by simp only [htk]; omega)) ((((Heap.Touch.refl _ w).setCell (.inl (.inl rfl)) _).setCell (.inl (.inr rfl)) _).setCell (.inl (.inr rfl)) _).drew ?_ ?_
        · show (World.setCell _ _ _).heap[D]? = _
          rw [heap_setCell_other _ _ _ _ hneDB, heap_setCell_other _ _ _ _ hneDB, heap_setCell_same _ _ _ _ _ _ hm.cells, htot]; rfl
        · have f1 := heap_setCell_other w ⟨D, 1, none⟩ (β p.n) (.int .i64 ((total A : Int) - ((T.size : Int) - k))) (Ne.symm hneDB)
          have f2 := heap_setCell_same _ (β p.n) 0 _ _ (.string (T.extract 0 k)) (f1.trans hf)
          show (World.setCell _ _ _).heap[β p.n]? = _
          rw [heap_setCell_same _ _ _ _ _ _ f2]
          show _ = some (Obj.cells #[.string ⟨(p.text.take k).toArray⟩, .int .i64 (k : Nat)] _ _)
          rw [take_text hTl]; rfl
      have HHAS := Lib.hid hhas; have HAT := Lib.hid hat; have HK := Lib.hid hk; have HEND := Lib.hid hend
      clear hm h hg hr hhas hat hk hf hpm hpn hend htot hT hTl hle htk hbad hTs hlen hfit hsm
      go_enter Tryz.func102, Tryz.ntmps102
      go_wp2_with (first | (at_lookup; refine look_hit _ rfl _ _ rfl M _ X rfl hown.out n rfl HK.out (β p.n) HHAS.out HAT.out ?_))
      go_region
      go_wp2
      go_ret
      exact ⟨rfl, HEND.out _ rfl⟩
  | none =>
    have hhas : Maps.has X (.int .i64 n) = false := by rw [hm.has, hg]; rfl
    have hr : cutD A n size = (A, 4) := by unfold cutD; rw [hg]
    rw [hr]
    have HHAS := Lib.hid hhas; have HK := Lib.hid hk; have HH := Lib.hid h
    clear hm h hg hr hhas hk
    go_enter Tryz.func102, Tryz.ntmps102
    go_wp2_with (first | (at_lookup; refine look_miss _ rfl _ _ rfl M _ X rfl hown.out n rfl HK.out HHAS.out ?_))
    go_ret
    exact ⟨rfl, HH.out, Heap.Touch.refl _ _⟩

end
end Go.Proofs.YtbgchhgdlceceaaGreatDoor.Dsk

namespace Go.Proofs.YtbgchhgdlceceaaGreatDoor.Dsk
open Go.RowKit Go.Maps Heap

section
variable {W w : World} {F : Nat → Prop} {D : Nat} {room : Int} {A : List FileP}

set_option maxHeartbeats 1000000 in
set_option maxRecDepth 100000 in
theorem remove_any (h : DiskAt W F D room A w) (n : Int) (hk : -9223372036854775808 ≤ n ∧ n ≤ 9223372036854775807) : Calls Tryz.prog 105 #[.pointer (some ⟨D, 0, none⟩), .int .i64 n] w fun e w' => e = .returned (.int .i64 ((removeD A n).2 : Nat)) ∧ DiskAt W F D room (removeD A n).1 w' ∧ Heap.Touch F w w' := by
  obtain ⟨M, β, X, hm⟩ := h.mem
  obtain ⟨c0, c1, c2, cf⟩ := threeC hm.cells
  have hown := Lib.hid hm.own
  cases hg : getF A n with
  | some p =>
    obtain ⟨hpn, hpm⟩ := getF_n hg
    have hhas : Maps.has X (.int .i64 n) = true := by rw [hm.has, hg]; rfl
    have hat : ∀ z, X.atKey (.int .i64 n) z = .lit (.int .i64 (β p.n : Nat)) := fun z => by have := hm.at_ p hpm z; rw [hpn] at this; rw [hpn]; exact this
    have hf := hm.files p hpm
    obtain ⟨T, hT, hTs, hTl⟩ := text_of p.text
    rw [← hT] at hf
    obtain ⟨f0, f1, ff⟩ := twoC hf
    have hneDB := hm.neDF hpm
    have hneMD := hm.neDM.symm
    have hlen := h.right.len hpm
    have hfit := h.right.fits; have hsm := h.right.small; have hle := le_total hpm
    have hr : removeD A n = (delF A n, 0) := by unfold removeD; rw [hg]
    rw [hr]
    have htot : (total (delF A n) : Int) = (total A : Int) - T.size := by have := total_delF h.right.sorted hg; omega
    have w1 : IntKind.i64.wrap ((total A : Int) - (T.size : Int)) = (total A : Int) - (T.size : Int) := IntWalk.i64_in _ (by omega)
    have hend : ∀ wa wb : World, wa = (w.setCell ⟨D, 1, none⟩ (.int .i64 ((total A : Int) - (T.size : Int)))).drew → wb.ownsMap Tryz.prog 3 ptrElem M A.length (X.del (.int .i64 n)) → wa.mapTurned wb M → DiskAt W F D room (delF A n) wb ∧ Heap.Touch F w wb := by
      rintro wa wb rfl ho hturn
      have ht : Heap.Touch (fun k => k = D ∨ k = M) w wb := (((Heap.Touch.refl _ w).setCell (.inl (.inl rfl)) _).drew).grown hturn.grown (fun k e => .inl (.inr (by simp at e; exact e.symm)))
      have htF : Heap.Touch F w wb := ht.mono fun k _ e => by
        rcases e with rfl | rfl
        · exact hm.fD
        · exact hm.fM
      refine ⟨h.next (h.right.del hg) htF h.newF ⟨M, β, _, hm.del h.right hg ht ?_ ho⟩, htF⟩
      rw [hturn.grown.block D (by have := hm.ltD; simpa [World.setCell, World.drew] using this) (by simp; exact hneMD.symm)]
      show (World.setCell _ _ _).heap[D]? = _
      rw [heap_setCell_same _ _ _ _ _ _ hm.cells, htot]; rfl
    have hown2 : (w.setCell ⟨D, 1, none⟩ (.int .i64 ((total A : Int) - (T.size : Int)))).drew.ownsMap Tryz.prog 3 ptrElem M A.length X := ownsMap_of_block hm.own (by show (World.setCell _ _ _).heap[M]? = _; exact heap_setCell_other _ _ _ _ hneMD)
    have HHAS := Lib.hid hhas; have HAT := Lib.hid hat; have HK := Lib.hid hk; have HEND := Lib.hid hend; have HO2 := Lib.hid hown2
    clear hm h hg hr hhas hat hk hf hpm hpn hend htot hT hTl hle hTs hlen hfit hsm hown2
    go_enter Tryz.func105, Tryz.ntmps105
    go_wp2_with (first | (at_lookup; refine look_hit _ rfl _ _ rfl M _ X rfl hown.out n rfl HK.out (β p.n) HHAS.out HAT.out ?_))
    go_region
    go_wp2_with (first | (at_delete; refine wpList_delete_own _ rfl _ _ 187 3 rfl 204 keyLaw Tryz.underlying187 ptrElem M _ X rfl HO2.out _ _ rfl (key64 HK.out) ?_; intro wb hob hturn))
    go_ret
    exact ⟨rfl, HEND.out _ _ rfl hob hturn⟩
  | none =>
    have hhas : Maps.has X (.int .i64 n) = false := by rw [hm.has, hg]; rfl
    have hr : removeD A n = (A, 4) := by unfold removeD; rw [hg]
    rw [hr]
    have HHAS := Lib.hid hhas; have HK := Lib.hid hk; have HH := Lib.hid h
    clear hm h hg hr hhas hk
    go_enter Tryz.func105, Tryz.ntmps105
    go_wp2_with (first | (at_lookup; refine look_miss _ rfl _ _ rfl M _ X rfl hown.out n rfl HK.out HHAS.out ?_))
    go_ret
    exact ⟨rfl, HH.out, Heap.Touch.refl _ _⟩

end
end Go.Proofs.YtbgchhgdlceceaaGreatDoor.Dsk

namespace Go.Proofs.YtbgchhgdlceceaaGreatDoor.Dsk
open Go.RowKit Go.Maps Heap

section
variable {W w : World}

set_option maxRecDepth 100000 in
theorem new_good (hW : Below W.heap.size W w) (room : Int) (h1 : 1 ≤ room) (h2 : room ≤ 65536) : Calls Tryz.prog 40 #[.int .i64 room] w fun e w' => e = .returned (.tuple #[.pointer (some ⟨w.heap.size + 1, 0, none⟩), .int .i64 0]) ∧ DiskAt W (fun k => w.heap.size ≤ k) (w.heap.size + 1) room [] w' ∧ Below w.heap.size w w' := by
  have hsz := hW.size
  have hend : DiskAt W (fun k => w.heap.size ≤ k) (w.heap.size + 1) room [] ((w.alloc (.map #[] 0)).alloc (.cells #[.int .i64 room, .int .i64 0, .map (some w.heap.size)] 189)) ∧ Below w.heap.size w ((w.alloc (.map #[] 0)).alloc (.cells #[.int .i64 room, .int .i64 0, .map (some w.heap.size)] 189)) := by
    have hb : Below w.heap.size w ((w.alloc (.map #[] 0)).alloc (.cells #[.int .i64 room, .int .i64 0, .map (some w.heap.size)] 189)) := ((Below.refl _ _).alloc (Nat.le_refl _) _).alloc (by simp) _
    refine ⟨⟨⟨List.Pairwise.nil, by decide, by simp [total]; omega, h2, (fun _ h => by cases h), (fun _ h => by cases h)⟩, hW.trans (hb.mono hsz), fun k hk => Nat.le_trans hsz hk, w.heap.size, fun _ => 0, .map [], ?_⟩, hb⟩
    refine ⟨?_, ?_, rfl, fun k => rfl, (fun _ h => by cases h), (fun _ h => by cases h), (fun _ h => by cases h), Nat.le_succ _, Nat.le_refl _, (fun _ h => by cases h)⟩
    · have := heap_alloc_new (w.alloc (.map #[] 0)) (.cells #[.int .i64 room, .int .i64 0, .map (some w.heap.size)] 189)
      rw [show (w.alloc (.map #[] 0)).heap.size = w.heap.size + 1 from by simp] at this
      exact this
    · exact (World.ownsMap_made w Tryz.prog 3 ptrElem).alloc _
  have HEND := Lib.hid hend
  clear hend hW hsz
  have hmm := @run_makeMap Tryz.prog
  go_enter Tryz.func40, Tryz.ntmps40
  go_wp2
  go_ret2
  exact ⟨rfl, HEND.out⟩

end
end Go.Proofs.YtbgchhgdlceceaaGreatDoor.Dsk
