/- Parts of the proof, joined: The disk's Remove and Append.; disk.New.; The disk's List: its files' numbers, rising. -/
import Derived.Test.YtbgchhgdlceceaaGreatDoorStrmBaseM8
import Derived.Deep.Cut
import Derived.Maps.Ext
import Derived.Sort.OwnSortedInts
namespace Go.Proofs.YtbgchhgdlceceaaGreatDoor.Dsk
open Go.RowKit Go.Maps Heap

section
variable {W w : World} {F : Nat → Prop} {D : Nat} {room : Int} {A : List FileP}

set_option maxHeartbeats 1000000 in
set_option maxRecDepth 100000 in
theorem remove_any (h : DiskAt W F D room A w) (n : Int) (hk : -9223372036854775808 ≤ n ∧ n ≤ 9223372036854775807) : Calls Tryz.prog 105 #[.pointer (some ⟨D, 0, none⟩), .int .i64 n] w fun e w' => e = .returned (.int .i64 ((removeD A n).2 : Nat)) ∧ DiskAt W F D room (removeD A n).1 w' ∧ Heap.Touch F w w' := by
  obtain ⟨M, β, X, hm⟩ := h.mem
  obtain ⟨c0, c1, c2, cf⟩ := threeC hm.cells
  have hown := Lib.hid hm.own
  cases hg : getF A n with
  | some p =>
    obtain ⟨hpn, hpm⟩ := getF_n hg
    have hhas : Maps.has X (.int .i64 n) = true := by rw [hm.has, hg]; rfl
    have hat : ∀ z, X.atKey (.int .i64 n) z = .lit (.int .i64 (β p.n : Nat)) := fun z => by have := hm.at_ p hpm z; rw [hpn] at this; rw [hpn]; exact this
    have hf := hm.files p hpm
    obtain ⟨T, hT, hTs, hTl⟩ := text_of p.text
    rw [← hT] at hf
    obtain ⟨f0, f1, ff⟩ := twoC hf
    have hneDB := hm.neDF hpm
    have hneMD := hm.neDM.symm
    have hlen := h.right.len hpm
    have hfit := h.right.fits; have hsm := h.right.small; have hle := le_total hpm
    have hr : removeD A n = (delF A n, 0) := by unfold removeD; rw [hg]
    rw [hr]
    have htot : (total (delF A n) : Int) = (total A : Int) - T.size := by have := total_delF h.right.sorted hg; omega
    have w1 : IntKind.i64.wrap ((total A : Int) - (T.size : Int)) = (total A : Int) - (T.size : Int) := IntWalk.i64_in _ (by omega)
    have hend : ∀ wa wb : World, wa = (w.setCell ⟨D, 1, none⟩ (.int .i64 ((total A : Int) - (T.size : Int)))).drew → wb.ownsMap Tryz.prog 3 ptrElem M A.length (X.del (.int .i64 n)) → wa.mapTurned wb M → DiskAt W F D room (delF A n) wb ∧ Heap.Touch F w wb := by
      rintro wa wb rfl ho hturn
      have ht : Heap.Touch (fun k => k = D ∨ k = M) w wb := (((Heap.Touch.refl _ w).setCell (.inl (.inl rfl)) _).drew).grown hturn.grown (fun k e => .inl (.inr (by simp at e; exact e.symm)))
      have htF : Heap.Touch F w wb := ht.mono fun k _ e => by
        rcases e with rfl | rfl
        · exact hm.fD
        · exact hm.fM
      refine ⟨h.next (h.right.del hg) htF h.newF ⟨M, β, _, hm.del h.right hg ht ?_ ho⟩, htF⟩
      rw [hturn.grown.block D (by have := hm.ltD; simpa [World.setCell, World.drew] using this) (by simp; exact hneMD.symm)]
      show (World.setCell _ _ _).heap[D]? = _
      rw [heap_setCell_same _ _ _ _ _ _ hm.cells, htot]; rfl
    have hown2 : (w.setCell ⟨D, 1, none⟩ (.int .i64 ((total A : Int) - (T.size : Int)))).drew.ownsMap Tryz.prog 3 ptrElem M A.length X := ownsMap_of_block hm.own (by show (World.setCell _ _ _).heap[M]? = _; exact heap_setCell_other _ _ _ _ hneMD)
    have HHAS := Lib.hid hhas; have HAT := Lib.hid hat; have HK := Lib.hid hk; have HEND := Lib.hid hend; have HO2 := Lib.hid hown2
    clear hm h hg hr hhas hat hk hf hpm hpn hend htot hT hTl hle hTs hlen hfit hsm hown2
    go_enter Tryz.func105, Tryz.ntmps105
    go_wp2_with (first | (at_lookup; refine look_hit _ rfl _ _ rfl M _ X rfl hown.out n rfl HK.out (β p.n) HHAS.out HAT.out ?_))
    go_region
    go_wp2_with (first | (at_delete; refine wpList_delete_own _ rfl _ _ 187 3 rfl 204 keyLaw Tryz.underlying187 ptrElem M _ X rfl HO2.out _ _ rfl (key64 HK.out) ?_; intro wb hob hturn))
    go_ret
    exact ⟨rfl, HEND.out _ _ rfl hob hturn⟩
  | none =>
    have hhas : Maps.has X (.int .i64 n) = false := by rw [hm.has, hg]; rfl
    have hr : removeD A n = (A, 4) := by unfold removeD; rw [hg]
    rw [hr]
    have HHAS := Lib.hid hhas; have HK := Lib.hid hk; have HH := Lib.hid h
    clear hm h hg hr hhas hk
    go_enter Tryz.func105, Tryz.ntmps105
    go_wp2_with (first | (at_lookup; refine look_miss _ rfl _ _ rfl M _ X rfl hown.out n rfl HK.out HHAS.out ?_))
    go_ret
    exact ⟨rfl, HH.out, Heap.Touch.refl _ _⟩

set_option maxHeartbeats 1000000 in
set_option maxRecDepth 100000 in
/-- A file that is there grows, or the disk is full. -/
theorem append_hit (h : DiskAt W F D room A w) (n : Int) (s : ByteArray) (hk : -9223372036854775808 ≤ n ∧ n ≤ 9223372036854775807) (hs : s.size ≤ 9223372036854775807) {p : FileP} (hg : getF A n = some p) : Calls Tryz.prog 100 #[.pointer (some ⟨D, 0, none⟩), .int .i64 n, .string s] w fun e w' => e = .returned (.int .i64 ((appD room A n s.data.toList).2 : Nat)) ∧ DiskAt W F D room (appD room A n s.data.toList).1 w' ∧ Heap.Touch F w w' := by
  obtain ⟨M, β, X, hm⟩ := h.mem
  obtain ⟨c0, c1, c2, cf⟩ := threeC hm.cells
  have hown := Lib.hid hm.own
  obtain ⟨hpn, hpm⟩ := getF_n hg
  have hhas : Maps.has X (.int .i64 n) = true := by rw [hm.has, hg]; rfl
  have hat : ∀ z, X.atKey (.int .i64 n) z = .lit (.int .i64 (β p.n : Nat)) := fun z => by have := hm.at_ p hpm z; rw [hpn] at this; rw [hpn]; exact this
  have hf := hm.files p hpm
  obtain ⟨T, hT, hTs, hTl⟩ := text_of p.text
  rw [← hT] at hf
  obtain ⟨f0, f1, ff⟩ := twoC hf
  have hneDB := hm.neDF hpm
  have hlen := h.right.len hpm
  have hfit := h.right.fits; have hsm := h.right.small; have hle := le_total hpm
  have hnum := h.right.num p hpm
  rw [hpn] at hnum
  have n1 : ¬ n < 0 := by omega
  have n2 : ¬ (1099511627776 : Int) < n := by omega
  have hsl : s.data.toList.length = s.size := rfl
  have w0 : IntKind.i64.wrap (room - (total A : Int)) = room - (total A : Int) := IntWalk.i64_in _ (by omega)
  have HHAS := Lib.hid hhas; have HAT := Lib.hid hat; have HK := Lib.hid hk
  by_cases hfull : room - (total A : Int) < s.size
  · have hr : appD room A n s.data.toList = (A, 8) := by unfold appD; rw [if_neg (by omega), if_pos (by rw [hsl]; exact hfull)]
    rw [hr]
    have HH := Lib.hid h
    clear hm hg hr hhas hat hk hf hpm hpn h hle hT hTl hneDB hTs hsl hnum
    go_enter Tryz.func100, Tryz.ntmps100
    go_wp2_with (first | (at_lookup; refine look_hit _ rfl _ _ rfl M _ X rfl hown.out n rfl HK.out (β p.n) HHAS.out HAT.out ?_))
    go_region
    go_wp2
    go_ret
    exact ⟨rfl, HH.out.kept (Below.refl _ _).drew (fun _ _ _ => rfl), (Heap.Touch.refl _ _).drew⟩
  · have hr : appD room A n s.data.toList = (setF A ⟨n, p.text ++ s.data.toList, p.sure⟩, 0) := by unfold appD; rw [if_neg (by omega), if_neg (by rw [hsl]; exact hfull), hg]
    rw [hr]
    have htl : (p.text ++ s.data.toList).length = T.size + s.size := by rw [List.length_append, hsl, hTs]
    have htot : (total (setF A ⟨n, p.text ++ s.data.toList, p.sure⟩) : Int) = (total A : Int) + s.size := by have := total_setF (q := ⟨n, p.text ++ s.data.toList, p.sure⟩) h.right.sorted hg; simp only [htl] at this; omega
    have w1 : IntKind.i64.wrap ((total A : Int) + (s.size : Int)) = (total A : Int) + (s.size : Int) := IntWalk.i64_in _ (by omega)
    have hend : ∀ w' : World, w' = ((w.drew.setCell ⟨β p.n, 0, none⟩ (.string (T ++ s))).setCell ⟨D, 1, none⟩ (.int .i64 ((total A : Int) + (s.size : Int)))) → DiskAt W F D room (setF A ⟨n, p.text ++ s.data.toList, p.sure⟩) w' ∧ Heap.Touch F w w' := by
      rintro w' rfl
      have hsu := h.right.sure p hpm
      refine h.put hm hg rfl (h.right.set hg _ rfl (by simp only [htl]; omega) (by simp only [htl]; omega)) (((Heap.Touch.refl _ w).drew.setCell (.inl (.inr rfl)) _).setCell (.inl (.inl rfl)) _) ?_ ?_
      · have f1 := heap_setCell_other w.drew ⟨β p.n, 0, none⟩ D (.string (T ++ s)) hneDB
        rw [heap_setCell_same _ _ _ _ _ _ (f1.trans hm.cells), htot]; rfl
      · have f1 := heap_setCell_same w.drew (β p.n) 0 _ _ (.string (T ++ s)) hf
        rw [heap_setCell_other _ _ _ _ (Ne.symm hneDB), f1]
        show _ = some (Obj.cells #[.string ⟨(p.text ++ s.data.toList).toArray⟩, .int .i64 (p.sure : Nat)] _ _)
        rw [app_text hTl rfl]; rfl
    have HEND := Lib.hid hend
    have hcat : T.size + s.size ≤ 1114112 := by omega
    clear hm h hg hr hhas hat hk hf hpm hpn hend htot hT hTl hle hTs hsl htl hnum
    go_enter Tryz.func100, Tryz.ntmps100
    go_wp2_with (first | (at_lookup; refine look_hit _ rfl _ _ rfl M _ X rfl hown.out n rfl HK.out (β p.n) HHAS.out HAT.out ?_))
    go_region
    go_wp2
    go_ret
    exact ⟨rfl, HEND.out _ rfl⟩

set_option maxHeartbeats 1000000 in
set_option maxRecDepth 100000 in
/-- A file that isn't there: an error, or it is made. -/
theorem append_miss (h : DiskAt W F D room A w) (n : Int) (s : ByteArray) (hk : -9223372036854775808 ≤ n ∧ n ≤ 9223372036854775807) (hs : s.size ≤ 9223372036854775807) (hg : getF A n = none) : Calls Tryz.prog 100 #[.pointer (some ⟨D, 0, none⟩), .int .i64 n, .string s] w fun e w' => e = .returned (.int .i64 ((appD room A n s.data.toList).2 : Nat)) ∧ DiskAt W (Grow F w) D room (appD room A n s.data.toList).1 w' ∧ Heap.Touch F w w' := by
  obtain ⟨M, β, X, hm⟩ := h.mem
  obtain ⟨c0, c1, c2, cf⟩ := threeC hm.cells
  have hown := Lib.hid hm.own
  have hhas : Maps.has X (.int .i64 n) = false := by rw [hm.has, hg]; rfl
  have hneDM := hm.neDM
  have hfit := h.right.fits; have hsm := h.right.small; have hfew := h.right.few
  have hsl : s.data.toList.length = s.size := rfl
  have w0 : IntKind.i64.wrap (room - (total A : Int)) = room - (total A : Int) := IntWalk.i64_in _ (by omega)
  have HHAS := Lib.hid hhas; have HK := Lib.hid hk
  have HH := Lib.hid h
  have HM := Lib.hid hm
  have hG := Lib.hid (h.mono (G := Grow F w) (fun k hk => .inl hk) (Grow.new h))
  by_cases hlo : n < 0
  · have hr : appD room A n s.data.toList = (A, 1) := by unfold appD; rw [if_pos (.inl hlo)]
    rw [hr]
    clear hm hg hr hhas hk h hneDM hsl
    go_enter Tryz.func100, Tryz.ntmps100
    go_wp2_with (first | (at_lookup; refine look_miss _ rfl _ _ rfl M _ X rfl hown.out n rfl HK.out HHAS.out ?_))
    go_ret
    exact ⟨rfl, hG.out, Heap.Touch.refl _ _⟩
  · by_cases hhi : (1099511627776 : Int) < n
    · have hr : appD room A n s.data.toList = (A, 1) := by unfold appD; rw [if_pos (.inr hhi)]
      rw [hr]
      clear hm hg hr hhas hk h hneDM hsl
      go_enter Tryz.func100, Tryz.ntmps100
      go_wp2_with (first | (at_lookup; refine look_miss _ rfl _ _ rfl M _ X rfl hown.out n rfl HK.out HHAS.out ?_))
      go_ret
      exact ⟨rfl, hG.out, Heap.Touch.refl _ _⟩
    · have hfirst : ¬ (n < 0 ∨ (1099511627776 : Int) < n) := by omega
      by_cases hfull : room - (total A : Int) < s.size
      · have hr : appD room A n s.data.toList = (A, 8) := by unfold appD; rw [if_neg hfirst, if_pos (by rw [hsl]; exact hfull)]
        rw [hr]
        clear hm hg hr hhas hk h hneDM hsl hfirst
        go_enter Tryz.func100, Tryz.ntmps100
        go_wp2_with (first | (at_lookup; refine look_miss _ rfl _ _ rfl M _ X rfl hown.out n rfl HK.out HHAS.out ?_))
        go_region
        go_wp2
        go_ret
        exact ⟨rfl, hG.out.kept (Below.refl _ _).drew (fun _ _ _ => rfl), (Heap.Touch.refl _ _).drew⟩
      · have hlm : ∀ ty, (Builtin.len_ #[187] ty #[.map (some M)]).run Tryz.prog w.drew = .ok (.int .i64 (A.length : Nat)) w.drew := fun ty => by
          have := (ownsMap_of_block (w' := w.drew) hm.own rfl).len Tryz.underlying187 ty
          rw [hm.size] at this; exact this
        by_cases h20 : A.length = 20
        · have hr : appD room A n s.data.toList = (A, 8) := by unfold appD; rw [if_neg hfirst, if_neg (by rw [hsl]; exact hfull), hg]; simp only; rw [if_pos h20]
          rw [hr]
          rw [h20] at hlm
          clear hm hg hr hhas hk h hneDM hsl hfirst hfew h20
          go_enter Tryz.func100, Tryz.ntmps100
          go_wp2_with (first | (at_lookup; refine look_miss _ rfl _ _ rfl M _ X rfl hown.out n rfl HK.out HHAS.out ?_))
          go_region
          go_wp2
          go_ret
          exact ⟨rfl, hG.out.kept (Below.refl _ _).drew (fun _ _ _ => rfl), (Heap.Touch.refl _ _).drew⟩
        · have hr : appD room A n s.data.toList = (insF A ⟨n, s.data.toList, 0⟩, 0) := by unfold appD; rw [if_neg hfirst, if_neg (by rw [hsl]; exact hfull), hg]; simp only; rw [if_neg h20]
          rw [hr]
          have h20b : ((A.length : Int) == 20) = false := by simp; omega
          have w1 : IntKind.i64.wrap ((total A : Int) + (s.size : Int)) = (total A : Int) + (s.size : Int) := IntWalk.i64_in _ (by omega)
          have hroom : A.length < maxLen := by unfold maxLen; omega
          have hraise : RightD room (insF A ⟨n, s.data.toList, 0⟩) := h.right.ins hg (by omega) (by omega) h20 (by rw [hsl]; omega)
          have htot : (total (insF A ⟨n, s.data.toList, 0⟩) : Int) = (total A : Int) + s.size := by rw [total_insF]; simp only [hsl]; omega
          obtain ⟨w2, hw2⟩ : ∃ w2, w2 = (w.alloc (.cells #[.string ⟨#[]⟩, .int .i64 0] 206)).drew := ⟨_, rfl⟩
          have hheap : w2.heap = w.heap.push (.cells #[.string ⟨#[]⟩, .int .i64 0] 206) := by rw [hw2]; rfl
          have hsz2 : w2.heap.size = w.heap.size + 1 := by rw [hheap, Array.size_push]
          have hN2 : w2.heap[w.heap.size]? = some (.cells #[.string ⟨#[]⟩, .int .i64 0] 206 (0, 0)) := by rw [hheap, Array.getElem?_push_size]
          have hold2 : ∀ k, k < w.heap.size → w2.heap[k]? = w.heap[k]? := fun k hk => by rw [hheap, Array.getElem?_push_lt hk, Array.getElem?_eq_getElem hk]
          have hown2 : w2.ownsMap Tryz.prog 3 ptrElem M A.length X := ownsMap_of_block hm.own (hold2 M hm.ltM)
          have hend : ∀ wb : World, wb.ownsMap Tryz.prog 3 ptrElem M (A.length + 1) (X.put (.int .i64 n) (.lit (.int .i64 (w.heap.size : Nat)))) → w2.mapTurned wb M → DiskAt W (Grow F w) D room (insF A ⟨n, s.data.toList, 0⟩) ((wb.setCell ⟨w.heap.size, 0, none⟩ (.string s)).setCell ⟨D, 1, none⟩ (.int .i64 ((total A : Int) + (s.size : Int)))) ∧ Heap.Touch F w ((wb.setCell ⟨w.heap.size, 0, none⟩ (.string s)).setCell ⟨D, 1, none⟩ (.int .i64 ((total A : Int) + (s.size : Int)))) := by
            intro wb ho hturn
            have hwb : Heap.Touch (fun k => k = D ∨ k = M) w wb := by
              rw [hw2] at hturn
              exact (((Heap.Touch.refl _ w).alloc _).drew).grown hturn.grown (fun k e => .inl (.inr (by simp at e; exact e.symm)))
            have hneN : D ≠ w.heap.size := Nat.ne_of_lt hm.ltD
            have hneM : M ≠ w.heap.size := Nat.ne_of_lt hm.ltM
            have ht : Heap.Touch (fun k => k = D ∨ k = M) w ((wb.setCell ⟨w.heap.size, 0, none⟩ (.string s)).setCell ⟨D, 1, none⟩ (.int .i64 ((total A : Int) + (s.size : Int)))) := (hwb.setCell (.inr (Nat.le_refl _)) _).setCell (.inl (.inl rfl)) _
            have htF : Heap.Touch F w ((wb.setCell ⟨w.heap.size, 0, none⟩ (.string s)).setCell ⟨D, 1, none⟩ (.int .i64 ((total A : Int) + (s.size : Int)))) := ht.mono fun k _ e => by
              rcases e with rfl | rfl
              · exact hm.fD
              · exact hm.fM
            have hbD : wb.heap[D]? = some (.cells #[.int .i64 room, .int .i64 (total A : Nat), .map (some M)] 189 (0, 0)) := by
              rw [hturn.grown.block D (by have := hm.ltD; omega) (by simp; exact hneDM), hold2 D hm.ltD]
              exact hm.cells
            have hbN : wb.heap[w.heap.size]? = some (.cells #[.string ⟨#[]⟩, .int .i64 0] 206 (0, 0)) := by
              rw [hturn.grown.block w.heap.size (by omega) (by simp; exact hneM.symm)]
              exact hN2
            refine ⟨h.next hraise htF (Grow.new h) ⟨M, _, _, hm.ins (q := ⟨n, s.data.toList, 0⟩) h.right hg (Nat.le_refl w.heap.size) ht ?_ ?_ ?_⟩, htF⟩
            · have f1 := heap_setCell_other wb ⟨w.heap.size, 0, none⟩ D (.string s) hneN
              rw [heap_setCell_same _ _ _ _ _ _ (f1.trans hbD), htot]; rfl
            · refine ownsMap_of_block ho ?_
              rw [heap_setCell_other _ _ _ _ (Ne.symm hneDM), heap_setCell_other _ _ _ _ hneM]
            · have f1 := heap_setCell_same wb w.heap.size 0 _ _ (.string s) hbN
              rw [heap_setCell_other _ _ _ _ (Ne.symm hneN), f1]; rfl
          have hcells : ∀ wb : World, w2.mapTurned wb M → wb.cell? ⟨w.heap.size, 0, none⟩ = some (.string ⟨#[]⟩) ∧ (∀ j, wb.frozen? ⟨w.heap.size, j, none⟩ = false) ∧ wb.cell? ⟨D, 1, none⟩ = some (.int .i64 (total A : Nat)) ∧ ∀ j, wb.frozen? ⟨D, j, none⟩ = false := by
            intro wb hturn
            have hneM : M ≠ w.heap.size := Nat.ne_of_lt hm.ltM
            have hbD : wb.heap[D]? = some (.cells #[.int .i64 room, .int .i64 (total A : Nat), .map (some M)] 189 (0, 0)) := by
              rw [hturn.grown.block D (by have := hm.ltD; omega) (by simp; exact hneDM), hold2 D hm.ltD]
              exact hm.cells
            have hbN : wb.heap[w.heap.size]? = some (.cells #[.string ⟨#[]⟩, .int .i64 0] 206 (0, 0)) := by
              rw [hturn.grown.block w.heap.size (by omega) (by simp; exact hneM.symm)]
              exact hN2
            obtain ⟨a1, _, a3⟩ := twoC hbN
            obtain ⟨_, b2, _, b4⟩ := threeC hbD
            exact ⟨a1, a3, b2, b4⟩
          have hneN : D ≠ w.heap.size := Nat.ne_of_lt hm.ltD
          have d2 : w2.cell? ⟨D, 2, none⟩ = some (.map (some M)) := (World.cell?_of_block (a := ⟨D, 2, none⟩) (hold2 D hm.ltD)).trans c2
          have HEND := Lib.hid hend; have HO2 := Lib.hid hown2; have HC := Lib.hid hcells
          clear hm hg hr hhas hk h hsl hfirst hfew h20 hend hown2 hcells hraise htot hheap hsz2 hN2 hold2
          go_enter Tryz.func100, Tryz.ntmps100
          go_wp2_with (first | (at_lookup; refine look_miss _ rfl _ _ rfl M _ X rfl hown.out n rfl HK.out HHAS.out ?_))
          go_region
          go_upto_region 9 with fail
          rw [← hw2]
          have HW2 := Lib.hid hw2
          clear hw2
          go_wp2_with (first | (at_mapUpdate; refine wpList_mapUpdate_in _ rfl _ _ _ 187 rfl 3 204 keyLaw Tryz.underlying187 ptrElem M _ X rfl HO2.out hroom _ _ _ rfl rfl (key64 HK.out) _ [] rfl ?_; intro wb hob hturn; obtain ⟨g1, g2, g3, g4⟩ := HC.out _ hturn))
          go_ret
          exact ⟨rfl, HEND.out _ hob hturn⟩

theorem append_any (h : DiskAt W F D room A w) (n : Int) (s : ByteArray) (hk : -9223372036854775808 ≤ n ∧ n ≤ 9223372036854775807) (hs : s.size ≤ 9223372036854775807) : Calls Tryz.prog 100 #[.pointer (some ⟨D, 0, none⟩), .int .i64 n, .string s] w fun e w' => e = .returned (.int .i64 ((appD room A n s.data.toList).2 : Nat)) ∧ DiskAt W (Grow F w) D room (appD room A n s.data.toList).1 w' ∧ Heap.Touch F w w' := by
  cases hg : getF A n with
  | some p => exact (append_hit h n s hk hs hg).mono fun e w' ⟨a, b, c⟩ => ⟨a, b.mono (fun k hk => .inl hk) (Grow.new h), c⟩
  | none => exact append_miss h n s hk hs hg
end
end Go.Proofs.YtbgchhgdlceceaaGreatDoor.Dsk

namespace Go.Proofs.YtbgchhgdlceceaaGreatDoor.Dsk
open Go.RowKit Go.Maps Heap

section
variable {W w : World}

set_option maxRecDepth 100000 in
theorem new_good (hW : Below W.heap.size W w) (room : Int) (h1 : 1 ≤ room) (h2 : room ≤ 65536) : Calls Tryz.prog 40 #[.int .i64 room] w fun e w' => e = .returned (.tuple #[.pointer (some ⟨w.heap.size + 1, 0, none⟩), .int .i64 0]) ∧ DiskAt W (fun k => w.heap.size ≤ k) (w.heap.size + 1) room [] w' ∧ Below w.heap.size w w' := by
  have hsz := hW.size
  have hend : DiskAt W (fun k => w.heap.size ≤ k) (w.heap.size + 1) room [] ((w.alloc (.map #[] 0)).alloc (.cells #[.int .i64 room, .int .i64 0, .map (some w.heap.size)] 189)) ∧ Below w.heap.size w ((w.alloc (.map #[] 0)).alloc (.cells #[.int .i64 room, .int .i64 0, .map (some w.heap.size)] 189)) := by
    have hb : Below w.heap.size w ((w.alloc (.map #[] 0)).alloc (.cells #[.int .i64 room, .int .i64 0, .map (some w.heap.size)] 189)) := ((Below.refl _ _).alloc (Nat.le_refl _) _).alloc (by simp) _
    refine ⟨⟨⟨List.Pairwise.nil, by decide, by simp [total]; omega, h2, (fun _ h => by cases h), (fun _ h => by cases h)⟩, hW.trans (hb.mono hsz), fun k hk => Nat.le_trans hsz hk, w.heap.size, fun _ => 0, .map [], ?_⟩, hb⟩
    refine ⟨?_, ?_, rfl, fun k => rfl, (fun _ h => by cases h), (fun _ h => by cases h), (fun _ h => by cases h), Nat.le_succ _, Nat.le_refl _, (fun _ h => by cases h)⟩
    · have := heap_alloc_new (w.alloc (.map #[] 0)) (.cells #[.int .i64 room, .int .i64 0, .map (some w.heap.size)] 189)
      rw [show (w.alloc (.map #[] 0)).heap.size = w.heap.size + 1 from by simp] at this
      exact this
    · exact (World.ownsMap_made w Tryz.prog 3 ptrElem).alloc _
  have HEND := Lib.hid hend
  clear hend hW hsz
  have hmm := @run_makeMap Tryz.prog
  go_enter Tryz.func40, Tryz.ntmps40
  go_wp2
  go_ret2
  exact ⟨rfl, HEND.out⟩

set_option maxRecDepth 100000 in
theorem new_bad (room : Int) (h : ¬ (1 ≤ room ∧ room ≤ 65536)) : Calls Tryz.prog 40 #[.int .i64 room] w fun e w' => e = .returned (.tuple #[.pointer none, .int .i64 1]) ∧ w = w' := by
  by_cases h1 : room < 1
  · clear h
    go_enter Tryz.func40, Tryz.ntmps40
    go_wp2
    go_ret2
    exact ⟨rfl, rfl⟩
  · have h2 : 65536 < room := by omega
    have h1' : ¬ room < 1 := h1
    clear h
    go_enter Tryz.func40, Tryz.ntmps40
    go_wp2
    go_ret2
    exact ⟨rfl, rfl⟩
end
end Go.Proofs.YtbgchhgdlceceaaGreatDoor.Dsk

namespace Go.Proofs.YtbgchhgdlceceaaGreatDoor.Dsk
open Go.RowKit Go.Maps Heap

/-! ### what was collected -/
def CollI (X : DataW Unit) (left : Lit → Bool) (ss : List Int) : Prop := ss.Nodup ∧ ∀ x : Int, x ∈ ss ↔ (Maps.has X (.int .i64 x) = true ∧ left (.int .i64 x) = false)

theorem CollI.start (X : DataW Unit) : CollI X (Maps.has X) [] := ⟨List.nodup_nil, fun x => by cases Maps.has X (.int .i64 x) <;> simp⟩

theorem CollI.step {X : DataW Unit} {left : Lit → Bool} {ss : List Int} (h : CollI X left ss) {x : Int} {y : DataW Unit} (hlk : left (.int .i64 x) = true) (hat : ∀ zd, X.atKey (.int .i64 x) zd = y) : CollI X (fun z => left z && !z.sameKey (.int .i64 x)) (ss ++ [x]) := by
  have hhas : Maps.has X (.int .i64 x) = true := has_true_of_atKey hat
  have hnew : x ∉ ss := fun hx => by have := ((h.2 x).1 hx).2; rw [hlk] at this; cases this
  refine ⟨List.nodup_append.2 ⟨h.1, by simp, fun a ha b hb => by simp at hb; subst hb; exact fun e => hnew (e ▸ ha)⟩, fun y => ?_⟩
  by_cases hy : y = x
  · subst hy; simp [hhas, Lit.sameKey]
  · simp [h.2 y, hy, Lit.sameKey]

theorem CollI.perm {F : Nat → Prop} {D M : Nat} {β : Int → Nat} {X : DataW Unit} {room : Int} {A : List FileP} {w : World} {left : Lit → Bool} {ss : List Int} (h : CollI X left ss) (hm : DM F D M β X room A w) (hs : Sorted A) (hl : ∀ kl, left kl = false) : ss.Perm (A.map (·.n)) := by
  refine (List.perm_ext_iff_of_nodup h.1 ?_).2 fun x => ?_
  · exact (sorted_iff.1 hs).imp fun {a b} hab e => by subst e; omega
  · rw [h.2 x, hl, hm.has]
    constructor
    · rintro ⟨h1, _⟩
      obtain ⟨p, hp⟩ := Option.isSome_iff_exists.1 h1
      obtain ⟨e, hm⟩ := getF_n hp
      exact List.mem_map.2 ⟨p, hm, e⟩
    · intro h1
      obtain ⟨p, hp, rfl⟩ := List.mem_map.1 h1
      exact ⟨by rw [getF_mem hs hp]; rfl, rfl⟩

theorem sort_perm {A : List FileP} {ss : List Int} (hs : Sorted A) (h : ss.Perm (A.map (·.n))) : (ss.mergeSort fun x y => decide (x ≤ y)) = A.map (·.n) := by
  refine List.Perm.eq_of_pairwise (le := fun a b : Int => a ≤ b) (fun a b _ _ h1 h2 => by omega) ?_ ?_ ((List.mergeSort_perm ss _).trans h)
  · exact (List.pairwise_mergeSort (le := fun x y : Int => decide (x ≤ y)) (fun a b c h1 h2 => by simp only [decide_eq_true_eq] at *; omega) (fun a b => by simp only [Bool.or_eq_true, decide_eq_true_eq]; omega) ss).imp fun {a b} hab => by simpa using hab
  · exact (sorted_iff.1 hs).imp fun {a b} hab => by omega

/-! ### a sort of no element -/
theorem ins_nil (p : Option Addr) (cap : Nat) (w : World) : Calls Tryz.prog 237 #[.slice p 0 cap, .int .i64 0, .int .i64 0] w fun e w' => e = .returned (.tuple #[]) ∧ w' = w := by
  go_enter Tryz.func237, Tryz.ntmps237
  go_wp2
  refine wp_loop_rounds 1 ?_
  rw [rounds_succ]
  go_wp2
  go_end0
  exact ⟨rfl, rfl⟩

set_option maxRecDepth 100000 in
theorem pdq_nil (p : Option Addr) (cap : Nat) (w : World) : Calls Tryz.prog 213 #[.slice p 0 cap, .int .i64 0, .int .i64 0, .int .i64 0] w fun e w' => e = .returned (.tuple #[]) ∧ w' = w := by
  go_enter Tryz.func213, Tryz.ntmps213
  go_wp2
  refine wp_loop_rounds 1 ?_
  rw [rounds_succ]
  go_wp2_with (first | (go_at_call 237; refine (ins_nil p cap _).mono ?_; rintro e w' ⟨rfl, rfl⟩))
  refine bodyPost_ret (results_none rfl _ _ _) rfl ?_
  exact ⟨rfl, rfl⟩

set_option maxRecDepth 100000 in
theorem len_zero (w : World) : Calls Tryz.prog 214 #[.int .u64 0] w fun e w' => e = .returned (.int .i64 0) ∧ w' = w := by
  have h64 := Tryz.bits_Len64 0 w (by omega) (by omega)
  rw [show Lib.bitLen (0 : Int).toNat = 0 from by decide] at h64
  go_enter Tryz.func214, Tryz.ntmps214
  go_wp2_with (go_at_call 247; refine h64.mono ?_; rintro e w' ⟨rfl, rfl⟩)
  go_ret
  exact ⟨rfl, rfl⟩

set_option maxRecDepth 100000 in
theorem sort_nil (p : Option Addr) (cap : Nat) (w : World) : Calls Tryz.prog 171 #[.slice p 0 cap] w fun e w' => e = .returned (.tuple #[]) ∧ w' = w := by
  go_enter Tryz.func171, Tryz.ntmps171
  go_wp2_with (first
    | (go_at_call 214; refine (len_zero _).mono ?_; rintro e w' ⟨rfl, rfl⟩)
    | (go_at_call 213; refine (pdq_nil p cap _).mono ?_; rintro e w' ⟨rfl, rfl⟩))
  go_end0
  exact ⟨rfl, rfl⟩

/-! ### List -/
theorem info_intD : (Tryz.prog.info? 3).map (fun i => (i.zero, i.size, i.bytes)) = some (some (.int .i64 0), 1, 8) := by kernel_rfl

theorem news_intD (w : World) (z : Int) (t : TypeId) : ∀ j u, ([Value.int .i64 z] : List Value)[j]? = some u → (w.alloc (.cells #[.int .i64 z] t)).cell? ((⟨w.heap.size, 0, none⟩ : Addr).add j) = some u := by
  intro j u hu
  rcases j with _ | j
  · simp only [List.getElem?_cons_zero, Option.some.injEq] at hu
    subst hu
    rw [Addr.add_lit, World.cell?_alloc_at _ _ _ _ rfl]; rfl
  · simp at hu

theorem grown_below {w w' : World} (h : w.grownBy w' none) : Below w.heap.size w w' := ⟨h.os, h.tape, h.output, h.size, fun k hk => h.block k hk (by simp)⟩

def numsV (zs : List Int) : List Value := zs.map (Value.int .i64)

/-- What the range has brought so far. -/
def LW (w : World) (M n : Nat) (X : DataW Unit) (v : Value) (wr : World) (left : Lit → Bool) (cnt : Nat) (ss : List Int) : Prop :=
  wr.ranges Tryz.prog 3 ptrElem M w.heap.size n X left cnt ∧ CollI X left ss ∧ ss.length + cnt ≤ n ∧ Below w.heap.size w wr ∧ Row wr 3 1 v ss.length (numsV ss) ∧ ∀ k, own v k → w.heap.size < k

theorem LW.step {w wr w2 : World} {M n : Nat} {X : DataW Unit} {v : Value} {left : Lit → Bool} {cnt cnt2 : Nat} {ss : List Int} (h : LW w M n X v wr left cnt ss) (hM : M < w.heap.size) {x : Int} {yd : DataW Unit} (hlk : left (.int .i64 x) = true) (hat : ∀ zd, X.atKey (.int .i64 x) zd = yd)
    (hrg2 : w2.ranges Tryz.prog 3 ptrElem M w.heap.size n X (fun z => left z && !z.sameKey (.int .i64 x)) cnt2) (hlt : cnt2 < cnt) (hg2 : wr.grownBy w2 (some w.heap.size)) :
    Row (w2.alloc (.cells #[.int .i64 x] 3)) 3 1 v ss.length (numsV ss) ∧
      ∀ v2 w3, Row w3 3 1 v2 (ss.length + 1) (numsV ss ++ [.int .i64 x]) → Heap.Touch (own v) (w2.alloc (.cells #[.int .i64 x] 3)) w3 → (∀ k, own v2 k → own v k ∨ w2.heap.size + 1 ≤ k) → LW w M n X v2 w3 (fun z => left z && !z.sameKey (.int .i64 x)) cnt2 (ss ++ [x]) := by
  obtain ⟨hrg, hC, hle, hb, hrow, ho⟩ := h
  have t2 : Heap.Touch (fun k => k = w.heap.size) wr (w2.alloc (.cells #[.int .i64 x] 3)) := ((Heap.Touch.refl _ wr).grown hg2 (fun k e => .inl (by simp at e; exact e.symm))).alloc _
  have hrlt : w.heap.size < wr.heap.size := hrg.lt
  refine ⟨hrow.kept (t2.same fun k hk e => by have := ho k hk; omega), fun v2 w3 r3 t3 o3 => ⟨?_, hC.step hlk hat, by rw [List.length_append]; simp; omega, ?_, ?_, ?_⟩⟩
  · have hM3 : w3.heap[M]? = w2.heap[M]? := by
      have h1 := hrg2.owns.lt
      rw [t3.block M (by simp; omega) (fun e => by have := ho M e; omega), Below.heap_alloc _ _ _ h1]
    have hr3 : w3.heap[w.heap.size]? = w2.heap[w.heap.size]? := by
      have h1 := hrg2.lt
      rw [t3.block w.heap.size (by simp; omega) (fun e => by have := ho _ e; omega), Below.heap_alloc _ _ _ h1]
    obtain ⟨es, clock, since, seen, c0, a1, a2, a3, a4, a5, a6⟩ := hrg2
    exact ⟨es, clock, since, seen, c0, hM3.trans a1, a2, a3, a4, hr3.trans a5, a6⟩
  · have h1 := t2.below hb.size (fun k e => by omega)
    exact (hb.trans h1).trans (t3.below (Nat.le_trans hb.size t2.size) fun k e => Nat.le_of_lt (ho k e))
  · have e1 : (ss ++ [x]).length = ss.length + 1 := by simp
    have e2 : numsV (ss ++ [x]) = numsV ss ++ [.int .i64 x] := by simp [numsV]
    rw [e1, e2]; exact r3
  · intro k hk
    rcases o3 k hk with hk | hk
    · exact ho k hk
    · have := hrg2.lt; omega

section
variable {W w : World} {F : Nat → Prop} {D : Nat} {room : Int} {A : List FileP}

/-- A row of the numbers. -/
def NumsAt (w0 : World) (l : List Int) (v : Value) (w : World) : Prop := Below w0.heap.size w0 w ∧ Row w 3 1 v l.length (numsV l) ∧ ∀ k, own v k → w0.heap.size ≤ k

theorem holds_row {w : World} {g off cap : Nat} {ss : List Int} (h : Row w 3 1 (.slice (some ⟨g, off, none⟩) ss.length cap) ss.length (numsV ss)) : Go.Sort.Holds (Value.int .i64) w g off ss.toArray := fun j hj => by
  have hj' : j < ss.length := by simpa using hj
  obtain ⟨h1, h2⟩ := h.cell j (by omega)
  refine ⟨?_, h2⟩
  rw [h1]
  simp [numsV, hj']

theorem sorted_row {w0 w : World} {g off cap : Nat} {ss : List Int} (h : Row w 3 1 (.slice (some ⟨g, off, none⟩) ss.length cap) ss.length (numsV ss)) (hb : Below w0.heap.size w0 w) (hg : w0.heap.size ≤ g) (n : Nat) (os : Array Obj) {ts : List Int} (hl : ts.length = ss.length) :
    NumsAt w0 ts (.slice (some ⟨g, off, none⟩) ss.length cap) (Go.Sort.grow (Go.Sort.putRow (Value.int .i64) (Go.Sort.ahead w n) g off ts.toArray) os) := by
  rcases h.2 with ⟨h2, _⟩ | ⟨g', off', cap', cur, hv, hgb, h1, h2, h3, h4⟩
  · cases h2
  · simp only [Value.slice.injEq, Option.some.injEq, Addr.mk.injEq] at hv
    obtain ⟨⟨rfl, rfl, _⟩, _, rfl⟩ := hv
    have hglt : g < w.heap.size := heap_lt hgb
    have hheap : (Go.Sort.grow (Go.Sort.putRow (Value.int .i64) (Go.Sort.ahead w n) g off ts.toArray) os).heap[g]? = some (.cells (Go.Sort.putCells (Value.int .i64) off ts.toArray cur) 3 (0, 0)) := by
      rw [Go.Sort.heap_grow_old _ _ (by simpa [Go.Sort.putRow, Go.Sort.mapBlock, Go.Sort.ahead] using hglt)]
      simp [Go.Sort.putRow, Go.Sort.mapBlock, Go.Sort.ahead, Array.getElem?_modify, hgb, Go.Sort.onCells]
    have hblk : ∀ k, k < w.heap.size → k ≠ g → (Go.Sort.grow (Go.Sort.putRow (Value.int .i64) (Go.Sort.ahead w n) g off ts.toArray) os).heap[k]? = w.heap[k]? := by
      intro k hk hne
      rw [Go.Sort.heap_grow_old _ _ (by simpa [Go.Sort.putRow, Go.Sort.mapBlock, Go.Sort.ahead] using hk)]
      simp [Go.Sort.putRow, Go.Sort.mapBlock, Go.Sort.ahead, Array.getElem?_modify, Ne.symm hne]
    refine ⟨hb.trans ⟨rfl, rfl, rfl, ?_, fun k hk => hblk k (Nat.lt_of_lt_of_le hk hb.size) (by omega)⟩, ⟨by simp [numsV], .inr ⟨g, off, cap, _, by rw [hl], hheap, by omega, h2, by simpa [Go.Sort.putCells] using h3, ?_⟩⟩, fun k hk => by simp [own, Value.ownBlock] at hk; omega⟩
    · have := hb.size
      simp only [Go.Sort.grow, Go.Sort.putRow, Go.Sort.mapBlock, Go.Sort.ahead, Array.size_append, Array.size_modify]; omega
    · apply List.ext_getElem?
      intro j
      rw [Nat.mul_one]
      by_cases hj : j < ts.length
      · rw [List.getElem?_take_of_lt hj, List.getElem?_drop, Array.getElem?_toList]
        have hlt : off + j < cur.size := by omega
        simp [Go.Sort.putCells, numsV, hj, hlt]
      · rw [List.getElem?_take_eq_none (by omega), List.getElem?_eq_none (by simp [numsV]; omega)]

set_option maxHeartbeats 2000000 in
set_option maxRecDepth 100000 in
theorem list_any (h : DiskAt W F D room A w) : Calls Tryz.prog 107 #[.pointer (some ⟨D, 0, none⟩)] w fun e w' => ∃ v, e = .returned v ∧ NumsAt w (A.map (·.n)) v w' := by
  obtain ⟨M, β, X, hm⟩ := h.mem
  obtain ⟨c0, c1, c2, cf⟩ := threeC hm.cells
  have HOWN := Lib.hid hm.own; have HM := Lib.hid hm; have HS := Lib.hid h.right.sorted; have HFEW := Lib.hid h.right.few
  have HML := Lib.hid hm.ltM; have HSZ := Lib.hid hm.size
  clear hm h
  obtain ⟨i0, hi, hz0, hz1, hz2⟩ := info_parts info_intD
  go_enter Tryz.func107, Tryz.ntmps107
  go_wp2_with (first | (at_range; refine wpList_range_own _ rfl _ 187 rfl 3 204 keyLaw Tryz.underlying187 ptrElem M _ X rfl HOWN.out ?_; intro w0 hrg0 hg0 hs0))
  go_frame
  go_loopw [3] (fun v wr => ∃ (left : Lit → Bool) (cnt : Nat) (ss : List Int), Hid (LW w M A.length X v wr left cnt ss)) (fun _ wr => wr.rangeLeft M w.heap.size)
  case atStart => exact ⟨_, _, [], Lib.hid ⟨hrg0, CollI.start X, by rw [HSZ.out]; simp, grown_below hg0, Row.nil _ _ _, fun k hk => by simp [own, Value.ownBlock] at hk⟩⟩
  case round =>
    obtain ⟨left, cnt, ss, HR⟩ := hrel
    clear hrg0 hg0 hs0
    go_wp2_with (first | (at_next; refine wpList_next_ranges _ rfl _ rfl 3 keyLaw ptrElem (Value.int .i64) (fun c : Option Nat => Value.pointer (c.map fun b => ⟨b, 0, none⟩)) (fun key kl hkey => by obtain ⟨x, rfl, _⟩ := Maps.keyOf_int_inv Tryz.underlying3 hkey; exact ⟨x, rfl⟩) (fun v y hv => ptrElem_any hv) M w.heap.size _ _ _ _ rfl HR.out.1 ?_ ?_))
    · intro _ hl0
      have hperm := HR.out.2.1.perm HM.out HS.out hl0
      have HSO := Lib.hid (sort_perm HS.out hperm)
      have HLE := Lib.hid (show (A.map (·.n)).length = ss.length from hperm.length_eq.symm)
      have hk20 : ss.length ≤ 20 := by have := HR.out.2.2.1; have := HFEW.out; omega
      have HB := Lib.hid HR.out.2.2.2.1
      have HO := Lib.hid HR.out.2.2.2.2.2
      have HRW := Lib.hid HR.out.2.2.2.2.1
      clear hl0 hperm HR
      rcases HRW.out.2 with ⟨rfl, h0⟩ | ⟨g, off, cap, cur, rfl, hg, h1, h2, h3, h4⟩
      · have HNIL := Lib.hid (show A.map (·.n) = [] from List.eq_nil_of_length_eq_zero (by rw [HLE.out]; exact h0))
        clear h0
        go_wp2_with (first | (go_at_call 171; refine (sort_nil none 0 _).mono ?_; rintro e w' ⟨rfl, rfl⟩))
        go_ret
        exact ⟨_, rfl, HB.out, by rw [HNIL.out]; exact Row.nil _ _ _, fun k hk => by simp [own, Value.ownBlock] at hk⟩
      · have hgl := heap_lt hg
        have HG := Lib.hid (show w.heap.size ≤ g from Nat.le_of_lt (HO.out g (by simp [own, Value.ownBlock])))
        have HC := Lib.hid (Tryz.slices_Sort_int g off cap ss wr (holds_row HRW.out) hgl (by omega))
        clear hg h1 h2 h3 h4 hgl
        go_wp2_with fail
        refine HC.out.mono ?_
        rintro e w' ⟨rfl, n, os, rfl⟩
        have HF := Lib.hid (sorted_row HRW.out HB.out HG.out n os (ts := ss.mergeSort fun x y => decide (x ≤ y)) (List.length_mergeSort ss))
        rw [HSO.out] at HF ⊢
        generalize Go.Sort.grow _ os = w9 at *
        go_wp2
        go_ret
        exact ⟨_, rfl, HF.out⟩
    · intro x c kl yd yp w2 cnt2 hkey hlk hv hat hrg2 hlt hg2 hs2 hen
      obtain ⟨x', ex, rfl, hwx⟩ := Maps.keyOf_int_inv Tryz.underlying3 hkey
      cases ex
      clear hs2 hkey hv
      have HG := Lib.hid (LW.step HR.out HML.out hlk hat hrg2 hlt hg2)
      have hk20 : ss.length ≤ 20 := by have := HR.out.2.2.1; have := HFEW.out; omega
      obtain ⟨a3, c3, hs3⟩ := HR.out.2.2.2.2.1.slice
      have HMEA := Lib.hid (show w2.rangeLeft M w.heap.size < w2.rangeLeft M w.heap.size + 1 from Nat.lt_succ_self _)
      have HOLD := Lib.hid HR.out.1.left_eq
      have HLT := Lib.hid hlt
      subst hs3
      clear hlk hat hrg2 hlt hg2 hwx
      go_wp2_with (at_builtin; refine Heap.wpList_append_row _ rfl (.tmp 14) (.tmp 16) 22 rfl 3 i0 _ 1 8 Tryz.underlying22 hi hz0 hz1 hz2 rfl (by decide) _ ss.length _ rfl HG.out.1 ⟨w2.heap.size, 0, none⟩ 1 1 [.int .i64 x] rfl rfl (news_intD w2 x _) (by simp [Value.oneCell']) (by unfold maxLen; omega) (by omega) ?_)
      intro v2 w3 r3 t3 o3
      have HF := Lib.hid (HG.out.2 v2 w3 r3 t3 o3)
      clear r3 t3 o3
      go_wp2_with fail
      exact ⟨⟨_, _, _, HF⟩, by rw [HF.out.1.left_eq, HOLD.out]; exact HLT.out⟩
end
end Go.Proofs.YtbgchhgdlceceaaGreatDoor.Dsk
