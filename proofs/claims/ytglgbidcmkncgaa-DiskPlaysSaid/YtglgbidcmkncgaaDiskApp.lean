/- The disk's Remove and Append. -/
import Derived.Test.YtglgbidcmkncgaaDiskCut
import Derived.Deep.Cut
namespace Go.Proofs.Ytglgbidcmkncgaa.Dsk
open Go.RowKit Go.Maps Heap

section
variable {W w : World} {F : Nat → Prop} {D : Nat} {room : Int} {A : List FileP}

set_option maxHeartbeats 1000000 in
set_option maxRecDepth 100000 in
theorem remove_any (h : DiskAt W F D room A w) (n : Int) (hk : -9223372036854775808 ≤ n ∧ n ≤ 9223372036854775807) : Calls Try.prog 20 #[.pointer (some ⟨D, 0, none⟩), .int .i64 n] w fun e w' => e = .returned (.int .i64 ((removeD A n).2 : Nat)) ∧ DiskAt W F D room (removeD A n).1 w' ∧ Heap.Touch F w w' := by
  obtain ⟨M, β, X, hm⟩ := h.mem
  obtain ⟨c0, c1, c2, cf⟩ := threeC hm.cells
  have hown := Lib.hid hm.own
  cases hg : getF A n with
  | some p =>
    obtain ⟨hpn, hpm⟩ := getF_n hg
    have hhas : Maps.has X (.int .i64 n) = true := by rw [hm.has, hg]; rfl
    have hat : ∀ z, X.atKey (.int .i64 n) z = .lit (.int .i64 (β p.n : Nat)) := fun z => by have := hm.at_ p hpm z; rw [hpn] at this; rw [hpn]; exact this
    have hf := hm.files p hpm
    obtain ⟨T, hT, hTs, hTl⟩ := text_of p.text
    rw [← hT] at hf
    obtain ⟨f0, f1, ff⟩ := twoC hf
    have hneDB := hm.neDF hpm
    have hneMD := hm.neDM.symm
    have hlen := h.right.len hpm
    have hfit := h.right.fits; have hsm := h.right.small; have hle := le_total hpm
    have hr : removeD A n = (delF A n, 0) := by unfold removeD; rw [hg]
    rw [hr]
    have htot : (total (delF A n) : Int) = (total A : Int) - T.size := by have := total_delF h.right.sorted hg; omega
    have w1 : IntKind.i64.wrap ((total A : Int) - (T.size : Int)) = (total A : Int) - (T.size : Int) := IntWalk.i64_in _ (by omega)
    have hend : ∀ wa wb : World, wa = (w.setCell ⟨D, 1, none⟩ (.int .i64 ((total A : Int) - (T.size : Int)))).drew → wb.ownsMap Try.prog 3 ptrElem M A.length (X.del (.int .i64 n)) → wa.mapTurned wb M → DiskAt W F D room (delF A n) wb ∧ Heap.Touch F w wb := by
      rintro wa wb rfl ho hturn
      have ht : Heap.Touch (fun k => k = D ∨ k = M) w wb := (((Heap.Touch.refl _ w).setCell (.inl (.inl rfl)) _).drew).grown hturn.grown (fun k e => .inl (.inr (by simp at e; exact e.symm)))
      have htF : Heap.Touch F w wb := ht.mono fun k _ e => by
        rcases e with rfl | rfl
        · exact hm.fD
        · exact hm.fM
      refine ⟨h.next (h.right.del hg) htF h.newF ⟨M, β, _, hm.del h.right hg ht ?_ ho⟩, htF⟩
      rw [hturn.grown.block D (by have := hm.ltD; simpa [World.setCell, World.drew] using this) (by simp; exact hneMD.symm)]
      show (World.setCell _ _ _).heap[D]? = _
      rw [heap_setCell_same _ _ _ _ _ _ hm.cells, htot]; rfl
    have hown2 : (w.setCell ⟨D, 1, none⟩ (.int .i64 ((total A : Int) - (T.size : Int)))).drew.ownsMap Try.prog 3 ptrElem M A.length X := ownsMap_of_block hm.own (by show (World.setCell _ _ _).heap[M]? = _; exact heap_setCell_other _ _ _ _ hneMD)
    have HHAS := Lib.hid hhas; have HAT := Lib.hid hat; have HK := Lib.hid hk; have HEND := Lib.hid hend; have HO2 := Lib.hid hown2
    clear hm h hg hr hhas hat hk hf hpm hpn hend htot hT hTl hle hTs hlen hfit hsm hown2
    go_enter Try.func20, Try.ntmps20
    go_wp2_with (first | (at_lookup; refine look_hit _ rfl _ _ rfl M _ X rfl hown.out n rfl HK.out (β p.n) HHAS.out HAT.out ?_))
    go_region
    go_wp2_with (first | (at_delete; refine wpList_delete_own _ rfl _ _ 69 3 rfl 72 keyLaw Try.underlying69 ptrElem M _ X rfl HO2.out _ _ rfl (key64 HK.out) ?_; intro wb hob hturn))
    go_ret
    exact ⟨rfl, HEND.out _ _ rfl hob hturn⟩
  | none =>
    have hhas : Maps.has X (.int .i64 n) = false := by rw [hm.has, hg]; rfl
    have hr : removeD A n = (A, 4) := by unfold removeD; rw [hg]
    rw [hr]
    have HHAS := Lib.hid hhas; have HK := Lib.hid hk; have HH := Lib.hid h
    clear hm h hg hr hhas hk
    go_enter Try.func20, Try.ntmps20
    go_wp2_with (first | (at_lookup; refine look_miss _ rfl _ _ rfl M _ X rfl hown.out n rfl HK.out HHAS.out ?_))
    go_ret
    exact ⟨rfl, HH.out, Heap.Touch.refl _ _⟩

set_option maxHeartbeats 1000000 in
set_option maxRecDepth 100000 in
/-- A file that is there grows, or the disk is full. -/
theorem append_hit (h : DiskAt W F D room A w) (n : Int) (s : ByteArray) (hk : -9223372036854775808 ≤ n ∧ n ≤ 9223372036854775807) (hs : s.size ≤ 9223372036854775807) {p : FileP} (hg : getF A n = some p) : Calls Try.prog 18 #[.pointer (some ⟨D, 0, none⟩), .int .i64 n, .string s] w fun e w' => e = .returned (.int .i64 ((appD room A n s.data.toList).2 : Nat)) ∧ DiskAt W F D room (appD room A n s.data.toList).1 w' ∧ Heap.Touch F w w' := by
  obtain ⟨M, β, X, hm⟩ := h.mem
  obtain ⟨c0, c1, c2, cf⟩ := threeC hm.cells
  have hown := Lib.hid hm.own
  obtain ⟨hpn, hpm⟩ := getF_n hg
  have hhas : Maps.has X (.int .i64 n) = true := by rw [hm.has, hg]; rfl
  have hat : ∀ z, X.atKey (.int .i64 n) z = .lit (.int .i64 (β p.n : Nat)) := fun z => by have := hm.at_ p hpm z; rw [hpn] at this; rw [hpn]; exact this
  have hf := hm.files p hpm
  obtain ⟨T, hT, hTs, hTl⟩ := text_of p.text
  rw [← hT] at hf
  obtain ⟨f0, f1, ff⟩ := twoC hf
  have hneDB := hm.neDF hpm
  have hlen := h.right.len hpm
  have hfit := h.right.fits; have hsm := h.right.small; have hle := le_total hpm
  have hnum := h.right.num p hpm
  rw [hpn] at hnum
  have n1 : ¬ n < 0 := by omega
  have n2 : ¬ (1099511627776 : Int) < n := by omega
  have hsl : s.data.toList.length = s.size := rfl
  have w0 : IntKind.i64.wrap (room - (total A : Int)) = room - (total A : Int) := IntWalk.i64_in _ (by omega)
  have HHAS := Lib.hid hhas; have HAT := Lib.hid hat; have HK := Lib.hid hk
  by_cases hfull : room - (total A : Int) < s.size
  · have hr : appD room A n s.data.toList = (A, 8) := by unfold appD; rw [if_neg (by omega), if_pos (by rw [hsl]; exact hfull)]
    rw [hr]
    have HH := Lib.hid h
    clear hm hg hr hhas hat hk hf hpm hpn h hle hT hTl hneDB hTs hsl hnum
    go_enter Try.func18, Try.ntmps18
    go_wp2_with (first | (at_lookup; refine look_hit _ rfl _ _ rfl M _ X rfl hown.out n rfl HK.out (β p.n) HHAS.out HAT.out ?_))
    go_region
    go_wp2
    go_ret
    exact ⟨rfl, HH.out.kept (Below.refl _ _).drew (fun _ _ _ => rfl), (Heap.Touch.refl _ _).drew⟩
  · have hr : appD room A n s.data.toList = (setF A ⟨n, p.text ++ s.data.toList, p.sure⟩, 0) := by unfold appD; rw [if_neg (by omega), if_neg (by rw [hsl]; exact hfull), hg]
    rw [hr]
    have htl : (p.text ++ s.data.toList).length = T.size + s.size := by rw [List.length_append, hsl, hTs]
    have htot : (total (setF A ⟨n, p.text ++ s.data.toList, p.sure⟩) : Int) = (total A : Int) + s.size := by have := total_setF (q := ⟨n, p.text ++ s.data.toList, p.sure⟩) h.right.sorted hg; simp only [htl] at this; omega
    have w1 : IntKind.i64.wrap ((total A : Int) + (s.size : Int)) = (total A : Int) + (s.size : Int) := IntWalk.i64_in _ (by omega)
    have hend : ∀ w' : World, w' = ((w.drew.setCell ⟨β p.n, 0, none⟩ (.string (T ++ s))).setCell ⟨D, 1, none⟩ (.int .i64 ((total A : Int) + (s.size : Int)))) → DiskAt W F D room (setF A ⟨n, p.text ++ s.data.toList, p.sure⟩) w' ∧ Heap.Touch F w w' := by
      rintro w' rfl
      have hsu := h.right.sure p hpm
      refine h.put hm hg rfl (h.right.set hg _ rfl (by simp only [htl]; omega) (by simp only [htl]; omega)) (((Heap.Touch.refl _ w).drew.setCell (.inl (.inr rfl)) _).setCell (.inl (.inl rfl)) _) ?_ ?_
      · have f1 := heap_setCell_other w.drew ⟨β p.n, 0, none⟩ D (.string (T ++ s)) hneDB
        rw [heap_setCell_same _ _ _ _ _ _ (f1.trans hm.cells), htot]; rfl
      · have f1 := heap_setCell_same w.drew (β p.n) 0 _ _ (.string (T ++ s)) hf
        rw [heap_setCell_other _ _ _ _ (Ne.symm hneDB), f1]
        show _ = some (Obj.cells #[.string ⟨(p.text ++ s.data.toList).toArray⟩, .int .i64 (p.sure : Nat)] _ _)
        rw [app_text hTl rfl]; rfl
    have HEND := Lib.hid hend
    have hcat : T.size + s.size ≤ 1114112 := by omega
    clear hm h hg hr hhas hat hk hf hpm hpn hend htot hT hTl hle hTs hsl htl hnum
    go_enter Try.func18, Try.ntmps18
    go_wp2_with (first | (at_lookup; refine look_hit _ rfl _ _ rfl M _ X rfl hown.out n rfl HK.out (β p.n) HHAS.out HAT.out ?_))
    go_region
    go_wp2
    go_ret
    exact ⟨rfl, HEND.out _ rfl⟩

set_option maxHeartbeats 1000000 in
set_option maxRecDepth 100000 in
/-- A file that isn't there: an error, or it is made. -/
theorem append_miss (h : DiskAt W F D room A w) (n : Int) (s : ByteArray) (hk : -9223372036854775808 ≤ n ∧ n ≤ 9223372036854775807) (hs : s.size ≤ 9223372036854775807) (hg : getF A n = none) : Calls Try.prog 18 #[.pointer (some ⟨D, 0, none⟩), .int .i64 n, .string s] w fun e w' => e = .returned (.int .i64 ((appD room A n s.data.toList).2 : Nat)) ∧ DiskAt W (Grow F w) D room (appD room A n s.data.toList).1 w' ∧ Heap.Touch F w w' := by
  obtain ⟨M, β, X, hm⟩ := h.mem
  obtain ⟨c0, c1, c2, cf⟩ := threeC hm.cells
  have hown := Lib.hid hm.own
  have hhas : Maps.has X (.int .i64 n) = false := by rw [hm.has, hg]; rfl
  have hneDM := hm.neDM
  have hfit := h.right.fits; have hsm := h.right.small; have hfew := h.right.few
  have hsl : s.data.toList.length = s.size := rfl
  have w0 : IntKind.i64.wrap (room - (total A : Int)) = room - (total A : Int) := IntWalk.i64_in _ (by omega)
  have HHAS := Lib.hid hhas; have HK := Lib.hid hk
  have HH := Lib.hid h
  have HM := Lib.hid hm
  have hG := Lib.hid (h.mono (G := Grow F w) (fun k hk => .inl hk) (Grow.new h))
  by_cases hlo : n < 0
  · have hr : appD room A n s.data.toList = (A, 1) := by unfold appD; rw [if_pos (.inl hlo)]
    rw [hr]
    clear hm hg hr hhas hk h hneDM hsl
    go_enter Try.func18, Try.ntmps18
    go_wp2_with (first | (at_lookup; refine look_miss _ rfl _ _ rfl M _ X rfl hown.out n rfl HK.out HHAS.out ?_))
    go_ret
    exact ⟨rfl, hG.out, Heap.Touch.refl _ _⟩
  · by_cases hhi : (1099511627776 : Int) < n
    · have hr : appD room A n s.data.toList = (A, 1) := by unfold appD; rw [if_pos (.inr hhi)]
      rw [hr]
      clear hm hg hr hhas hk h hneDM hsl
      go_enter Try.func18, Try.ntmps18
      go_wp2_with (first | (at_lookup; refine look_miss _ rfl _ _ rfl M _ X rfl hown.out n rfl HK.out HHAS.out ?_))
      go_ret
      exact ⟨rfl, hG.out, Heap.Touch.refl _ _⟩
    · have hfirst : ¬ (n < 0 ∨ (1099511627776 : Int) < n) := by omega
      by_cases hfull : room - (total A : Int) < s.size
      · have hr : appD room A n s.data.toList = (A, 8) := by unfold appD; rw [if_neg hfirst, if_pos (by rw [hsl]; exact hfull)]
        rw [hr]
        clear hm hg hr hhas hk h hneDM hsl hfirst
        go_enter Try.func18, Try.ntmps18
        go_wp2_with (first | (at_lookup; refine look_miss _ rfl _ _ rfl M _ X rfl hown.out n rfl HK.out HHAS.out ?_))
        go_region
        go_wp2
        go_ret
        exact ⟨rfl, hG.out.kept (Below.refl _ _).drew (fun _ _ _ => rfl), (Heap.Touch.refl _ _).drew⟩
      · have hlm : ∀ ty, (Builtin.len_ #[69] ty #[.map (some M)]).run Try.prog w.drew = .ok (.int .i64 (A.length : Nat)) w.drew := fun ty => by
          have := (ownsMap_of_block (w' := w.drew) hm.own rfl).len Try.underlying69 ty
          rw [hm.size] at this; exact this
        by_cases h20 : A.length = 20
        · have hr : appD room A n s.data.toList = (A, 8) := by unfold appD; rw [if_neg hfirst, if_neg (by rw [hsl]; exact hfull), hg]; simp only; rw [if_pos h20]
          rw [hr]
          rw [h20] at hlm
          clear hm hg hr hhas hk h hneDM hsl hfirst hfew h20
          go_enter Try.func18, Try.ntmps18
          go_wp2_with (first | (at_lookup; refine look_miss _ rfl _ _ rfl M _ X rfl hown.out n rfl HK.out HHAS.out ?_))
          go_region
          go_wp2
          go_ret
          exact ⟨rfl, hG.out.kept (Below.refl _ _).drew (fun _ _ _ => rfl), (Heap.Touch.refl _ _).drew⟩
        · have hr : appD room A n s.data.toList = (insF A ⟨n, s.data.toList, 0⟩, 0) := by unfold appD; rw [if_neg hfirst, if_neg (by rw [hsl]; exact hfull), hg]; simp only; rw [if_neg h20]
          rw [hr]
          have h20b : ((A.length : Int) == 20) = false := by simp; omega
          have w1 : IntKind.i64.wrap ((total A : Int) + (s.size : Int)) = (total A : Int) + (s.size : Int) := IntWalk.i64_in _ (by omega)
          have hroom : A.length < maxLen := by unfold maxLen; omega
          have hraise : RightD room (insF A ⟨n, s.data.toList, 0⟩) := h.right.ins hg (by omega) (by omega) h20 (by rw [hsl]; omega)
          have htot : (total (insF A ⟨n, s.data.toList, 0⟩) : Int) = (total A : Int) + s.size := by rw [total_insF]; simp only [hsl]; omega
          obtain ⟨w2, hw2⟩ : ∃ w2, w2 = (w.alloc (.cells #[.string ⟨#[]⟩, .int .i64 0] 75)).drew := ⟨_, rfl⟩
          have hheap : w2.heap = w.heap.push (.cells #[.string ⟨#[]⟩, .int .i64 0] 75) := by rw [hw2]; rfl
          have hsz2 : w2.heap.size = w.heap.size + 1 := by rw [hheap, Array.size_push]
          have hN2 : w2.heap[w.heap.size]? = some (.cells #[.string ⟨#[]⟩, .int .i64 0] 75 (0, 0)) := by rw [hheap, Array.getElem?_push_size]
          have hold2 : ∀ k, k < w.heap.size → w2.heap[k]? = w.heap[k]? := fun k hk => by rw [hheap, Array.getElem?_push_lt hk, Array.getElem?_eq_getElem hk]
          have hown2 : w2.ownsMap Try.prog 3 ptrElem M A.length X := ownsMap_of_block hm.own (hold2 M hm.ltM)
          have hend : ∀ wb : World, wb.ownsMap Try.prog 3 ptrElem M (A.length + 1) (X.put (.int .i64 n) (.lit (.int .i64 (w.heap.size : Nat)))) → w2.mapTurned wb M → DiskAt W (Grow F w) D room (insF A ⟨n, s.data.toList, 0⟩) ((wb.setCell ⟨w.heap.size, 0, none⟩ (.string s)).setCell ⟨D, 1, none⟩ (.int .i64 ((total A : Int) + (s.size : Int)))) ∧ Heap.Touch F w ((wb.setCell ⟨w.heap.size, 0, none⟩ (.string s)).setCell ⟨D, 1, none⟩ (.int .i64 ((total A : Int) + (s.size : Int)))) := by
            intro wb ho hturn
            have hwb : Heap.Touch (fun k => k = D ∨ k = M) w wb := by
              rw [hw2] at hturn
              exact (((Heap.Touch.refl _ w).alloc _).drew).grown hturn.grown (fun k e => .inl (.inr (by simp at e; exact e.symm)))
            have hneN : D ≠ w.heap.size := Nat.ne_of_lt hm.ltD
            have hneM : M ≠ w.heap.size := Nat.ne_of_lt hm.ltM
            have ht : Heap.Touch (fun k => k = D ∨ k = M) w ((wb.setCell ⟨w.heap.size, 0, none⟩ (.string s)).setCell ⟨D, 1, none⟩ (.int .i64 ((total A : Int) + (s.size : Int)))) := (hwb.setCell (.inr (Nat.le_refl _)) _).setCell (.inl (.inl rfl)) _
            have htF : Heap.Touch F w ((wb.setCell ⟨w.heap.size, 0, none⟩ (.string s)).setCell ⟨D, 1, none⟩ (.int .i64 ((total A : Int) + (s.size : Int)))) := ht.mono fun k _ e => by
              rcases e with rfl | rfl
              · exact hm.fD
              · exact hm.fM
            have hbD : wb.heap[D]? = some (.cells #[.int .i64 room, .int .i64 (total A : Nat), .map (some M)] 71 (0, 0)) := by
              rw [hturn.grown.block D (by have := hm.ltD; omega) (by simp; exact hneDM), hold2 D hm.ltD]
              exact hm.cells
            have hbN : wb.heap[w.heap.size]? = some (.cells #[.string ⟨#[]⟩, .int .i64 0] 75 (0, 0)) := by
              rw [hturn.grown.block w.heap.size (by omega) (by simp; exact hneM.symm)]
              exact hN2
            refine ⟨h.next hraise htF (Grow.new h) ⟨M, _, _, hm.ins (q := ⟨n, s.data.toList, 0⟩) h.right hg (Nat.le_refl w.heap.size) ht ?_ ?_ ?_⟩, htF⟩
            · have f1 := heap_setCell_other wb ⟨w.heap.size, 0, none⟩ D (.string s) hneN
              rw [heap_setCell_same _ _ _ _ _ _ (f1.trans hbD), htot]; rfl
            · refine ownsMap_of_block ho ?_
              rw [heap_setCell_other _ _ _ _ (Ne.symm hneDM), heap_setCell_other _ _ _ _ hneM]
            · have f1 := heap_setCell_same wb w.heap.size 0 _ _ (.string s) hbN
              rw [heap_setCell_other _ _ _ _ (Ne.symm hneN), f1]; rfl
          have hcells : ∀ wb : World, w2.mapTurned wb M → wb.cell? ⟨w.heap.size, 0, none⟩ = some (.string ⟨#[]⟩) ∧ (∀ j, wb.frozen? ⟨w.heap.size, j, none⟩ = false) ∧ wb.cell? ⟨D, 1, none⟩ = some (.int .i64 (total A : Nat)) ∧ ∀ j, wb.frozen? ⟨D, j, none⟩ = false := by
            intro wb hturn
            have hneM : M ≠ w.heap.size := Nat.ne_of_lt hm.ltM
            have hbD : wb.heap[D]? = some (.cells #[.int .i64 room, .int .i64 (total A : Nat), .map (some M)] 71 (0, 0)) := by
              rw [hturn.grown.block D (by have := hm.ltD; omega) (by simp; exact hneDM), hold2 D hm.ltD]
              exact hm.cells
            have hbN : wb.heap[w.heap.size]? = some (.cells #[.string ⟨#[]⟩, .int .i64 0] 75 (0, 0)) := by
              rw [hturn.grown.block w.heap.size (by omega) (by simp; exact hneM.symm)]
              exact hN2
            obtain ⟨a1, _, a3⟩ := twoC hbN
            obtain ⟨_, b2, _, b4⟩ := threeC hbD
            exact ⟨a1, a3, b2, b4⟩
          have hneN : D ≠ w.heap.size := Nat.ne_of_lt hm.ltD
          have d2 : w2.cell? ⟨D, 2, none⟩ = some (.map (some M)) := (World.cell?_of_block (a := ⟨D, 2, none⟩) (hold2 D hm.ltD)).trans c2
          have HEND := Lib.hid hend; have HO2 := Lib.hid hown2; have HC := Lib.hid hcells
          clear hm hg hr hhas hk h hsl hfirst hfew h20 hend hown2 hcells hraise htot hheap hsz2 hN2 hold2
          go_enter Try.func18, Try.ntmps18
          go_wp2_with (first | (at_lookup; refine look_miss _ rfl _ _ rfl M _ X rfl hown.out n rfl HK.out HHAS.out ?_))
          go_region
          go_upto_region 9 with fail
          rw [← hw2]
          have HW2 := Lib.hid hw2
          clear hw2
          go_wp2_with (first | (at_mapUpdate; refine wpList_mapUpdate_in _ rfl _ _ _ 69 rfl 3 72 keyLaw Try.underlying69 ptrElem M _ X rfl HO2.out hroom _ _ _ rfl rfl (key64 HK.out) _ [] rfl ?_; intro wb hob hturn; obtain ⟨g1, g2, g3, g4⟩ := HC.out _ hturn))
          go_ret
          exact ⟨rfl, HEND.out _ hob hturn⟩

theorem append_any (h : DiskAt W F D room A w) (n : Int) (s : ByteArray) (hk : -9223372036854775808 ≤ n ∧ n ≤ 9223372036854775807) (hs : s.size ≤ 9223372036854775807) : Calls Try.prog 18 #[.pointer (some ⟨D, 0, none⟩), .int .i64 n, .string s] w fun e w' => e = .returned (.int .i64 ((appD room A n s.data.toList).2 : Nat)) ∧ DiskAt W (Grow F w) D room (appD room A n s.data.toList).1 w' ∧ Heap.Touch F w w' := by
  cases hg : getF A n with
  | some p => exact (append_hit h n s hk hs hg).mono fun e w' ⟨a, b, c⟩ => ⟨a, b.mono (fun k hk => .inl hk) (Grow.new h), c⟩
  | none => exact append_miss h n s hk hs hg
end
end Go.Proofs.Ytglgbidcmkncgaa.Dsk
