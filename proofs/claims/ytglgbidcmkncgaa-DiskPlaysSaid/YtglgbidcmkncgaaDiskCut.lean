/- The disk's Cut, Remove and Append. -/
import Derived.Test.YtglgbidcmkncgaaDiskRead
import Derived.RegionTactic
namespace Go.Proofs.Ytglgbidcmkncgaa.Dsk
open Go.RowKit Go.Maps Heap

theorem text_of (l : List UInt8) : ∃ T : ByteArray, T = ⟨l.toArray⟩ ∧ T.size = l.length ∧ T.data.toList = l := ⟨_, rfl, by show l.toArray.size = _; rw [List.size_toArray], rfl⟩

theorem take_text {T : ByteArray} {l : List UInt8} (h : T.data.toList = l) (k : Nat) : (⟨(l.take k).toArray⟩ : ByteArray) = T.extract 0 k := by
  cases T with
  | mk d =>
    rw [ByteArray.extract_mk]
    apply ByteArray.ext
    apply Array.ext'
    rw [← h]
    simp

theorem app_text {T S : ByteArray} {l m : List UInt8} (h : T.data.toList = l) (h2 : S.data.toList = m) : (⟨(l ++ m).toArray⟩ : ByteArray) = T ++ S := by
  apply ByteArray.ext
  apply Array.ext'
  rw [← h, ← h2]
  simp

section
variable {W w : World} {F : Nat → Prop} {D : Nat} {room : Int} {A : List FileP}

/-- Both cells of a file and the sum are written. -/
theorem DiskAt.put {M : Nat} {β : Int → Nat} {X : DataW Unit} {w' : World} (h : DiskAt W F D room A w) (hm : DM F D M β X room A w) {n : Int} {p q : FileP} (hg : getF A n = some p) (hq : q.n = n) (hr : RightD room (setF A q)) (ht : Heap.Touch (fun k => k = D ∨ k = β p.n) w w')
    (hD : w'.heap[D]? = some (.cells #[.int .i64 room, .int .i64 (total (setF A q) : Nat), .map (some M)] 71 (0, 0)))
    (hB : w'.heap[β p.n]? = some (.cells #[.string ⟨q.text.toArray⟩, .int .i64 (q.sure : Nat)] 75 (0, 0))) : DiskAt W F D room (setF A q) w' ∧ Heap.Touch F w w' := by
  obtain ⟨hpn, hpm⟩ := getF_n hg
  have htF : Heap.Touch F w w' := ht.mono fun k _ e => by
    rcases e with rfl | rfl
    · exact hm.fD
    · exact hm.fF p hpm
  subst hq
  rw [hpn] at ht hB
  exact ⟨h.next hr htF h.newF ⟨M, β, X, hm.set h.right hg ht hD hB⟩, htF⟩

set_option maxHeartbeats 1000000 in
set_option maxRecDepth 100000 in
theorem cut_any (h : DiskAt W F D room A w) (n size : Int) (hk : -9223372036854775808 ≤ n ∧ n ≤ 9223372036854775807) : Calls Try.prog 32 #[.pointer (some ⟨D, 0, none⟩), .int .i64 n, .int .i64 size] w fun e w' => e = .returned (.int .i64 ((cutD A n size).2 : Nat)) ∧ DiskAt W F D room (cutD A n size).1 w' ∧ Heap.Touch F w w' := by
  obtain ⟨M, β, X, hm⟩ := h.mem
  obtain ⟨c0, c1, c2, cf⟩ := threeC hm.cells
  have hown := Lib.hid hm.own
  cases hg : getF A n with
  | some p =>
    obtain ⟨hpn, hpm⟩ := getF_n hg
    have hhas : Maps.has X (.int .i64 n) = true := by rw [hm.has, hg]; rfl
    have hat : ∀ z, X.atKey (.int .i64 n) z = .lit (.int .i64 (β p.n : Nat)) := fun z => by have := hm.at_ p hpm z; rw [hpn] at this; rw [hpn]; exact this
    have hf := hm.files p hpm
    obtain ⟨T, hT, hTs, hTl⟩ := text_of p.text
    rw [← hT] at hf
    obtain ⟨f0, f1, ff⟩ := twoC hf
    have hneDB := hm.neDF hpm
    have hlen := h.right.len hpm
    have hfit := h.right.fits; have hsm := h.right.small; have hle := le_total hpm
    by_cases hbad : size < 0 ∨ (p.text.length : Int) < size
    · have hr : cutD A n size = (A, 1) := by unfold cutD; rw [hg]; simp only; rw [if_pos hbad]
      rw [hr]
      have HHAS := Lib.hid hhas; have HAT := Lib.hid hat; have HK := Lib.hid hk; have HH := Lib.hid h
      rcases hbad with hb | hb
      · clear hm hg hr hhas hat hk hf hpm hpn h hle hT hTl hneDB hTs
        go_enter Try.func32, Try.ntmps32
        go_wp2_with (first | (at_lookup; refine look_hit _ rfl _ _ rfl M _ X rfl hown.out n rfl HK.out (β p.n) HHAS.out HAT.out ?_))
        go_ret
        exact ⟨rfl, HH.out, Heap.Touch.refl _ _⟩
      · have hb' : (T.size : Int) < size := by omega
        clear hm hg hr hhas hat hk hf hpm hpn h hle hT hTl hneDB hTs
        go_enter Try.func32, Try.ntmps32
        go_wp2_with (first | (at_lookup; refine look_hit _ rfl _ _ rfl M _ X rfl hown.out n rfl HK.out (β p.n) HHAS.out HAT.out ?_))
        go_ret
        exact ⟨rfl, HH.out, Heap.Touch.refl _ _⟩
    · obtain ⟨k, rfl⟩ : ∃ k : Nat, size = (k : Int) := ⟨size.toNat, by omega⟩
      have hkl : k ≤ T.size := by omega
      have hr : cutD A n k = (setF A ⟨n, p.text.take k, k⟩, 0) := by unfold cutD; rw [hg]; simp only; rw [if_neg hbad]; rfl
      rw [hr]
      have htk : (p.text.take k).length = k := by rw [List.length_take]; omega
      have htot : (total (setF A ⟨n, p.text.take k, k⟩) : Int) = (total A : Int) - (T.size - k) := by have := total_setF (q := ⟨n, p.text.take k, k⟩) h.right.sorted hg; simp only [htk] at this; omega
      have w1 : IntKind.i64.wrap ((T.size : Int) - k) = (T.size : Int) - k := IntWalk.i64_in _ (by omega)
      have w2 : IntKind.i64.wrap ((total A : Int) - ((T.size : Int) - k)) = (total A : Int) - ((T.size : Int) - k) := IntWalk.i64_in _ (by omega)
      have hend : ∀ w' : World, w' = (((w.setCell ⟨D, 1, none⟩ (.int .i64 ((total A : Int) - ((T.size : Int) - k)))).setCell ⟨β p.n, 0, none⟩ (.string (T.extract 0 k))).setCell ⟨β p.n, 1, none⟩ (.int .i64 k)).drew → DiskAt W F D room (setF A ⟨n, p.text.take k, k⟩) w' ∧ Heap.Touch F w w' := by
        rintro w' rfl
        refine h.put hm hg rfl (h.right.set hg _ rfl (by simp only [htk]; omega) (by simp only [htk]; omega)) ((((Heap.Touch.refl _ w).setCell (.inl (.inl rfl)) _).setCell (.inl (.inr rfl)) _).setCell (.inl (.inr rfl)) _).drew ?_ ?_
        · show (World.setCell _ _ _).heap[D]? = _
          rw [heap_setCell_other _ _ _ _ hneDB, heap_setCell_other _ _ _ _ hneDB, heap_setCell_same _ _ _ _ _ _ hm.cells, htot]; rfl
        · have f1 := heap_setCell_other w ⟨D, 1, none⟩ (β p.n) (.int .i64 ((total A : Int) - ((T.size : Int) - k))) (Ne.symm hneDB)
          have f2 := heap_setCell_same _ (β p.n) 0 _ _ (.string (T.extract 0 k)) (f1.trans hf)
          show (World.setCell _ _ _).heap[β p.n]? = _
          rw [heap_setCell_same _ _ _ _ _ _ f2]
          show _ = some (Obj.cells #[.string ⟨(p.text.take k).toArray⟩, .int .i64 (k : Nat)] _ _)
          rw [take_text hTl]; rfl
      have HHAS := Lib.hid hhas; have HAT := Lib.hid hat; have HK := Lib.hid hk; have HEND := Lib.hid hend
      clear hm h hg hr hhas hat hk hf hpm hpn hend htot hT hTl hle htk hbad hTs hlen hfit hsm
      go_enter Try.func32, Try.ntmps32
      go_wp2_with (first | (at_lookup; refine look_hit _ rfl _ _ rfl M _ X rfl hown.out n rfl HK.out (β p.n) HHAS.out HAT.out ?_))
      go_region
      go_wp2
      go_ret
      exact ⟨rfl, HEND.out _ rfl⟩
  | none =>
    have hhas : Maps.has X (.int .i64 n) = false := by rw [hm.has, hg]; rfl
    have hr : cutD A n size = (A, 4) := by unfold cutD; rw [hg]
    rw [hr]
    have HHAS := Lib.hid hhas; have HK := Lib.hid hk; have HH := Lib.hid h
    clear hm h hg hr hhas hk
    go_enter Try.func32, Try.ntmps32
    go_wp2_with (first | (at_lookup; refine look_miss _ rfl _ _ rfl M _ X rfl hown.out n rfl HK.out HHAS.out ?_))
    go_ret
    exact ⟨rfl, HH.out, Heap.Touch.refl _ _⟩

end
end Go.Proofs.Ytglgbidcmkncgaa.Dsk
