/- rillref.option at the list of times, walked. -/
import Derived.Test.YtglgbidcmkncgaaDoorTakeOpt
namespace Go.Proofs.YtglgbidcmkncgaaDoor.Subj
open Go.RowKit

theorem back_growC {W : World} {B T R g off gs : Nat} {r : List Tok} {arr : Array Value} {vb : Value} {bk : List Int} {pcs : List Tok} {wr : World} (h : TC W B T R g off r arr vb bk wr) (hst : StrsAt wr gs 0 pcs) (hgs : gs < wr.heap.size) (hR : R < wr.heap.size) (ho : ∀ j, Heap.own vb j → gs < j) (z : Int) :
    (wr.drew.alloc (.cells #[.int .i64 z] 3)).heap[T]? = some (.cells arr 37 (0, 0)) ∧ Heap.Row (wr.drew.alloc (.cells #[.int .i64 z] 3)) 3 1 vb bk.length (intsV bk) ∧
      ∀ v2 w2, Heap.Row w2 3 1 v2 (bk.length + 1) (intsV bk ++ [.int .i64 z]) → Heap.Touch (Heap.own vb) (wr.drew.alloc (.cells #[.int .i64 z] 3)) w2 → (∀ k, Heap.own v2 k → Heap.own vb k ∨ (wr.drew.alloc (.cells #[.int .i64 z] 3)).heap.size ≤ k) →
        TC W B T R g off r arr v2 (bk ++ [z]) w2 ∧ StrsAt w2 gs 0 pcs ∧ gs < w2.heap.size ∧ R < w2.heap.size ∧ (∀ j, Heap.own v2 j → gs < j) ∧ w2.heap[T]? = some (.cells arr 37 (0, 0)) := by
  have hba : Below wr.heap.size wr (wr.drew.alloc (.cells #[.int .i64 z] 3)) := ((Below.refl _ _).drew).alloc (Nat.le_refl _) _
  have hca := h.next hba
  have hsz : (wr.drew.alloc (.cells #[.int .i64 z] 3)).heap.size = wr.heap.size + 1 := by simp
  refine ⟨hca.cells, hca.row, fun v2 w2 r2 t2 o2 => ?_⟩
  have hc2 := hca.reback r2 t2 (by omega) o2
  have hs2 := t2.size
  refine ⟨hc2, ?_, by omega, by omega, ?_, hc2.cells⟩
  · exact StrsAt.touch (hst.below hba) t2 (fun hk => by have := ho _ hk; omega)
  · intro j hj
    rcases o2 j hj with hk | hk
    · exact ho j hk
    · omega

/-- So many of the times are laid. -/
def LB (w0 W : World) (B T R g off gs : Nat) (nb fb : ByteArray) (src start ack wait most pend : Int) (push : Bool) (r pcs : List Tok) (k : Nat) (w : World) : Prop :=
  Heap.Touch (fun k => k = T ∨ R < k) w0 w ∧ ∃ vb, TC W B T R g off r (tCells nb fb src start ack wait vb most pend push) vb ((pcs.take k).map numberOf) w ∧ StrsAt w gs 0 pcs ∧ gs < w.heap.size ∧ R < w.heap.size ∧ T < gs ∧ (∀ j, Heap.own vb j → gs < j)

theorem LB.next {w0 W wr : World} {B T R g off gs : Nat} {nb fb : ByteArray} {src start ack wait most pend : Int} {push : Bool} {r pcs : List Tok} {k : Nat} {vb : Value} {z : Int} (hT : T < gs) (hk : k < pcs.length) (hz : z = numberOf (pcs.getD k [])) (h0 : Heap.Touch (fun k => k = T ∨ R < k) w0 wr) (hvb : ∀ k, Heap.own vb k → R < k) :
    ∀ v2 w2, Heap.Touch (Heap.own vb) (wr.drew.alloc (.cells #[.int .i64 z] 3)) w2 → (TC W B T R g off r (tCells nb fb src start ack wait vb most pend push) v2 ((pcs.take k).map numberOf ++ [z]) w2 ∧ StrsAt w2 gs 0 pcs ∧ gs < w2.heap.size ∧ R < w2.heap.size ∧ (∀ j, Heap.own v2 j → gs < j) ∧ w2.heap[T]? = some (.cells (tCells nb fb src start ack wait vb most pend push) 37 (0, 0))) →
      w2.heap[T]? = some (.cells (tCells nb fb src start ack wait vb most pend push) 37 (0, 0)) ∧ LB w0 W B T R g off gs nb fb src start ack wait most pend push r pcs (k + 1) (w2.setCell ⟨T, 6, none⟩ v2) ∧
        (w2.setCell ⟨T, 6, none⟩ v2).cell? ⟨gs, k, none⟩ = some (.string (strAt pcs k)) := by
  rintro v2 w2 htt ⟨h1, h2, h3, h4, h5, h6⟩
  have ht : Heap.Touch (· = T) w2 (w2.setCell ⟨T, 6, none⟩ v2) := (Heap.Touch.refl (· = T) w2).setCell (.inl rfl) _
  have e1 : (pcs.take (k + 1)).map numberOf = (pcs.take k).map numberOf ++ [z] := by
    rw [hz, List.take_add_one, List.getElem?_eq_getElem hk]
    show ((pcs.take k) ++ [pcs[k]]).map numberOf = _
    rw [List.map_append]
    simp [List.getD, hk]
  have hs := h2.touch ht (show ¬ gs = T by omega)
  have hs2 := ht.size
  have hto : Heap.Touch (fun k => k = T ∨ R < k) w0 (w2.setCell ⟨T, 6, none⟩ v2) := by
    have a1 : Heap.Touch (fun k => k = T ∨ R < k) w0 (wr.drew.alloc (.cells #[.int .i64 z] 3)) := h0.drew.alloc _
    have a2 : Heap.Touch (fun k => k = T ∨ R < k) (wr.drew.alloc (.cells #[.int .i64 z] 3)) w2 := htt.mono fun k _ hk => .inr (hvb k hk)
    exact (a1.after a2).setCell (.inl (.inl rfl)) v2
  refine ⟨h6, ⟨hto, v2, ?_, hs, by omega, by omega, hT, h5⟩, ?_⟩
  · rw [e1]; exact h1.setT 6 v2
  · have := hs k hk
    rw [Nat.zero_add] at this
    exact this

theorem all_pos_take {pcs : List Tok} {k : Nat} (hk : k < pcs.length) (h : ((pcs.take k).all fun x => decide (0 < numberOf x)) = true) (hz : 0 < numberOf (pcs.getD k [])) : ((pcs.take (k + 1)).all fun x => decide (0 < numberOf x)) = true := by
  have e : pcs.getD k [] = pcs[k] := by simp [List.getD, hk]
  rw [e] at hz
  rw [List.take_add_one, List.getElem?_eq_getElem hk]
  show ((pcs.take k) ++ [pcs[k]]).all _ = true
  rw [List.all_append, h, List.all_cons, List.all_nil, Bool.and_true, Bool.true_and]
  exact decide_eq_true hz

theorem all_pos_bad {pcs : List Tok} {k : Nat} (hk : k < pcs.length) (hz : ¬ 0 < numberOf (pcs.getD k [])) : (pcs.all fun x => decide (0 < numberOf x)) = false := by
  rw [List.all_eq_false]
  exact ⟨pcs.getD k [], by simp [List.getD, hk], by simpa using hz⟩

set_option maxHeartbeats 4000000 in
set_option maxRecDepth 100000 in
theorem option_3 {W : World} {B T R g off : Nat} {r : List Tok} {nb fb : ByteArray} {src start ack wait : Int} {vb : Value} {back : List Int} {most pend : Int} {push : Bool} {w : World} (tn tf : List UInt8) (v : ByteArray) (hv : v.size ≤ 1024) (hR : R < w.heap.size)
    (h : TC W B T R g off r (tCells nb fb src start ack wait vb most pend push) vb back w) (hb : 3 ≤ 3 → back = [] ∧ vb = .slice none 0 0) :
    Calls Tryd.prog 69 #[.pointer (some ⟨T, 0, none⟩), .int .i64 3, .string v] w (OptPost W B T R g off r nb fb 3 v ⟨tn, tf, src, start, ack, wait, back, most, pend, push⟩ w) := by
  obtain ⟨rfl, rfl⟩ := hb (by decide)
  clear hb
  have HD := Lib.hid (digits_any v w (by unfold maxLen; omega))
  obtain ⟨pcs, hpcs⟩ : ∃ pcs, piecesC 44 v.data.toList = pcs := ⟨_, rfl⟩
  have hsp := pcs_any 44 v w (by omega)
  rw [hpcs] at hsp
  have hpl : ∀ k, (pcs.getD k []).length ≤ 1024 := fun k => by
    by_cases hk : k < pcs.length
    · have h2 := piecesC_mem 44 (s := v.data.toList) (t := pcs.getD k []) (by rw [hpcs]; simp [List.getD, hk])
      have h3 : v.data.toList.length = v.size := by simp
      omega
    · simp [List.getD, show pcs.length ≤ k by omega]
  have hpn : pcs.length ≤ 1025 := by
    have := piecesC_len (c := 44) v.data.toList
    have h4 := List.count_le_length (a := (44 : UInt8)) (l := v.data.toList)
    have h3 : v.data.toList.length = v.size := by simp
    rw [hpcs] at this
    omega
  have hopt : optT 3 v.data.toList ⟨tn, tf, src, start, ack, wait, [], most, pend, push⟩ = if (pcs.all fun x => decide (0 < numberOf x)) = true then Option.some ⟨tn, tf, src, start, ack, wait, pcs.map numberOf, most, pend, push⟩ else Option.none := by
    show (if ((piecesC 44 v.data.toList).all fun x => decide (0 < numberOf x)) = true then Option.some _ else Option.none) = _
    rw [hpcs]; rfl
  have HO := Lib.hid hopt; have HPL := Lib.hid hpl; have HSP := Lib.hid hsp; have HC := Lib.hid h
  have hTs := Heap.heap_lt h.cells
  obtain ⟨y0, y1, y2, y3, y4, y5, y6, y7, y8, y9, yf⟩ := ten h.cells
  clear hopt hpl hsp h hpcs
  generalize numberOf v.data.toList = nv at *
  go_enter Tryd.func69, Tryd.ntmps69
  go_wp2_with (go_at_call 61; refine HD.out.mono ?_; rintro e w' ⟨rfl, rfl⟩)
  refine HSP.out.mono ?_
  rintro e w1 ⟨gs, cap, rfl, hcap, hst, hgn, hgl, hb1⟩
  have hLB : LB w W B T R g off gs nb fb src start ack wait most pend push r pcs 0 w1 := ⟨Heap.Touch.ofBelow hb1, .slice none 0 0, HC.out.next hb1, hst, hgl, by have := hb1.size; omega, by omega, fun j hj => by simp [Heap.own, Value.ownBlock] at hj⟩
  have HLB := Lib.hid hLB
  clear hLB hst hb1 hgn hgl y0 y1 y2 y3 y4 y5 y6 y7 y8 y9 yf HC HSP HD hTs hR
  obtain ⟨i0, hi, hz0, hz1, hz2⟩ := info_parts info_int
  go_wp2_with fail
  go_loopw [9] (fun i wr => ∃ k : Nat, k ≤ pcs.length ∧ i = .int .i64 k ∧ Hid (LB w W B T R g off gs nb fb src start ack wait most pend push r pcs k wr) ∧ Hid (((pcs.take k).all fun x => decide (0 < numberOf x)) = true)) (fun i _ => pcs.length - (intOf i).toNat)
  case atStart => exact ⟨0, Nat.zero_le _, rfl, HLB, Lib.hid rfl⟩
  case round =>
    obtain ⟨k, hk, rfl, HB, HP⟩ := hrel
    by_cases hlt : k < pcs.length
    · have hltz : (k : Int) < pcs.length := by omega
      obtain ⟨hto, vbk, hT, hst, hgl, hRl, hTg, ho⟩ := HB.out
      have c0 := hst k hlt
      rw [Nat.zero_add] at c0
      have hsz : (strAt pcs k).size ≤ maxLen := by
        have := HPL.out k
        show (List.toArray (pcs.getD k [])).size ≤ _
        rw [List.size_toArray]; unfold maxLen; omega
      have hdg := fun w => digits_any (strAt pcs k) w hsz
      have hstr : (strAt pcs k).data.toList = pcs.getD k [] := rfl
      rw [hstr] at hdg
      have hnext := LB.next (W := W) (B := B) (R := R) (g := g) (off := off) (nb := nb) (fb := fb) (src := src) (start := start) (ack := ack) (wait := wait) (most := most) (pend := pend) (push := push) (r := r) (vb := vbk) (z := numberOf (pcs.getD k [])) hTg hlt rfl hto hT.nb
      have hbl : ((pcs.take k).map numberOf).length = k := by rw [List.length_map, List.length_take]; omega
      have hgrow := back_growC hT hst hgl hRl ho (numberOf (pcs.getD k []))
      rw [hbl] at hgrow
      have hgood := fun (q : 0 < numberOf (pcs.getD k [])) => all_pos_take hlt HP.out q
      have hbad := fun (q : ¬ 0 < numberOf (pcs.getD k [])) => all_pos_bad hlt q
      have y6 : wr.cell? ⟨T, 6, none⟩ = some vbk := cell_of_row wr _ 6 _ _ (0, 0) hT.cells
      have y6a : (wr.alloc (.cells #[.int .i64 (numberOf (pcs.getD k []))] 3)).cell? ⟨T, 6, none⟩ = some vbk := cell_of_row _ _ 6 _ _ (0, 0) hgrow.1
      have HDG := Lib.hid hdg; have HGR := Lib.hid hgrow.2; have HNX := Lib.hid hnext; have HGD := Lib.hid hgood; have HBD := Lib.hid hbad
      clear hto hT hst hRl hTg ho hsz hdg hnext hbl hgrow hstr hgl HB hgood hbad
      generalize strAt pcs k = TT at *
      generalize numberOf (pcs.getD k []) = z at *
      generalize (pcs.take k).map numberOf = bk at *
      go_upto_region 23 with fail
      go_region_law (first
        | (refine Heap.step_append_row _ rfl (.tmp 72) (.tmp 78) 35 rfl 3 i0 _ 1 8 Tryd.underlying35 hi hz0 hz1 hz2 rfl (by decide) vbk k (intsV bk) (by simp [Act.eval, Act.put]) HGR.out.1 ⟨wr.heap.size, 0, none⟩ 1 1 [.int .i64 z] (by simp [Act.eval, Act.put]) rfl (news_int wr.drew z _) (by simp [Value.oneCell']) (by unfold maxLen; omega) (by omega) ?_
           intro v2 w2 r2 t2 o2
           obtain ⟨a2, c2, rfl⟩ := r2.slice
           obtain ⟨hx1, hx2, hx3⟩ := HNX.out _ w2 t2 (HGR.out.2 _ w2 r2 t2 o2)
           obtain ⟨x0, x1, x2, x3, x4, x5, x6, x7, x8, x9, xf⟩ := ten hx1
           have HFIN := Lib.hid hx2
           have HFC := Lib.hid hx3
           clear hx1 hx2 hx3 r2 t2 o2)
        | (go_simp; go_at_call 61; refine (HDG.out _).mono ?_; rintro e w' ⟨rfl, rfl⟩))
      all_goals
        obtain ⟨w3, hw3⟩ : ∃ w3, w3 = w2.setCell ⟨T, 6, none⟩ (.slice a2 (k + 1) c2) := ⟨_, rfl⟩
        have c9 := HFC.out
        have hF := HFIN.out
        rw [← hw3] at c9 hF ⊢
        have HF := Lib.hid hF
        clear hw3 hF HFC HFIN x0 x1 x2 x3 x4 x5 x6 x7 x8 x9 xf HGR HNX y6 y6a c0
        by_cases hzp : 0 < z
        · have d : ¬ z < 1 := by omega
          go_wp2_with (go_at_call 61; refine (HDG.out _).mono ?_; rintro e w' ⟨rfl, rfl⟩)
          exact ⟨⟨k + 1, by omega, by go_num, HF, Lib.hid (HGD.out hzp)⟩, by simp [intOf]; omega⟩
        · have d : z < 1 := by omega
          have HOO := Lib.hid (HO.out.trans (if_neg (by rw [HBD.out hzp]; decide)))
          go_wp2_with (go_at_call 61; refine (HDG.out _).mono ?_; rintro e w' ⟨rfl, rfl⟩)
          go_ret
          obtain ⟨hto, vb2, hT2, _⟩ := HF.out
          exact ⟨hto, false, rfl, src, start, ack, wait, vb2, _, most, pend, push, hT2, fun e => (by cases e), fun _ => HOO.out, fun h => absurd h (by decide)⟩
    · have hltz : ¬ (k : Int) < pcs.length := by omega
      obtain rfl : k = pcs.length := by omega
      have hp := HP.out
      rw [List.take_of_length_le (Nat.le_refl _)] at hp
      obtain ⟨hto, vbk, hT, _⟩ := HB.out
      rw [List.take_of_length_le (Nat.le_refl _)] at hT
      have HT := Lib.hid hT; have HTO := Lib.hid hto
      have HOO := Lib.hid (HO.out.trans (if_pos hp))
      clear hto hT hp HP HB
      go_wp2
      go_ret
      exact ⟨HTO.out, true, rfl, src, start, ack, wait, vbk, _, most, pend, push, HT.out, fun _ => HOO.out, fun e => (by cases e), fun h => absurd h (by decide)⟩
end Go.Proofs.YtglgbidcmkncgaaDoor.Subj
