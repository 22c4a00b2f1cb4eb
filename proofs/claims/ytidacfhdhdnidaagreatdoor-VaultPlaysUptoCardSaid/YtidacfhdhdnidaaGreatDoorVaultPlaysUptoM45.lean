/- Parts of the proof, joined: rillref.Opened, walked.; What a list of records leaves is right, in plain Lean. No program here.; rillref.Safe: Compact, Crash, walked. -/
import Derived.Test.YtidacfhdhdnidaaGreatDoorVaultPlaysUptoM44
namespace Go.Proofs.YtidacfhdhdnidaaGreatDoor.Log
open Go.RowKit Heap Dsk Drw
open Subj (ML)
open Rec (Rc recErr recA rcOf codedL decL decV decoded_any)
open Sto (recsV recsV_len recsV_append recC RecsAt Fits parts sixC recV info_rec news_rec)

section
variable {W w : World} {G : Nat → Prop} {E : Nat} {room : Int} {A : List FileP}

/-- What Opened tells and leaves. -/
def OpenedPost (W : World) (G : Nat → Prop) (E : Nat) (room : Int) (w : World) (A : List FileP) (e : Ending) (w' : World) : Prop :=
  ∃ v G', e = .returned v ∧ DrawAt W G' E room (openD A).2 w' ∧ (∀ k, G' k → G k ∨ w.heap.size ≤ k) ∧ Row w' 33 6 v (openD A).1.length (recsV (openD A).1) ∧ (∀ k, own v k → w.heap.size ≤ k ∧ ¬ G' k) ∧ Heap.Touch G w w'

def OO (w1 : World) (R : List Rc) (o : Value) (wr : World) : Prop := Row wr 33 6 o R.length (recsV R) ∧ (∀ j, own o j → w1.heap.size ≤ j) ∧ Below w1.heap.size w1 wr

/-- The blocks behind the cut one go. -/
def OK3 (W : World) (G : Nat → Prop) (E : Nat) (room : Int) (A : List FileP) (w5 : World) (j : Nat) (wr : World) : Prop :=
  ∃ G', DrawAt W G' E room (stB A j) wr ∧ (∀ x, G' x → G x ∨ w5.heap.size ≤ x) ∧ Heap.Touch G w5 wr

theorem OO.next {w1 wr w' : World} {R : List Rc} {o : Value} (h : OO w1 R o wr) (hb : Below wr.heap.size wr w') : OO w1 R o w' := ⟨h.1.kept fun k _ hk => hb.block k hk, h.2.1, h.2.2.trans (hb.mono h.2.2.size)⟩

theorem outB_all {i : Nat} (hi : i = jB A) (hl : i < A.length) : outB A A.length = outB A (i + 1) := by
  unfold outB
  rw [show min A.length (jB A + 1) = jB A + 1 by omega, show min (i + 1) (jB A + 1) = jB A + 1 by omega]

set_option maxHeartbeats 8000000 in
set_option maxRecDepth 100000 in
theorem opened_drw (h : DrawAt W G E room A w) (hlt : ∀ k, G k → k < w.heap.size) :
    Calls Tryz.prog 41 #[.pointer (some ⟨E, 0, none⟩)] w (OpenedPost W G E room w A) := by
  have HLS := Lib.hid (list_drw h)
  have HD := Lib.hid h; have HLT := Lib.hid hlt; have HRT := Lib.hid h.right
  have hfew := h.right.few
  obtain ⟨L, hL⟩ : ∃ L, A.length = L := ⟨_, rfl⟩
  rw [hL] at hfew
  have HL := Lib.hid hL
  obtain ⟨i0, hi, hz0, hz1, hz2⟩ := info_parts info_rec
  clear h hlt hL
  go_enter Tryz.func41, Tryz.ntmps41
  go_wp2_with fail
  refine HLS.out.mono ?_
  rintro e w1 ⟨nv, rfl, hb1, hr1, ho1⟩
  rw [List.length_map, HL.out] at hr1
  obtain ⟨a1, n1, rfl⟩ := hr1.slice
  have HB1 := Lib.hid hb1; have HR1 := Lib.hid hr1; have HO1 := Lib.hid ho1
  have HD1 := Lib.hid (HD.out.next hb1)
  have h0 := Lib.hid (show OO w1 (outB A 0) (.slice none 0 0) w1 from by
    have e : outB A 0 = [] := by unfold outB; simp
    rw [e]
    exact ⟨Row.nil _ _ _, fun j hj => by simp [own, Value.ownBlock] at hj, Below.refl _ _⟩)
  clear hb1 hr1 ho1 HLS
  go_wp2_with fail
  go_loopw [3, 5] (fun o i wr => ∃ k : Nat, k ≤ L ∧ k ≤ jB A ∧ i = .int .i64 k ∧ Hid (OO w1 (outB A k) o wr)) (fun _ i _ => L - (intOf i).toNat)
  case atStart => exact ⟨0, Nat.zero_le _, Nat.zero_le _, rfl, h0⟩
  case round =>
    obtain ⟨k, hk, hkj, rfl, HR⟩ := hrel
    clear h0
    by_cases hlt : k < L
    · have hltz : (k : Int) < L := by omega
      obtain ⟨p, hp⟩ : ∃ p, A[k]? = some p := ⟨_, List.getElem?_eq_getElem (by rw [HL.out]; exact hlt)⟩
      obtain ⟨g, off, rfl⟩ : ∃ g off, a1 = some ⟨g, off, none⟩ := by
        rcases HR1.out.2 with ⟨_, e0⟩ | ⟨g, off, cap, cur, e, _⟩
        · omega
        · simp only [Value.slice.injEq] at e; exact ⟨g, off, e.1⟩
      have hbw : Below w1.heap.size w1 wr := HR.out.2.2
      have hrow := HR1.out.kept (w' := wr) fun j _ hj => hbw.block j hj
      have hcell := hrow.cell k (by omega)
      have hnk : (numsV (A.map (·.n)))[k]? = some (.int .i64 p.n) := by
        obtain ⟨hkl, e⟩ := List.getElem?_eq_some_iff.1 hp
        subst e
        simp [numsV, hkl]
      rw [hnk] at hcell
      have hc0 := hcell.1
      have hgf := getF_mem HRT.out.sorted (List.mem_of_getElem? hp)
      have hplen := HRT.out.len (List.mem_of_getElem? hp)
      have hrd := read_drw (HD1.out.next hbw) p.n
      have hrdd : readD A p.n = (p.text, 0) := by unfold readD; rw [hgf]
      rw [hrdd] at hrd
      simp only at hrd
      obtain ⟨T, hT⟩ : ∃ T : ByteArray, (⟨p.text.toArray⟩ : ByteArray) = T := ⟨_, rfl⟩
      have hTl : T.data.toList = p.text := by rw [← hT]
      have hTs : T.size = p.text.length := by rw [← hT]; show p.text.toArray.size = _; simp
      rw [hT] at hrd
      have hTz : T.size ≤ 65536 := by omega
      have HRD := Lib.hid hrd; have HP := Lib.hid hp; have HTL := Lib.hid hTl; have HTS := Lib.hid hTs; have HGF := Lib.hid hgf
      have hob := outB_len HRT.out k
      have HNC := Lib.hid (show ∀ w', Below w1.heap.size w1 w' → w'.cell? ⟨g, off + k, none⟩ = some (.int .i64 p.n) from fun w' hb => by
        have hrow := HR1.out.kept (w' := w') fun j _ hj => hb.block j hj
        have hcell := hrow.cell k (by omega)
        rw [hnk] at hcell
        exact hcell.1)
      clear hp hbw hrow hcell hnk hgf hplen hrd hrdd hT hTl hTs
      go_wp2_with fail
      refine HRD.out.mono ?_
      rintro e w2 ⟨rfl, hb2⟩
      obtain ⟨ol, hol⟩ : ∃ ol, (outB A k).length = ol := ⟨_, rfl⟩
      rw [hol] at hob
      have HOL := Lib.hid hol
      have h0 := Lib.hid (show OO w1 (outB A k ++ []) u3 w2 from by rw [List.append_nil]; exact HR.out.next hb2)
      clear hb2 HRD HR hc0 hol
      go_wp2_with fail
      go_loopw [3, 8] (fun o a wr => ∃ (C : List Rc) (m : Nat), a = .int .i64 m ∧ m ≤ T.size ∧ Hid (ScanAt p.text C m) ∧ Hid (OO w1 (outB A k ++ C) o wr)) (fun _ a _ => T.size - (intOf a).toNat)
      case atStart => exact ⟨[], 0, rfl, Nat.zero_le _, Lib.hid (ScanAt.zero _), h0⟩
      case round =>
        obtain ⟨C, m, rfl, hm, HS, HR⟩ := hrel
        clear h0
        obtain ⟨cl, hcl⟩ : ∃ cl, C.length = cl := ⟨_, rfl⟩
        have hc4 : cl * 4 ≤ m := by rw [← hcl]; exact HS.out.2.2
        have HCL := Lib.hid hcl
        clear hcl
        by_cases hmt : m < T.size
        · have hmtz : (m : Int) < T.size := by omega
          obtain ⟨X, hX⟩ : ∃ X : ByteArray, T.extract m T.size = X := ⟨_, rfl⟩
          have hXl : X.data.toList = p.text.drop m := by
            rw [← HTL.out, ← hX, ByteArray.data_extract, Array.toList_extract]
            simp
            exact List.take_of_length_le (by simp)
          have hXs : X.size ≤ T.size := by
            have h1 : X.data.toList.length = X.size := Array.length_toList
            rw [← h1, hXl, List.length_drop, ← HTS.out]; omega
          have hdc := decoded_any X wr (by omega)
          obtain ⟨x, hx⟩ : ∃ x, decL X.data.toList = x := ⟨_, rfl⟩
          rw [hx] at hdc
          have hxd : decL (p.text.drop m) = x := by rw [← hXl]; exact hx
          obtain ⟨r, nb, er⟩ := x
          obtain ⟨sb, hd, d, hpp⟩ := parts r
          unfold decV at hdc
          simp only at hdc
          rw [hpp.s1, hpp.h1, hpp.d1] at hdc
          have HDC := Lib.hid hdc; have HXD := Lib.hid hxd; have HXE := Lib.hid hX; have HPP := Lib.hid hpp
          clear hdc hx hxd hXl hXs hpp
          go_wp2_with fail
          refine HDC.out.mono ?_
          rintro e w3 ⟨rfl, hb3⟩
          obtain ⟨w4, hw4⟩ : ∃ w4, w4 = w3.alloc (.cells #[.int .i64 r.kind, .int .i64 r.seq, .int .i64 r.time, .string sb, .string hd, .string d] 33) := ⟨_, rfl⟩
          have hb4 : Below w3.heap.size w3 w4 := by rw [hw4]; exact (Below.refl _ _).alloc (Nat.le_refl _) _
          have he4 : w4.heap[w3.heap.size]? = some (.cells #[.int .i64 r.kind, .int .i64 r.seq, .int .i64 r.time, .string sb, .string hd, .string d] 33 (0, 0)) := by rw [hw4]; exact heap_alloc_new w3 _
          obtain ⟨bx, hbx⟩ : ∃ bx, w3.heap.size = bx := ⟨_, rfl⟩
          rw [hbx] at he4
          have HBX := Lib.hid hbx
          have hro := HR.out.next (hb3.trans (hb4.mono hb3.size))
          obtain ⟨q0, q1, q2, q3, q4, q5⟩ := sixC he4
          have HRO := Lib.hid hro
          clear hb3 hb4 he4 hbx HDC HR
          go_upto_region 10 with fail
          rw [← hw4, HBX.out]
          clear hw4
          by_cases her : er = 0
          · subst her
            have hez : (decL (p.text.drop m)).2.2 = 0 := by rw [HXD.out]
            have hnx := HS.out.next (by rw [← HTS.out]; exact hmt) hez
            rw [HXD.out] at hnx
            simp only at hnx
            have hle := hnx.2.1
            rw [← HTS.out] at hle
            have hz4 := (decL_size hez).1
            rw [HXD.out] at hz4
            simp only at hz4
            have HNX := Lib.hid hnx
            have hr := hro.1
            rw [List.length_append, HOL.out, HCL.out] at hr
            obtain ⟨va, vc, rfl⟩ := hr.slice
            have HRW := Lib.hid hr
            clear hnx hez hro hr
            go_wp2_with (at_builtin; refine Heap.wpList_append_row _ rfl (.tmp 66) (.tmp 68) 25 rfl 33 i0 _ 6 72 Tryz.underlying25 hi hz0 hz1 hz2 rfl (by decide) _ (ol + cl) _ rfl (HRW.out.kept (fun k _ hk => Below.heap_alloc w4 _ _ hk)) ⟨w4.heap.size, 0, none⟩ 1 1 [.int .i64 r.kind, .int .i64 r.seq, .int .i64 r.time, .string sb, .string hd, .string d] rfl rfl (news_rec w4 _ _ _ _ _ _ _) (by simp [Value.oneCell']) (by unfold maxLen; omega) (by omega) ?_)
            intro v5 w5 r5 t5 o5
            have hal : Below w4.heap.size w4 (w4.alloc (.cells #[.int .i64 r.kind, .int .i64 r.seq, .int .i64 r.time, .string sb, .string hd, .string d] 33)) := (Below.refl _ _).alloc (Nat.le_refl _) _
            have HF := Lib.hid (show OO w1 (outB A k ++ (C ++ [r])) v5 w5 from by
              have hbz := HRO.out.2.2.size
              refine ⟨?_, fun j hj => ?_, (HRO.out.2.2.trans (hal.mono hbz)).trans (t5.below (Nat.le_trans hbz hal.size) fun k hk => HRO.out.2.1 k hk)⟩
              · rw [← List.append_assoc, List.length_append, List.length_singleton, List.length_append, HOL.out, HCL.out, recsV_append, show recsV [r] = [.int .i64 r.kind, .int .i64 r.seq, .int .i64 r.time, .string sb, .string hd, .string d] from by rw [← HPP.out.s1, ← HPP.out.h1, ← HPP.out.d1]; rfl]
                exact r5
              · rcases o5 j hj with h | h
                · exact HRO.out.2.1 j h
                · have := hal.size; omega)
            clear r5 t5 o5 hal q0 q1 q2 q3 q4 q5
            go_wp2_with fail
            exact ⟨⟨C ++ [r], m + nb, by go_num, hle, HNX, HF⟩, by simp [intOf]; omega⟩
          · have he0 : ((er : Int) != 0) = true := by simpa using her
            have hend := HS.out.end_ (.inr (by rw [HXD.out]; exact her))
            have hbad : badF p = true := by
              unfold badF
              rw [hend]
              exact decide_eq_true (by rw [← HTS.out]; exact hmt)
            have hkb : k = jB A := by
              by_cases e : k < jB A
              · rw [jB_good HP.out e] at hbad; cases hbad
              · omega
            have hkA : k < A.length := by rw [HL.out]; exact hlt
            have hcf : cutF p = ⟨p.n, p.text.take m, m⟩ := by unfold cutF; rw [hend]
            obtain ⟨hg2, hst⟩ := stB_cut (A := A) (p := p) HRT.out.sorted (by rw [← hkb]; exact HP.out)
            rw [hcf, ← hkb] at hst
            have hcd : cutD A p.n m = (stB A (k + 1), 0) := by
              unfold cutD
              rw [HGF.out]
              simp only
              rw [if_neg (by have := HTS.out; omega), Int.toNat_natCast, hst]
            have hct := cut_drw (HD1.out.next hro.2.2) p.n m
            rw [hcd] at hct
            have hall : outB A A.length = outB A k ++ C := by
              rw [outB_all hkb hkA, outB_step HP.out (by omega)]
              unfold recsF
              rw [hend]
            have hc0 := HNC.out w4 hro.2.2
            have HCT := Lib.hid hct; have HALL := Lib.hid hall; have HKB := Lib.hid hkb
            have HNV4 := Lib.hid (HR1.out.kept (w' := w4) fun j _ hj => hro.2.2.block j hj)
            clear hend hbad hkb hkA hcf hg2 hst hcd hct hall hro her
            go_wp2_with fail
            refine HCT.out.mono ?_
            rintro e w5 ⟨rfl, hd5, ht5⟩
            have hz1 := HB1.out.size
            have hz4 := HRO.out.2.2.size
            have HNV5 := Lib.hid (HNV4.out.kept (w' := w5) fun j hj hlt => ht5.block j hlt fun e => by have := HO1.out j hj; have := HLT.out j e; omega)
            have HRO5 := Lib.hid (HRO.out.1.kept (w' := w5) fun j hj hlt => ht5.block j hlt fun e => by have := HRO.out.2.1 j hj; have := HLT.out j e; omega)
            have HT5 := Lib.hid (show Heap.Touch G w w5 from ((Heap.Touch.ofBelow HB1.out).after (Heap.Touch.ofBelow HRO.out.2.2)).after ht5)
            have h0 := Lib.hid (show OK3 W G E room A w5 (k + 1) w5 from ⟨G, hd5, fun x hx => .inl hx, Heap.Touch.refl _ _⟩)
            clear hd5 ht5 HCT HNV4 hc0 q0 q1 q2 q3 q4 q5
            go_wp2_with fail
            go_loopw [12] (fun s12 wr => ∃ j : Nat, k + 1 ≤ j ∧ j ≤ L ∧ s12 = .int .i64 j ∧ Hid (OK3 W G E room A w5 j wr)) (fun s12 _ => L - (intOf s12).toNat)
            case atStart => exact ⟨k + 1, Nat.le_refl _, by omega, by go_num, h0⟩
            case round =>
              obtain ⟨j, hj1, hj2, rfl, HR⟩ := hrel
              clear h0
              obtain ⟨G', hd6, hG6, ht6⟩ := HR.out
              by_cases hjl : j < L
              · have hjlz : (j : Int) < L := by omega
                obtain ⟨p2, hp2⟩ : ∃ p2, A[j]? = some p2 := ⟨_, List.getElem?_eq_getElem (by rw [HL.out]; exact hjl)⟩
                have hnk : (numsV (A.map (·.n)))[j]? = some (.int .i64 p2.n) := by
                  obtain ⟨hkl, e⟩ := List.getElem?_eq_some_iff.1 hp2
                  subst e
                  simp [numsV, hkl]
                have hrow := HNV5.out.kept (w' := wr) fun i hi hlt => ht6.block i hlt fun e => by have := HO1.out i hi; have := HLT.out i e; omega
                have hcell := hrow.cell j (by omega)
                rw [hnk] at hcell
                have hc0 := hcell.1
                obtain ⟨hg, hdl⟩ := stB_del HRT.out.sorted hp2 (show jB A < j by have := HKB.out; omega)
                have hrm := remove_drw hd6 p2.n
                have hrd : removeD (stB A j) p2.n = (stB A (j + 1), 0) := by unfold removeD; rw [hg]; simp only; rw [hdl]
                rw [hrd] at hrm
                have HRM := Lib.hid hrm
                have HG6 := Lib.hid (And.intro hG6 ht6)
                clear hp2 hnk hrow hcell hg hdl hrm hrd hd6 hG6 ht6 HR
                go_wp2_with fail
                refine HRM.out.mono ?_
                rintro e w7 ⟨rfl, hd7, ht7⟩
                have HNX := Lib.hid (show OK3 W G E room A w5 (j + 1) w7 from by
                  obtain ⟨hG6, ht6⟩ := HG6.out
                  refine ⟨_, hd7, fun x hx => ?_, ht6.trans ht7 fun x hx hf => ?_⟩
                  · rcases hx with hx | hx
                    · exact hG6 x hx
                    · exact .inr (Nat.le_trans ht6.size hx)
                  · rcases hG6 x hf with e | e
                    · exact e
                    · omega)
                clear hd7 ht7 HRM HG6 hc0
                go_wp2_with fail
                exact ⟨⟨j + 1, by omega, by omega, by go_num, HNX⟩, by simp [intOf]; omega⟩
              · have hjlz : ¬ (j : Int) < L := by omega
                obtain rfl : j = L := by omega
                have HF := Lib.hid (show OpenedPost W G E room w A (.returned u3) wr from by
                  refine ⟨_, G', rfl, ?_, fun x hx => ?_, ?_, fun x hx => ?_, HT5.out.trans ht6 fun _ _ hf => hf⟩
                  · rw [openD_all, HL.out]; exact hd6
                  · rcases hG6 x hx with e | e
                    · exact .inl e
                    · exact .inr (Nat.le_trans HT5.out.size e)
                  · rw [openD_all, HALL.out]
                    exact HRO5.out.kept fun x hx hlt => ht6.block x hlt fun e => by have := HRO.out.2.1 x hx; have := HLT.out x e; omega
                  · have h1 := HRO.out.2.1 x hx
                    have h2 := HRO5.out.lt x hx
                    refine ⟨by omega, fun e => ?_⟩
                    rcases hG6 x e with e | e
                    · have := HLT.out x e; omega
                    · omega)
                clear hd6 hG6 ht6 HR
                go_wp2_with fail
                go_ret
                exact HF.out
        · have hmtz : ¬ (m : Int) < T.size := by omega
          have hend := HS.out.end_ (.inl (by rw [← HTS.out]; omega))
          have hgood : badF p = false := by
            unfold badF
            rw [hend]
            exact decide_eq_false (by rw [← HTS.out]; omega)
          have hkb : k ≠ jB A := fun e => by
            rw [jB_bad (A := A) (p := p) (by rw [← e]; exact HP.out)] at hgood; cases hgood
          have HNX := Lib.hid (show OO w1 (outB A (k + 1)) u3 wr from by
            rw [outB_step HP.out hkj]
            unfold recsF
            rw [hend]
            exact HR.out)
          have hkj1 : k + 1 ≤ jB A := by omega
          clear hend hgood hkb HR
          go_wp2_with fail
          exact ⟨⟨k + 1, by omega, hkj1, by go_num, HNX⟩, by simp [intOf]; omega⟩
    · have hltz : ¬ (k : Int) < L := by omega
      obtain rfl : k = L := by omega
      have HF := Lib.hid (show OpenedPost W G E room w A (.returned u3) wr from by
        obtain ⟨h1, h2, h3⟩ := HR.out
        have hz1 := HB1.out.size
        have hst : stB A k = A := by unfold stB; rw [if_neg (by omega)]
        refine ⟨_, G, rfl, ?_, fun x hx => .inl hx, ?_, fun x hx => ?_, (Heap.Touch.ofBelow HB1.out).after (Heap.Touch.ofBelow h3)⟩
        · rw [openD_all, HL.out, hst]; exact HD1.out.next h3
        · rw [openD_all, HL.out]; exact h1
        · have h1 := h2 x hx
          exact ⟨by omega, fun e => by have := HLT.out x e; omega⟩)
      clear HR
      go_wp2_with fail
      go_ret
      exact HF.out
end
end Go.Proofs.YtidacfhdhdnidaaGreatDoor.Log

namespace Go.Proofs.YtidacfhdhdnidaaGreatDoor.Sto
open Subj (Tok pieces takes)
open Rec (Rc recErr far)
open Idx (Ents)
open Shf (SortedE putL)

/-- The subjects of few kinds are counted by an index. -/
theorem idx_of {L : List Rc} (h : dist L ≤ 100) : ∀ k, k ≤ L.length → ∃ J : Ents, SortedE J ∧ Counts J (L.take k)
  | 0, _ => ⟨[], List.Pairwise.nil, fun s n => by simp [cntR]⟩
  | k + 1, hk => by
    obtain ⟨J, h1, h2⟩ := idx_of h k (by omega)
    obtain ⟨p, hp⟩ : ∃ p, L[k]? = some p := ⟨_, List.getElem?_eq_getElem (by omega)⟩
    refine ⟨(putL 0 J p.subj ((cntR (L.take k) p.subj : Int) + 1)).1, put_sorted h1, ?_⟩
    rw [take_snoc hp]
    refine counts_add h1 h2 p ?_
    by_cases hc : cntR (L.take k) p.subj = 0
    · have := dist_room hp h hc
      have h3 := counts_dist h1 h2
      exact .inr (by omega)
    · exact .inl hc

theorem right_after {L : List Rc} {last : Int} {I : Ents} (h : Right L last I) (hd : dist L ≤ 100) (r : Rc) : ∃ J, Right (after L last r).1 (after L last r).2 J := by
  have hd2 := dist_after (last := last) (r := r) hd
  obtain ⟨J, hs, hc⟩ := idx_of hd2 _ (Nat.le_refl _)
  rw [List.take_length] at hc
  refine ⟨J, ?_⟩
  unfold after at hc ⊢
  by_cases ht : tryD L last r = 0
  · rw [if_pos ht] at hc ⊢
    have hz := try_zero ht
    simp only at hc ⊢
    by_cases hk : r.kind = 1
    · have e1 : leftS L r = L ++ [r] := by unfold leftS; rw [if_pos hk]
      have e2 : lastS last r = r.seq := by unfold lastS; rw [if_pos hk]
      rw [e1] at hc ⊢
      rw [e2]
      exact right_append h hz.1 hk (hz.2.1 hk).1 (hz.2.1 hk).2.1 hs hc
    · by_cases hk4 : r.kind = 4
      · have e1 : leftS L r = L := by unfold leftS; rw [if_neg hk, if_neg (by omega), if_neg (by omega)]
        have e2 : lastS last r = max last r.seq := by unfold lastS; rw [if_neg hk, if_pos hk4]
        rw [e1] at hc ⊢
        rw [e2]
        have hq := Rec.recErr_sizes hz.1
        have := right_last h (q := r.seq) ⟨by omega, hq.2.2.2.1⟩
        exact { this with sorted := hs, count := hc }
      · have e2 : lastS last r = last := by unfold lastS; rw [if_neg hk, if_neg hk4]
        rw [e2]
        refine right_sub h ?_ hs hc
        unfold leftS
        rw [if_neg hk]
        split
        · exact List.filter_sublist
        · split
          · exact List.filter_sublist
          · exact List.Sublist.refl _
  · rw [if_neg ht] at hc ⊢
    exact { h with sorted := hs, count := hc }

theorem right_run (l : List Rc) : ∃ I, Right (runS l).1 (runS l).2 I := by
  suffices h : ∀ k, k ≤ l.length → ∃ I, Right (runS (l.take k)).1 (runS (l.take k)).2 I by
    have := h l.length (Nat.le_refl _)
    rw [List.take_length] at this
    exact this
  intro k
  induction k with
  | zero =>
    intro _
    exact ⟨[], List.Pairwise.nil, (fun _ h => by cases h), (fun _ h => by cases h), by simp [runS], ⟨Int.le_refl _, by show (0 : Int) ≤ far; unfold far; omega⟩, List.Pairwise.nil, fun s n => by simp [runS, cntR]⟩
  | succ k ih =>
    intro hk
    obtain ⟨I, hI⟩ := ih (by omega)
    obtain ⟨p, hp⟩ : ∃ p, l[k]? = some p := ⟨_, List.getElem?_eq_getElem (by omega)⟩
    rw [runS_step hp]
    exact right_after hI (dist_runS _) p
end Go.Proofs.YtidacfhdhdnidaaGreatDoor.Sto

namespace Go.Proofs.YtidacfhdhdnidaaGreatDoor.Vlt
open Go.RowKit Heap Dsk Log Drw
open Subj (ML)
open Rec (Rc recErr recA rcOf codedL)
open Sto (ChAt NextCh tryD after runS RecsAt Fits parts sixC recV recsV recsV_append recsV_one try_ch apply_ch Right dist row_recs news_rec info_rec)

section
variable {W w w1 : World} {F : Nat → Prop} {X E C : Nat} {room size : Int} {s : Vt} {I : Idx.Ents}

set_option maxHeartbeats 8000000 in
set_option maxRecDepth 100000 in
theorem compact_sf (h : SfAt W F X E C room size s w) (hR : Right s.L s.last I) :
    Calls Tryz.prog 68 #[.pointer (some ⟨X, 0, none⟩)] w (SPost W F X E C room size w (compV room size s)) := by
  obtain ⟨G, v, hP, hF⟩ := h.ex
  obtain ⟨c0, c1, c2, cf⟩ := threeC hP.cells
  obtain ⟨d0, d1, df⟩ := Sto.twoC hP.ch.cell
  obtain ⟨L, hL⟩ : ∃ L, s.L = L := ⟨_, rfl⟩
  obtain ⟨last, hlast⟩ : ∃ last, s.last = last := ⟨_, rfl⟩
  have hLL : allV s = L ++ if 0 < last then [markR last] else [] := by unfold allV; rw [hL, hlast]
  have hcv : compV room size s = (⟨(rewD room size s.A (allV s)).1, s.L, s.last⟩, (rewD room size s.A (allV s)).2) := rfl
  obtain ⟨mk, hmk⟩ : ∃ mk, (if 0 < last then [markR last] else []) = mk := ⟨_, rfl⟩
  rw [hcv, hLL, hmk]
  have HMK := Lib.hid hmk
  have hfits := fits_good hR
  have hfew := hR.few
  have hrow := hP.ch.row
  rw [hL] at hfits hfew hrow
  rw [hlast] at d1
  obtain ⟨n, hn⟩ : ∃ n, L.length = n := ⟨_, rfl⟩
  rw [hn] at hfew hrow
  obtain ⟨va, vc, rfl⟩ := hrow.slice
  have HH := Lib.hid h; have HP := Lib.hid (And.intro hP hF); have HN := Lib.hid hn; have HLA := Lib.hid hlast; have HFT := Lib.hid hfits; have HROW := Lib.hid hrow; have HONE := Lib.hid (recsV_one L)
  obtain ⟨i0, hi, hz0, hz1, hz2⟩ := info_parts info_rec
  clear h hP hF hR hL hlast hLL hcv hfits hn hrow hmk
  go_enter Tryz.func68, Tryz.ntmps68
  go_upto_region 2 with (at_builtin; refine Heap.wpList_append_rows rfl (.const (.slice none 0 0)) (.tmp 10) 25 rfl 33 i0 _ 6 72 Tryz.underlying25 hi hz0 hz1 hz2 rfl (by decide) (.slice none 0 0) _ 0 n [] (recsV L) rfl rfl (Row.nil _ _ _) HROW.out HONE.out (by unfold maxLen; omega) (by omega) ?_)
  intro v1 w1 r1 t1 o1
  have hb1 : Below w.heap.size w w1 := t1.below (Nat.le_refl _) fun k hk => by simp [own, Value.ownBlock] at hk
  have ho1 : ∀ k, own v1 k → w.heap.size ≤ k := fun k hk => by
    rcases o1 k hk with e | e
    · simp [own, Value.ownBlock] at e
    · exact e
  obtain ⟨a1, n1, rfl⟩ := r1.slice
  have HB1 := Lib.hid hb1; have HO1 := Lib.hid ho1; have HR1 := Lib.hid r1
  clear c0 c1 c2 cf d0 d1 df
  obtain ⟨hP, hF⟩ := HP.out
  obtain ⟨c0, c1, c2, cf⟩ := threeC (hP.low hb1).cells
  obtain ⟨d0, d1, df⟩ := Sto.twoC (hP.low hb1).ch.cell
  rw [HLA.out] at d1
  clear r1 t1 o1 hb1 ho1 hP hF
  by_cases hl : 0 < last
  · obtain rfl : [markR last] = mk := by have := HMK.out; rw [if_pos hl] at this; exact this
    clear HMK
    go_upto_region 4 with (at_builtin; refine Heap.wpList_append_row _ rfl (.tmp 20) (.tmp 29) 25 rfl 33 i0 _ 6 72 Tryz.underlying25 hi hz0 hz1 hz2 rfl (by decide) _ n _ rfl (HR1.out.kept (fun k _ hk => Below.heap_alloc w1 _ _ hk)) ⟨w1.heap.size, 0, none⟩ 1 1 [.int .i64 4, .int .i64 last, .int .i64 0, .string ⟨#[]⟩, .string ⟨#[]⟩, .string ⟨#[]⟩] rfl rfl (news_rec w1 _ _ _ _ _ _ _) (by simp [Value.oneCell']) (by unfold maxLen; omega) (by omega) ?_)
    intro v3 w3 r3 t3 o3
    have hal : Below w1.heap.size w1 (w1.alloc (.cells #[.int .i64 4, .int .i64 last, .int .i64 0, .string ⟨#[]⟩, .string ⟨#[]⟩, .string ⟨#[]⟩] 33)) := (Below.refl _ _).alloc (Nat.le_refl _) _
    have hb3 : Below w.heap.size w w3 := (HB1.out.trans (hal.mono HB1.out.size)).trans (t3.below (by have := HB1.out.size; have := hal.size; omega) fun k hk => HO1.out k hk)
    obtain ⟨x3, hx3⟩ : ∃ x3, x3 = w3.drew := ⟨_, rfl⟩
    have hbx : Below w3.heap.size w3 x3 := by rw [hx3]; exact (Below.refl _ _).drew
    have hbx0 : Below w.heap.size w x3 := hb3.trans (hbx.mono hb3.size)
    obtain ⟨hP, hF⟩ := HP.out
    clear c0 c1 c2 cf d0 d1 df
    obtain ⟨c0, c1, c2, cf⟩ := threeC (hP.low hb3).cells
    have hrs : Row x3 33 6 v3 (L ++ [markR last]).length (recsV (L ++ [markR last])) := by
      rw [List.length_append, List.length_singleton, HN.out, recsV_append]
      exact r3.kept fun k _ hk => hbx.block k hk
    have hPx := hP.low hbx0
    have hrw := rewritten_drw (size := size) hPx.drw hPx.ltG (row_recs hrs) (by rw [List.length_append, List.length_singleton, HN.out]; omega) (fun r hr => by
      rcases List.mem_append.1 hr with hr | hr
      · exact HFT.out r hr
      · simp at hr; subst hr; exact fits_mark last)
    have HRW := Lib.hid hrw; have H3 := Lib.hid (And.intro (HH.out.low hbx0) (And.intro hPx hF)); have HB3 := Lib.hid hbx0
    obtain ⟨a3, n3, rfl⟩ := r3.slice
    clear r3 t3 o3 hal hb3 hbx hbx0 hP hF hrs hPx hrw HR1
    go_wp2_with fail
    go_still_tail 9, (by kernel_rfl)
    change wpList _ _ _ _ _ w3.drew
    rw [← hx3]
    clear hx3
    go_wp2_with fail
    refine HRW.out.mono ?_
    rintro e w4 ⟨rfl, hd4, ht4⟩
    obtain ⟨h3, hP, hF⟩ := H3.out
    have HF := Lib.hid (show SPost W F X E C room size w (⟨(rewD room size s.A (L ++ [markR last])).1, s.L, s.last⟩, (rewD room size s.A (L ++ [markR last])).2) (.returned (.int .i64 ((rewD room size s.A (L ++ [markR last])).2 : Nat))) w4 from ⟨rfl, NextSf.trans (F' := F) (fun k hk => .inl hk) (Heap.Touch.ofBelow HB3.out) (h3.drwS hP hF hd4 ht4)⟩)
    clear h3 hP hF hd4 ht4 HRW H3 HB3
    go_wp2_with fail
    go_ret
    exact HF.out
  · obtain rfl : [] = mk := by have := HMK.out; rw [if_neg hl] at this; exact this
    clear HMK
    go_upto_region 4 with fail
    obtain ⟨x3, hx3⟩ : ∃ x3, x3 = w1.drew := ⟨_, rfl⟩
    have hbx : Below w1.heap.size w1 x3 := by rw [hx3]; exact (Below.refl _ _).drew
    have hbx0 : Below w.heap.size w x3 := HB1.out.trans (hbx.mono HB1.out.size)
    obtain ⟨hP, hF⟩ := HP.out
    have hrs : Row x3 33 6 (.slice a1 n n1) L.length (recsV L) := by
      rw [HN.out]
      exact HR1.out.kept fun k _ hk => hbx.block k hk
    have hPx := hP.low hbx0
    have hrw := rewritten_drw (size := size) hPx.drw hPx.ltG (row_recs hrs) (by rw [HN.out]; omega) HFT.out
    have HRW := Lib.hid hrw; have H3 := Lib.hid (And.intro (HH.out.low hbx0) (And.intro hPx hF)); have HB3 := Lib.hid hbx0
    clear hbx hbx0 hP hF hrs hPx hrw HR1
    go_wp2_with fail
    go_still_tail 9, (by kernel_rfl)
    change wpList _ _ _ _ _ w1.drew
    rw [← hx3]
    clear hx3
    go_wp2_with fail
    refine HRW.out.mono ?_
    rintro e w4 ⟨rfl, hd4, ht4⟩
    obtain ⟨h3, hP, hF⟩ := H3.out
    have HF := Lib.hid (show SPost W F X E C room size w (⟨(rewD room size s.A (L ++ [])).1, s.L, s.last⟩, (rewD room size s.A (L ++ [])).2) (.returned (.int .i64 ((rewD room size s.A L).2 : Nat))) w4 from by rw [List.append_nil]; exact ⟨rfl, NextSf.trans (F' := F) (fun k hk => .inl hk) (Heap.Touch.ofBelow HB3.out) (h3.drwS hP hF hd4 ht4)⟩)
    clear h3 hP hF hd4 ht4 HRW H3 HB3
    go_wp2_with fail
    go_ret
    exact HF.out
end
end Go.Proofs.YtidacfhdhdnidaaGreatDoor.Vlt
