/- rillref.values and rillref.Plan, walked. -/
import Derived.Test.YtglgbidcmkncgaaDoorPlanMem
import Derived.Deep.RegionHeld3
import Derived.Deep.RegionWith
import Derived.StillTailTactics
import Derived.Deep.DeepCutAuto
import Derived.Deep.QuietTactic
import Derived.BigQuiet
namespace Go.Proofs.YtglgbidcmkncgaaDoor.Subj
open Go.RowKit

/-- Numbers that lie somewhere. -/
def NumsAt (g : Nat) (vs : List Int) (w : World) : Prop := ∀ k, k < 8 → w.cell? ⟨g, k, none⟩ = some (.int .i64 (vs.getD k 0))

theorem NumsAt.below {g : Nat} {vs : List Int} {w w' : World} (h : NumsAt g vs w) (hb : Below w.heap.size w w') : NumsAt g vs w' := fun k hk =>
  (hb.cell (World.block_lt_of_cell? w _ (h k hk))).trans (h k hk)

theorem nums_made (vs : List Int) (hl : vs.length = 8) (w : World) (t : TypeId) (g : Nat) (hg : g = w.heap.size) : NumsAt g vs (w.alloc (.cells (vs.map (Value.int .i64)).toArray t)) := fun k hk => by
  subst hg
  rw [World.cell?_alloc_at _ _ _ _ rfl]
  simp [List.getD, show k < vs.length by omega]

def ValuesPost (w : World) (vs : List Int) (e : Ending) (w' : World) : Prop :=
  ∃ g1 g2, e = .returned (.tuple #[.slice (some ⟨g1, 0, none⟩) 8 8, .slice (some ⟨g2, 0, none⟩) 8 8]) ∧ NumsAt g1 vs w' ∧ NumsAt g2 mosts w' ∧ Below w.heap.size w w'

set_option maxHeartbeats 1000000 in
set_option maxRecDepth 100000 in
theorem values_any (name : ByteArray) (v : Value) (x0 x1 x2 x3 x4 x5 x6 x7 : Int) (w : World) :
    Calls Tryd.prog 62 #[.agg #[.string name, v, .int .i64 x0, .int .i64 x1, .int .i64 x2, .int .i64 x3, .int .i64 x4, .int .i64 x5, .int .i64 x6, .int .i64 x7]] w (ValuesPost w [x0, x1, x2, x3, x4, x5, x6, x7]) := by
  go_enter Tryd.func62, Tryd.ntmps62
  go_wp2
  go_ret2
  refine ⟨w.heap.size + 1, w.heap.size + 1 + 1, rfl, ?_, ?_, by go_grown⟩
  · exact (nums_made [x0, x1, x2, x3, x4, x5, x6, x7] rfl (w.alloc _) _ (w.heap.size + 1) (by simp)).below ((Below.refl _ _).alloc (Nat.le_refl _) _)
  · exact nums_made mosts rfl ((w.alloc _).alloc _) _ (w.heap.size + 1 + 1) (by simp)

/-! ### The check -/
theorem over_comm (f g : Tok) : over f g = over g f := overlap_comm _ _

def ROver (w0 : World) (b : Bool) (e : Ending) (w' : World) : Prop := e = .returned (.bool b) ∧ Inv w0 w'

theorem refOver_inv {w0 : World} (f g : Tok) (hf : f.length ≤ 1048576) (hg : g.length ≤ 1048576) (w : World) (h : Inv w0 w) :
    Calls Tryd.prog 91 #[.string ⟨f.toArray⟩, .string ⟨g.toArray⟩] w (ROver w0 (over f g)) :=
  (overlapS_ref ⟨f.toArray⟩ ⟨g.toArray⟩ w (by show f.toArray.size ≤ _; simpa using hf) (by show g.toArray.size ≤ _; simpa using hg)).mono fun e w' ⟨a, c⟩ => ⟨a, h.step c⟩

theorem refFilt_inv {w0 : World} (f : Tok) (hf : f.length ≤ 1048576) (w : World) (h : Inv w0 w) : Calls Tryd.prog 80 #[.string ⟨f.toArray⟩] w (IntRet w0 (err true f)) :=
  refFilter_inv ⟨f.toArray⟩ (by show f.toArray.size ≤ _; simpa using hf) w h

theorem in_flip (n lo hi : Int) (w : World) : Calls Tryd.prog 85 #[.int .i64 n, .int .i64 lo, .int .i64 hi] w fun e w' => e = .returned (.bool (decide (lo ≤ n) && decide (n ≤ hi))) ∧ w' = w :=
  (in_any n lo hi w).mono fun _ _ ⟨a, b⟩ => ⟨a, b.symm⟩

theorem ten_alloc (w : World) (t : TypeId) (a0 a1 a2 a3 a4 a5 a6 a7 a8 a9 : Value) : (w.alloc (.cells #[a0, a1, a2, a3, a4, a5, a6, a7, a8, a9] t)).heap[w.heap.size]? = some (.cells #[a0, a1, a2, a3, a4, a5, a6, a7, a8, a9] t (0, 0)) := heap_alloc_new w _

theorem Inv.blk {w0 w : World} (h : Inv w0 w) {B : Nat} {o : Obj} (hz : w0.heap[B]? = some o) : w.heap[B]? = some o :=
  (h.2.block _ (Array.getElem?_eq_some_iff.1 hz).1).trans hz

set_option maxHeartbeats 4000000 in
set_option maxRecDepth 100000 in
theorem refCheck_any (name : ByteArray) (ao : Option Addr) (n cap : Nat) (fs : List Tok) (x0 x1 x2 x3 x4 x5 x6 x7 : Int) (w : World) (hnm : name.size ≤ maxLen) (hn : fs.length = n) (hS : Strs w (.slice ao n cap) fs) (hz : Small fs) (hm : ML w) :
    Calls Tryd.prog 46 #[.agg #[.string name, .slice ao n cap, .int .i64 x0, .int .i64 x1, .int .i64 x2, .int .i64 x3, .int .i64 x4, .int .i64 x5, .int .i64 x6, .int .i64 x7]] w (IntRet w (planErr name.data.toList fs [x0, x1, x2, x3, x4, x5, x6, x7])) := by
  obtain ⟨r, hr⟩ : ∃ r, planErr name.data.toList fs [x0, x1, x2, x3, x4, x5, x6, x7] = r := ⟨_, rfl⟩
  rw [hr]
  unfold planErr at hr
  obtain ⟨w1, hw1⟩ : ∃ w1, w1 = w.alloc (.cells #[.string name, .slice ao n cap, .int .i64 x0, .int .i64 x1, .int .i64 x2, .int .i64 x3, .int .i64 x4, .int .i64 x5, .int .i64 x6, .int .i64 x7] 29) := ⟨_, rfl⟩
  have hI1 : Inv w w1 := by rw [hw1]; exact Inv.made hm _
  have hB1 := ten_alloc w 29 (.string name) (.slice ao n cap) (.int .i64 x0) (.int .i64 x1) (.int .i64 x2) (.int .i64 x3) (.int .i64 x4) (.int .i64 x5) (.int .i64 x6) (.int .i64 x7)
  rw [← hw1] at hB1
  have hS1 := hS.below hI1.2
  have hN := fun w => refNamed_any name w hnm
  have hcap : n ≤ cap := by
    obtain ⟨_, _, e, h, _⟩ := hS
    simp only [Value.slice.injEq] at e
    obtain ⟨_, _, rfl⟩ := e
    rw [hn] at h; exact h
  have HI1 := Lib.hid hI1; have HB1 := Lib.hid hB1; have HS1 := Lib.hid hS1; have HN := Lib.hid hN; have HR := Lib.hid hr
  clear hI1 hB1 hS1 hN hr hS hm hnm
  generalize nameOk name.data.toList = nb at *
  go_enter Tryd.func46, Tryd.ntmps46
  go_wp2_with fail
  rw [← hw1]
  obtain ⟨y0, y1, y2, y3, y4, y5, y6, y7, y8, y9, yf⟩ := ten HB1.out
  have HW1 := Lib.hid hw1
  clear hw1
  have HML := Lib.hid HI1.out.1
  have hI0 : ∀ wr, Inv w1 wr → Inv w wr := fun wr h => HI1.out.thru h
  have hB0 : ∀ wr, Inv w1 wr → wr.heap[w.heap.size]? = some (.cells #[.string name, .slice ao n cap, .int .i64 x0, .int .i64 x1, .int .i64 x2, .int .i64 x3, .int .i64 x4, .int .i64 x5, .int .i64 x6, .int .i64 x7] 29 (0, 0)) := fun wr h => h.blk HB1.out
  have HI0 := Lib.hid hI0; have HB0 := Lib.hid hB0
  clear hI0 hB0
  cases nb with
  | false =>
    obtain rfl : r = 3 := by rw [← HR.out]; rfl
    go_wp2_with fail
    refine (HN.out _).mono ?_
    rintro e w' ⟨rfl, rfl⟩
    go_wp2
    go_ret
    exact ⟨rfl, HI1.out⟩
  | true =>
    have hr2 : (if filtersErr fs = 0 then if inAll [x0, x1, x2, x3, x4, x5, x6, x7] = true then 0 else 1 else filtersErr fs) = r := by rw [← HR.out]; rfl
    unfold filtersErr at hr2
    rw [hn] at hr2
    clear HR
    by_cases h4 : 4 < n
    · simp only [h4, if_true] at hr2
      obtain rfl : r = 2 := hr2.symm
      clear hr2
      go_wp2_with fail
      refine (HN.out _).mono ?_
      rintro e w' ⟨rfl, rfl⟩
      go_wp2
      go_ret
      exact ⟨rfl, HI1.out⟩
    by_cases h0 : n = 0
    · simp only [h4, h0, if_true, if_false] at hr2
      obtain rfl : r = 1 := hr2.symm
      have d : ((n : Int) == 0) = true := by simp [h0]
      clear hr2 h0
      go_wp2_with fail
      refine (HN.out _).mono ?_
      rintro e w' ⟨rfl, rfl⟩
      go_wp2
      go_ret
      exact ⟨rfl, HI1.out⟩
    simp only [h4, h0, if_false] at hr2
    have d : ((n : Int) == 0) = false := by simp [h0]
    obtain ⟨ao', cap', e', _, hat⟩ := HS1.out
    simp only [Value.slice.injEq] at e'
    obtain ⟨rfl, -, rfl⟩ := e'
    obtain ⟨g, off, rfl, hst⟩ := hat (by intro e; rw [e] at hn; simp at hn; omega)
    have HC := Lib.hid (fun i (hi : i < n) wr (h : Inv w1 wr) => (hst.below h.2 i (by rw [hn]; exact hi) : wr.cell? ⟨g, off + i, none⟩ = some (.string ⟨(fs.getD i []).toArray⟩)))
    have HF := Lib.hid (fun i wr (h : Inv w1 wr) => refFilt_inv (w0 := w1) (fs.getD i []) (hz i) wr h)
    have HO := Lib.hid (fun i a wr (h : Inv w1 wr) => refOver_inv (w0 := w1) (fs.getD i []) (fs.getD a []) (hz i) (hz a) wr h)
    have HR2 := Lib.hid hr2
    have HNL := Lib.hid hn
    have HIR := Lib.hid (Inv.refl (w := w1) HML.out)
    clear hr2 hn hst hat h0 HS1 hz
    rename_i q0
    clear q0
    go_wp2_with fail
    refine (HN.out _).mono ?_
    rintro e w' ⟨rfl, rfl⟩
    clear HN
    go_wp2_with fail
    go_loopw [4, 5] (fun i _ wr => ∃ k : Nat, k ≤ n ∧ i = .int .i64 k ∧ Hid (Inv w1 wr) ∧ Hid (∀ j, j < k → err true (fs.getD j []) = 0)) (fun i _ _ => n - (intOf i).toNat)
    case atStart => exact ⟨0, Nat.zero_le _, rfl, HIR, Lib.hid fun j hj => by omega⟩
    case round =>
      obtain ⟨k, hk, rfl, HW, A⟩ := hrel
      obtain ⟨u0, u1, u2, u3, u4, u5, u6, u7, u8, u9, uf⟩ := ten (HB0.out wr HW.out)
      by_cases hlt : k < n
      · have hltz : (k : Int) < n := by omega
        have c0 := HC.out k hlt wr HW.out
        have HCALL := Lib.hid (HF.out k wr HW.out)
        by_cases he : err true (fs.getD k []) = 0
        · have HE := Lib.hid he
          rw [he] at HCALL
          clear he
          go_wp2_with (go_at_call 80; refine HCALL.out.mono ?_; rintro e w' ⟨rfl, hb'⟩)
          refine ⟨⟨k + 1, by omega, by go_num, Lib.hid hb', Lib.hid fun j hj => ?_⟩, by simp [intOf]; omega⟩
          by_cases e : j = k
          · subst e; exact HE.out
          · exact A.out j (by omega)
        · have hrr : r = err true (fs.getD k []) := by
            have := firstErr_at (fs := fs) (k := k) (by rw [HNL.out]; exact hlt) A.out he
            rw [← HR2.out, this, if_pos he, if_neg he]
          have dn : (((err true (fs.getD k []) : Nat) : Int) != 0) = true := by
            rw [bne_iff_ne]; intro e; apply he; omega
          rw [← hrr] at dn HCALL
          clear he hrr
          go_wp2_with (go_at_call 80; refine HCALL.out.mono ?_; rintro e w' ⟨rfl, hb'⟩)
          go_ret
          exact ⟨rfl, HI0.out _ hb'⟩
      · have hltz : ¬ (k : Int) < n := by omega
        obtain rfl : k = n := by omega
        have hr3 : (if clash fs = true then 10 else if inAll [x0, x1, x2, x3, x4, x5, x6, x7] = true then 0 else 1) = r := by
          have := firstErr_zero.2 (by rw [HNL.out]; exact A.out)
          rw [← HR2.out, this]
          cases clash fs <;> simp
        have HR3 := Lib.hid hr3
        clear hr3 HR2 HIR HF
        clear u0 u1 u2 u3 u4 u5 u6 u7 u8 u9 uf y0 y1 y2 y3 y4 y5 y6 y7 y8 y9 yf d hltz hlt hk
        go_wp2_with fail
        go_loopw [6, 7] (fun i _ wr => ∃ a : Nat, a ≤ k ∧ i = .int .i64 a ∧ Hid (Inv w1 wr) ∧ Hid (∀ i b, i < a → i < b → b < k → over (fs.getD b []) (fs.getD i []) = false)) (fun i _ _ => k - (intOf i).toNat)
        case atStart => exact ⟨0, Nat.zero_le _, rfl, HW, Lib.hid fun j b hj => by omega⟩
        case round =>
          obtain ⟨a, ha, rfl, HV, B⟩ := hrel
          by_cases hat : a < k
          · have haz : (a : Int) < k := by omega
            go_wp2_with fail
            go_loopw [7] (fun i wr => ∃ b : Nat, b ≤ k ∧ a + 1 ≤ b ∧ i = .int .i64 b ∧ Hid (Inv w1 wr) ∧ Hid (∀ j, a < j → j < b → over (fs.getD j []) (fs.getD a []) = false)) (fun i _ => k - (intOf i).toNat)
            case atStart => exact ⟨a + 1, by omega, by omega, by go_num, HV, Lib.hid fun j h1 h2 => by omega⟩
            case round =>
              obtain ⟨b, hb, hab, rfl, HU, D⟩ := hrel
              by_cases hbt : b < k
              · have hbz : (b : Int) < k := by omega
                obtain ⟨u0, u1, u2, u3, u4, u5, u6, u7, u8, u9, uf⟩ := ten (HB0.out wr HU.out)
                have c1 := HC.out a hat wr HU.out
                have c2 := HC.out b hbt wr HU.out
                have ho := HO.out a b wr.drew (HU.out.step (Below.refl _ _).drew)
                rw [over_comm] at ho
                unfold strAt at c1 c2
                obtain ⟨ta, hta⟩ : ∃ ta, fs.getD a [] = ta := ⟨_, rfl⟩
                obtain ⟨tb, htb⟩ : ∃ tb, fs.getD b [] = tb := ⟨_, rfl⟩
                have HOV := Lib.hid (fun (q : over tb ta = false) => (by rw [hta, htb]; exact q : over (fs.getD b []) (fs.getD a []) = false))
                have HBAD := Lib.hid (fun (q : over tb ta = true) => clash_true (fs := fs) (a := a) (b := b) (by omega) (by rw [HNL.out]; exact hbt) (by rw [hta, htb]; exact q))
                rw [hta] at c1; rw [htb] at c2; rw [hta, htb] at ho
                clear hta htb
                cases hov : over tb ta with
                | true =>
                  rw [hov] at ho
                  have h10 : r = 10 := by
                    rw [← HR3.out, HBAD.out hov]; rfl
                  subst h10
                  have HCALL := Lib.hid ho
                  clear hov ho
                  go_wp2_with fail
                  go_still_tail 10, (by kernel_rfl)
                  change wpList _ _ _ _ _ wr.drew
                  go_wp2_with fail
                  refine HCALL.out.mono ?_
                  rintro e w' ⟨rfl, hb'⟩
                  go_wp2
                  go_ret
                  exact ⟨rfl, HI0.out _ hb'⟩
                | false =>
                  rw [hov] at ho
                  have HNEW := Lib.hid (HOV.out hov)
                  have HCALL := Lib.hid ho
                  clear hov ho
                  go_wp2_with fail
                  go_still_tail 10, (by kernel_rfl)
                  change wpList _ _ _ _ _ wr.drew
                  go_wp2_with fail
                  refine HCALL.out.mono ?_
                  rintro e w' ⟨rfl, hb'⟩
                  go_wp2_with fail
                  refine ⟨⟨b + 1, by omega, by omega, by go_num, Lib.hid hb', Lib.hid fun j h1 h2 => ?_⟩, by simp [intOf]; omega⟩
                  by_cases e : j = b
                  · subst e; exact HNEW.out
                  · exact D.out j h1 (by omega)
              · have hbz : ¬ (b : Int) < k := by omega
                go_wp2_with fail
                refine ⟨⟨a + 1, by omega, by go_num, HU, Lib.hid fun i j h1 h2 h3 => ?_⟩, by simp [intOf]; omega⟩
                by_cases e : i = a
                · subst e; exact D.out j h2 (by omega)
                · exact B.out i j (by omega) h2 h3
          · have haz : ¬ (a : Int) < k := by omega
            have hr4 : (if inAll [x0, x1, x2, x3, x4, x5, x6, x7] = true then 0 else 1) = r := by
              have := clash_false (fs := fs) (fun j i hj hi => B.out i j (by rw [HNL.out] at hj; omega) hi (by rw [HNL.out] at hj; exact hj))
              rw [← HR3.out, this]; rfl
            have HR4 := Lib.hid hr4
            obtain ⟨u0, u1, u2, u3, u4, u5, u6, u7, u8, u9, uf⟩ := ten (HB0.out wr HV.out)
            clear hr4 HR3 HC HO A B
            go_wp2_with fail
            refine (values_any _ _ _ _ _ _ _ _ _ _ _).mono ?_
            rintro e w2 ⟨g1, g2, rfl, hn1, hn2, hb2⟩
            have HI2 := Lib.hid (HV.out.step hb2)
            have HIW := Lib.hid (Inv.refl HI2.out.1)
            have HN1 := Lib.hid (fun i (hi : i < 8) wr (h : Inv w2 wr) => hn1.below h.2 i hi)
            have HN2 := Lib.hid (fun i (hi : i < 8) wr (h : Inv w2 wr) => hn2.below h.2 i hi)
            clear hn1 hn2 hb2 u0 u1 u2 u3 u4 u5 u6 u7 u8 u9 uf haz hat
            generalize [x0, x1, x2, x3, x4, x5, x6, x7] = vs at *
            go_wp2_with fail
            go_loopw [10] (fun i wr => ∃ j : Nat, j ≤ 8 ∧ i = .int .i64 j ∧ Hid (Inv w2 wr) ∧ Hid (∀ q, q < j → 0 ≤ vs.getD q 0 ∧ vs.getD q 0 ≤ mosts.getD q 0)) (fun i _ => 8 - (intOf i).toNat)
            case atStart => exact ⟨0, Nat.zero_le _, rfl, HIW, Lib.hid fun q hq => by omega⟩
            case round =>
              obtain ⟨j, hj, rfl, HU, D⟩ := hrel
              by_cases hlt : j < 8
              · have hltz : (j : Int) < 8 := by omega
                have c1 := HN1.out j hlt wr HU.out
                have c2 := HN2.out j hlt wr HU.out
                obtain ⟨x, hx⟩ : ∃ x, vs.getD j 0 = x := ⟨_, rfl⟩
                obtain ⟨m, hmm⟩ : ∃ m, mosts.getD j 0 = m := ⟨_, rfl⟩
                have HST := Lib.hid (fun (q : 0 ≤ x ∧ x ≤ m) => (by rw [hx, hmm]; exact q : 0 ≤ vs.getD j 0 ∧ vs.getD j 0 ≤ mosts.getD j 0))
                have HBAD := Lib.hid (fun (q : x < 0 ∨ m < x) => inAll_false hlt (by rw [hx, hmm]; exact q : vs.getD j 0 < 0 ∨ mosts.getD j 0 < vs.getD j 0))
                rw [hx] at c1; rw [hmm] at c2
                clear hx hmm
                have HIN := Lib.hid fun w => in_flip x 0 m w
                cases hq : (decide (0 ≤ x) && decide (x ≤ m)) with
                | true =>
                  rw [hq] at HIN
                  have HSS := Lib.hid (HST.out (by rw [Bool.and_eq_true, decide_eq_true_eq, decide_eq_true_eq] at hq; exact hq))
                  clear hq
                  go_wp2_with fail
                  go_quiet ((go_at_call 85; exact Calls.quiet_of_same (HIN.out _)))
                  go_wp2_with fail
                  refine ⟨⟨j + 1, by omega, by go_num, Lib.hid (HU.out.step (below_drewN (Below.refl _ _) _)), Lib.hid fun q hq => ?_⟩, by simp [intOf]; omega⟩
                  by_cases e : q = j
                  · subst e; exact HSS.out
                  · exact D.out q (by omega)
                | false =>
                  rw [hq] at HIN
                  have h1 : r = 1 := by
                    rw [← HR4.out, HBAD.out (by rw [Bool.and_eq_false_iff, decide_eq_false_iff_not, decide_eq_false_iff_not] at hq; omega)]; rfl
                  subst h1
                  clear hq
                  go_wp2_with fail
                  go_quiet ((go_at_call 85; exact Calls.quiet_of_same (HIN.out _)))
                  go_wp2
                  go_ret
                  exact ⟨rfl, HI0.out _ (HI2.out.thru (HU.out.step (below_drewN (Below.refl _ _) _)))⟩
              · have hltz : ¬ (j : Int) < 8 := by omega
                obtain rfl : j = 8 := by omega
                have h0 : r = 0 := by rw [← HR4.out, inAll_true D.out]; rfl
                subst h0
                go_wp2
                go_ret
                exact ⟨rfl, HI0.out _ (HI2.out.thru HU.out)⟩

end Go.Proofs.YtglgbidcmkncgaaDoor.Subj
