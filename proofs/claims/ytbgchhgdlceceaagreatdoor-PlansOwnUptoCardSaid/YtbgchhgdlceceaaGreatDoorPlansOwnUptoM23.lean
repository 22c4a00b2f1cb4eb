/- Parts of the proof, joined: rillref.values and rillref.Plan, walked.; What is wrong with a consumer's plan: taker.Check, walked.; What is wrong with a consumer's plan: taker.Check and rillref.Taker, walked. -/
import Derived.Test.YtbgchhgdlceceaaGreatDoorPlansOwnUptoM22
import Derived.Deep.DeepCutAuto
namespace Go.Proofs.YtbgchhgdlceceaaGreatDoor.Subj
open Go.RowKit

/-- Numbers that lie somewhere. -/
def NumsAt (g : Nat) (vs : List Int) (w : World) : Prop := ∀ k, k < 8 → w.cell? ⟨g, k, none⟩ = some (.int .i64 (vs.getD k 0))

theorem NumsAt.below {g : Nat} {vs : List Int} {w w' : World} (h : NumsAt g vs w) (hb : Below w.heap.size w w') : NumsAt g vs w' := fun k hk =>
  (hb.cell (World.block_lt_of_cell? w _ (h k hk))).trans (h k hk)

theorem nums_made (vs : List Int) (hl : vs.length = 8) (w : World) (t : TypeId) (g : Nat) (hg : g = w.heap.size) : NumsAt g vs (w.alloc (.cells (vs.map (Value.int .i64)).toArray t)) := fun k hk => by
  subst hg
  rw [World.cell?_alloc_at _ _ _ _ rfl]
  simp [List.getD, show k < vs.length by omega]

def ValuesPost (w : World) (vs : List Int) (e : Ending) (w' : World) : Prop :=
  ∃ g1 g2, e = .returned (.tuple #[.slice (some ⟨g1, 0, none⟩) 8 8, .slice (some ⟨g2, 0, none⟩) 8 8]) ∧ NumsAt g1 vs w' ∧ NumsAt g2 mosts w' ∧ Below w.heap.size w w'

set_option maxHeartbeats 1000000 in
set_option maxRecDepth 100000 in
theorem values_any (name : ByteArray) (v : Value) (x0 x1 x2 x3 x4 x5 x6 x7 : Int) (w : World) :
    Calls Tryz.prog 98 #[.agg #[.string name, v, .int .i64 x0, .int .i64 x1, .int .i64 x2, .int .i64 x3, .int .i64 x4, .int .i64 x5, .int .i64 x6, .int .i64 x7]] w (ValuesPost w [x0, x1, x2, x3, x4, x5, x6, x7]) := by
  go_enter Tryz.func98, Tryz.ntmps98
  go_wp2
  go_ret2
  refine ⟨w.heap.size + 1, w.heap.size + 1 + 1, rfl, ?_, ?_, by go_grown⟩
  · exact (nums_made [x0, x1, x2, x3, x4, x5, x6, x7] rfl (w.alloc _) _ (w.heap.size + 1) (by simp)).below ((Below.refl _ _).alloc (Nat.le_refl _) _)
  · exact nums_made mosts rfl ((w.alloc _).alloc _) _ (w.heap.size + 1 + 1) (by simp)

/-! ### The check -/
theorem ten_alloc (w : World) (t : TypeId) (a0 a1 a2 a3 a4 a5 a6 a7 a8 a9 : Value) : (w.alloc (.cells #[a0, a1, a2, a3, a4, a5, a6, a7, a8, a9] t)).heap[w.heap.size]? = some (.cells #[a0, a1, a2, a3, a4, a5, a6, a7, a8, a9] t (0, 0)) := heap_alloc_new w _

theorem Inv.blk {w0 w : World} (h : Inv w0 w) {B : Nat} {o : Obj} (hz : w0.heap[B]? = some o) : w.heap[B]? = some o :=
  (h.2.block _ (Array.getElem?_eq_some_iff.1 hz).1).trans hz

end Go.Proofs.YtbgchhgdlceceaaGreatDoor.Subj

namespace Go.Proofs.YtbgchhgdlceceaaGreatDoor.Subj
open Go.RowKit

def IntsAt (w : World) (g off : Nat) (zs : List Int) : Prop := ∀ k, k < zs.length → w.cell? ⟨g, off + k, none⟩ = some (.int .i64 (zs.getD k 0))
/-- A slice holds these numbers. -/
def Ints (w : World) (v : Value) (zs : List Int) : Prop :=
  ∃ (ao : Option Addr) (cap : Nat), v = .slice ao zs.length cap ∧ zs.length ≤ cap ∧ (zs ≠ [] → ∃ g off, ao = some ⟨g, off, none⟩ ∧ IntsAt w g off zs)

theorem IntsAt.below {w w' : World} {g off : Nat} {zs : List Int} (h : IntsAt w g off zs) (hb : Below w.heap.size w w') : IntsAt w' g off zs := fun k hk =>
  (hb.cell (World.block_lt_of_cell? w _ (h k hk))).trans (h k hk)
theorem Ints.below {w w' : World} {v : Value} {zs : List Int} (h : Ints w v zs) (hb : Below w.heap.size w w') : Ints w' v zs := by
  obtain ⟨ao, cap, e, hc, hat⟩ := h
  exact ⟨ao, cap, e, hc, fun hn => by obtain ⟨g, off, e2, h2⟩ := hat hn; exact ⟨g, off, e2, h2.below hb⟩⟩

theorem within_any (n lo hi : Int) (w : World) :
    Calls Tryz.prog 157 #[.int .i64 n, .int .i64 lo, .int .i64 hi] w fun e w' => e = .returned (.bool (inB n lo hi)) ∧ w' = w := by
  unfold inB
  by_cases h1 : lo ≤ n
  · have d1 : decide (lo ≤ n) = true := by simp [h1]
    rw [d1]
    go_enter Tryz.func157, Tryz.ntmps157
    go_wp2
    go_ret
    all_goals exact ⟨by simp, rfl⟩
  · have d1 : decide (lo ≤ n) = false := by simp [h1]
    rw [d1]
    go_enter Tryz.func157, Tryz.ntmps157
    go_wp2
    go_ret
    all_goals exact ⟨by simp, rfl⟩

theorem badTime_any (n : Int) (w : World) :
    Calls Tryz.prog 208 #[.int .i64 n] w fun e w' => e = .returned (.bool (!inB n 1 100000)) ∧ w' = w := by
  have HC := Lib.hid fun w => within_any n 1 100000 w
  generalize inB n 1 100000 = b at *
  go_enter Tryz.func208, Tryz.ntmps208
  go_wp2_with (go_at_call 157; refine (HC.out _).mono ?_; rintro e w' ⟨rfl, rfl⟩)
  go_ret
  exact ⟨rfl, rfl⟩

theorem fn_badTime : ∀ args w, (callFunc 208 args).run Tryz.prog w = .ok (.enter 208 args) w := enters_of Tryz.func208 (by kernel_rfl) rfl

def badTime (z : Int) : Bool := !inB z 1 100000

theorem any_at {zs : List Int} {k : Nat} (hk : k < zs.length) (h : badTime (zs.getD k 0) = true) : zs.any badTime = true := by
  rw [List.any_eq_true]
  exact ⟨zs.getD k 0, by simp [List.getD, hk], h⟩
theorem any_none {zs : List Int} (h : ∀ k, k < zs.length → badTime (zs.getD k 0) = false) : zs.any badTime = false := by
  rw [List.any_eq_false]
  intro f hf
  obtain ⟨k, hk, rfl⟩ := List.getElem_of_mem hf
  have := h k hk
  simp only [List.getD, List.getElem?_eq_getElem hk, Option.getD_some] at this
  rw [this]; simp

set_option maxHeartbeats 2000000 in
set_option maxRecDepth 100000 in
theorem index_times (zs : List Int) (v : Value) (w : World) (hS : Ints w v zs) (hl : zs.length ≤ 9223372036854775806) :
    Calls Tryz.prog 234 #[v, .func (.func 208) #[] #[]] w
      fun e w' => ∃ n : Int, e = .returned (.int .i64 n) ∧ (decide (0 ≤ n) = zs.any badTime) ∧ w = w' := by
  have eg := fn_badTime
  obtain ⟨ao, cap, rfl, hc, hat⟩ := hS
  obtain ⟨n, hn⟩ : ∃ n, zs.length = n := ⟨_, rfl⟩
  rw [hn] at hc hl ⊢
  have HAT := Lib.hid (fun (h : 0 < n) => hat (by intro e; rw [e] at hn; simp at hn; omega))
  have HN := Lib.hid hn
  have HC := Lib.hid fun z w => badTime_any z w
  clear hat hn
  go_enter Tryz.func234, Tryz.ntmps234
  go_wp2_with fail
  go_loop [5, 8] (fun _ i => ∃ k : Nat, k ≤ n ∧ i = .int .i64 k ∧ Hid (∀ j, j < k → badTime (zs.getD j 0) = false)) (fun _ i => n - (intOf i).toNat)
  case atStart => exact ⟨0, Nat.zero_le _, rfl, Lib.hid fun j hj => by omega⟩
  case round =>
    obtain ⟨k, hk, rfl, A⟩ := hrel
    by_cases hlt : k < n
    · have hltz : (k : Int) < n := by omega
      obtain ⟨g, off, rfl, hst⟩ := HAT.out (by omega)
      have c0 := hst k (by rw [HN.out]; exact hlt)
      have HCALL := Lib.hid (HC.out (zs.getD k 0) w)
      clear hst
      cases hq : badTime (zs.getD k 0) with
      | true =>
        have hc1 : (!inB (zs.getD k 0) 1 100000) = true := hq
        rw [hc1] at HCALL
        have HH := Lib.hid (any_at (by rw [HN.out]; exact hlt) hq)
        clear hc1 hq
        generalize zs.getD k 0 = T at *
        go_wp2_with (go_at_fn 208; refine HCALL.out.mono ?_; rintro e w' ⟨rfl, rfl⟩)
        go_ret
        exact ⟨_, rfl, by rw [HH.out]; simp, rfl⟩
      | false =>
        have hc1 : (!inB (zs.getD k 0) 1 100000) = false := hq
        rw [hc1] at HCALL
        have HQ := Lib.hid (fun j (hj : j = k) => (by rw [hj]; exact hq : badTime (zs.getD j 0) = false))
        clear hc1 hq
        generalize zs.getD k 0 = T at *
        go_wp2_with (go_at_fn 208; refine HCALL.out.mono ?_; rintro e w' ⟨rfl, rfl⟩)
        refine ⟨⟨k + 1, by omega, by go_num, Lib.hid fun j hj => ?_⟩, by simp [intOf]; omega⟩
        by_cases e : j = k
        · exact HQ.out j e
        · exact A.out j (by omega)
    · have hltz : ¬ (k : Int) < n := by omega
      have HH := Lib.hid (any_none fun j hj => A.out j (by rw [HN.out] at hj; omega))
      go_wp2
      go_ret
      exact ⟨_, rfl, by rw [HH.out]; simp, rfl⟩

set_option maxRecDepth 100000 in
theorem contains_times (zs : List Int) (v : Value) (w : World) (hS : Ints w v zs) (hl : zs.length ≤ 9223372036854775806) :
    Calls Tryz.prog 207 #[v, .func (.func 208) #[] #[]] w
      fun e w' => e = .returned (.bool (zs.any badTime)) ∧ w' = w := by
  have H := Lib.hid (index_times zs v w hS hl)
  obtain ⟨ao, cap, rfl, _⟩ := hS
  generalize zs.any badTime = b at *
  generalize zs.length = n at *
  go_enter Tryz.func207, Tryz.ntmps207
  go_wp2_with fail
  refine H.out.mono ?_
  rintro e w' ⟨n, rfl, hn, rfl⟩
  go_wp2
  go_ret
  first | exact ⟨rfl, rfl⟩ | exact ⟨ret_bool hn, rfl⟩

set_option maxHeartbeats 4000000 in
set_option maxRecDepth 100000 in
theorem times_any (name filt : ByteArray) (src start ack wait most pend : Int) (push : Bool) (ao : Option Addr) (n cap : Nat) (back : List Int) (w : World) (hn : back.length = n) (hnl : n ≤ 5) (hB : Ints w (.slice ao n cap) back) (hm : ML w) :
    Calls Tryz.prog 158 #[.agg #[.string name, .string filt, .int .i64 src, .int .i64 start, .int .i64 ack, .int .i64 wait, .slice ao n cap, .int .i64 most, .int .i64 pend, .bool push]] w
      fun e w' => e = .returned (.bool (timesOk ack wait back most pend)) ∧ Inv w w' := by
  obtain ⟨r, hr⟩ : ∃ r, timesOk ack wait back most pend = r := ⟨_, rfl⟩
  rw [hr]
  unfold timesOk at hr
  rw [hn] at hr
  obtain ⟨w1, hw1⟩ : ∃ w1, w1 = w.alloc (.cells #[.string name, .string filt, .int .i64 src, .int .i64 start, .int .i64 ack, .int .i64 wait, .slice ao n cap, .int .i64 most, .int .i64 pend, .bool push] 24) := ⟨_, rfl⟩
  have hI1 : Inv w w1 := by rw [hw1]; exact Inv.made hm _
  have hB1 := ten_alloc w 24 (.string name) (.string filt) (.int .i64 src) (.int .i64 start) (.int .i64 ack) (.int .i64 wait) (.slice ao n cap) (.int .i64 most) (.int .i64 pend) (.bool push)
  rw [← hw1] at hB1
  have HC := Lib.hid (contains_times back _ w1 (hB.below hI1.2) (by omega))
  have e1 : (fun z => inB z 1 100000) = fun z => !badTime z := by funext z; simp [badTime]
  have hall : (back.all fun z => inB z 1 100000) = !back.any badTime := by
    rw [e1, ← any_not]; simp
  rw [hall] at hr
  have HI1 := Lib.hid hI1
  have HW := Lib.hid fun w => within_any wait 1 100000 w
  have HM := Lib.hid fun w => within_any most 0 20 w
  have HP := Lib.hid fun w => within_any pend 0 50 w
  obtain ⟨y0, y1, y2, y3, y4, y5, y6, y7, y8, y9, yf⟩ := ten hB1
  clear hI1 hB1 hall e1 hB hm hn hnl
  generalize back.any badTime = b4 at *
  generalize inB wait 1 100000 = b1 at *
  generalize inB most 0 20 = b2 at *
  generalize inB pend 0 50 = b3 at *
  cases ha : (ack == 0) with
  | true =>
    rw [ha, if_pos rfl] at hr
    clear HC HW HM HP
    cases h1 : (wait == 0) <;> cases h2 : ((n : Int) == 0) <;> cases h3 : (most == 0) <;> cases h4 : (pend == 0)
    all_goals
      rw [h1, h2, h3, h4] at hr
      subst hr
      go_enter Tryz.func158, Tryz.ntmps158
      go_upto_region 1 with fail
      rw [← hw1]
      clear hw1
      go_wp2
      go_ret
      exact ⟨rfl, HI1.out⟩
  | false =>
    rw [ha, if_neg (by decide)] at hr
    cases b1 <;> cases b2 <;> cases b3 <;> cases b4
    all_goals
      subst hr
      go_enter Tryz.func158, Tryz.ntmps158
      go_upto_region 1 with fail
      rw [← hw1]
      clear hw1
      go_wp2_with (first
        | (go_at_call 157; (with_reducible first | refine (HW.out _).mono ?_ | refine (HM.out _).mono ?_ | refine (HP.out _).mono ?_); rintro e w' ⟨rfl, rfl⟩)
        | (go_at_call 207; refine HC.out.mono ?_; rintro e w' ⟨rfl, rfl⟩))
      go_ret
      exact ⟨rfl, HI1.out⟩
end Go.Proofs.YtbgchhgdlceceaaGreatDoor.Subj

namespace Go.Proofs.YtbgchhgdlceceaaGreatDoor.Subj
open Go.RowKit

/-- The ways of the answer. -/
theorem takerErr_ways (name filt : List UInt8) (src start ack wait : Int) (back : List Int) (most pend : Int) :
    (nameOk name = false ∧ takerErr name filt src start ack wait back most pend = 3) ∨
    (nameOk name = true ∧ err true filt ≠ 0 ∧ takerErr name filt src start ack wait back most pend = err true filt) ∨
    (nameOk name = true ∧ err true filt = 0 ∧ 5 < back.length ∧ takerErr name filt src start ack wait back most pend = 2) ∨
    (nameOk name = true ∧ err true filt = 0 ∧ ¬ 5 < back.length ∧ takerErr name filt src start ack wait back most pend = if argsOk src start ack wait back most pend = true then 0 else 1) := by
  unfold takerErr
  cases h1 : nameOk name with
  | false => exact .inl ⟨rfl, rfl⟩
  | true =>
    rw [if_pos rfl]
    by_cases h2 : err true filt = 0
    · rw [if_pos h2]
      by_cases h3 : 5 < back.length
      · rw [if_pos h3]; exact .inr (.inr (.inl ⟨rfl, h2, h3, rfl⟩))
      · rw [if_neg h3]; exact .inr (.inr (.inr ⟨rfl, h2, h3, rfl⟩))
    · rw [if_neg h2]; exact .inr (.inl ⟨rfl, h2, rfl⟩)

set_option maxHeartbeats 4000000 in
set_option maxRecDepth 100000 in
theorem takerCheck_any (name filt : ByteArray) (src start ack wait most pend : Int) (push : Bool) (ao : Option Addr) (n cap : Nat) (back : List Int) (w : World) (hnm : name.size ≤ maxLen) (hfl : filt.size ≤ 1048576) (hn : back.length = n) (hB : Ints w (.slice ao n cap) back) (hm : ML w) :
    Calls Tryz.prog 78 #[.agg #[.string name, .string filt, .int .i64 src, .int .i64 start, .int .i64 ack, .int .i64 wait, .slice ao n cap, .int .i64 most, .int .i64 pend, .bool push]] w (IntRet w (takerErr name.data.toList filt.data.toList src start ack wait back most pend)) := by
  have hways := takerErr_ways name.data.toList filt.data.toList src start ack wait back most pend
  generalize takerErr name.data.toList filt.data.toList src start ack wait back most pend = r at *
  obtain ⟨w1, hw1⟩ : ∃ w1, w1 = w.alloc (.cells #[.string name, .string filt, .int .i64 src, .int .i64 start, .int .i64 ack, .int .i64 wait, .slice ao n cap, .int .i64 most, .int .i64 pend, .bool push] 24) := ⟨_, rfl⟩
  have hI1 : Inv w w1 := by rw [hw1]; exact Inv.made hm _
  have hB1 := ten_alloc w 24 (.string name) (.string filt) (.int .i64 src) (.int .i64 start) (.int .i64 ack) (.int .i64 wait) (.slice ao n cap) (.int .i64 most) (.int .i64 pend) (.bool push)
  rw [← hw1] at hB1
  have hBk := hB.below hI1.2
  rw [hn] at hways
  have HNM := Lib.hid (fun w => named_any name w hnm)
  have HFI := Lib.hid (filterN_inv filt hfl w1 (Inv.refl hI1.1))
  have HTM := Lib.hid (fun (q : ¬ 5 < n) wr (h : Inv w1 wr) => times_any name filt src start ack wait most pend push ao n cap back wr hn (by omega) (hBk.below h.2) h.1)
  have HIR := Lib.hid (Inv.refl hI1.1)
  have HI1 := Lib.hid hI1; have HB1 := Lib.hid hB1
  have HWS := Lib.hid hways
  clear hI1 hB1 hBk hB hm hn hnm hfl hways
  obtain ⟨y0, y1, y2, y3, y4, y5, y6, y7, y8, y9, yf⟩ := ten HB1.out
  go_enter Tryz.func78, Tryz.ntmps78
  go_upto_region 1 with fail
  rw [← hw1]
  clear hw1
  rcases HWS.out with ⟨h1, rfl⟩ | ⟨h1, h2, h3⟩ | ⟨h1, h2, h3, rfl⟩ | ⟨h1, h2, h3, h4⟩
  · rw [h1] at HNM
    clear h1 HFI HTM HWS
    go_wp2_with (go_at_call 155; refine (HNM.out _).mono ?_; rintro e w' ⟨rfl, rfl⟩)
    go_ret
    exact ⟨rfl, HI1.out⟩
  · have hd : ((err true filt.data.toList : Int) != 0) = true := by simpa using h2
    rw [h1] at HNM
    rw [← h3] at HFI hd
    clear h1 h2 h3 HTM HWS
    go_wp2_with (go_at_call 155; refine (HNM.out _).mono ?_; rintro e w' ⟨rfl, rfl⟩)
    refine HFI.out.mono ?_
    rintro e w2 ⟨rfl, hI2⟩
    have HI2 := Lib.hid hI2
    clear hI2
    go_wp2
    go_ret
    exact ⟨rfl, HI1.out.thru HI2.out⟩
  · rw [h1] at HNM
    rw [h2] at HFI
    have h5 : (5 : Int) < n := by omega
    clear h1 h2 h3 HTM HWS
    go_wp2_with (go_at_call 155; refine (HNM.out _).mono ?_; rintro e w' ⟨rfl, rfl⟩)
    refine HFI.out.mono ?_
    rintro e w2 ⟨rfl, hI2⟩
    have HI2 := Lib.hid hI2
    clear y0 y1 y2 y3 y4 y5 y6 y7 y8 y9 yf
    obtain ⟨y0, y1, y2, y3, y4, y5, y6, y7, y8, y9, yf⟩ := ten (hI2.blk HB1.out)
    clear hI2
    go_wp2
    go_ret
    exact ⟨rfl, HI1.out.thru HI2.out⟩
  · rw [h1] at HNM
    rw [h2] at HFI
    have h5 : ¬ (5 : Int) < n := by omega
    have HT := Lib.hid (HTM.out h3)
    have H4 := Lib.hid h4
    clear h1 h2 h3 h4 HTM HWS
    go_wp2_with (go_at_call 155; refine (HNM.out _).mono ?_; rintro e w' ⟨rfl, rfl⟩)
    refine HFI.out.mono ?_
    rintro e w2 ⟨rfl, hI2⟩
    have HI2 := Lib.hid hI2
    have HT2 := Lib.hid (HT.out _ hI2)
    clear y0 y1 y2 y3 y4 y5 y6 y7 y8 y9 yf
    obtain ⟨y0, y1, y2, y3, y4, y5, y6, y7, y8, y9, yf⟩ := ten (hI2.blk HB1.out)
    clear hI2 HT HFI HNM
    have h4 := H4.out
    clear H4
    unfold argsOk at h4
    have hst : startOk src start = if (src == 3) = true then inB start 1 999999999 else start == 0 := rfl
    have HSRC := Lib.hid fun w => within_any src 0 3 w
    have HACK := Lib.hid fun w => within_any ack 0 2 w
    have HSTA := Lib.hid fun w => within_any start 1 999999999 w
    generalize startOk src start = st at *
    generalize timesOk ack wait back most pend = b4 at *
    generalize inB src 0 3 = b1 at *
    generalize inB ack 0 2 = b2 at *
    generalize inB start 1 999999999 = b3 at *
    cases hs : (src == 3) with
    | true =>
      rw [hs, if_pos rfl] at hst
      subst hst
      cases b1 <;> cases st <;> cases b2 <;> cases b4
      all_goals
        obtain rfl := h4
        go_wp2_with (first
          | (go_at_call 157; (with_reducible first | refine (HSRC.out _).mono ?_ | refine (HACK.out _).mono ?_ | refine (HSTA.out _).mono ?_); rintro e w' ⟨rfl, rfl⟩)
          | (go_at_call 158; refine HT2.out.mono ?_; rintro e w3 ⟨rfl, hI3⟩; have HI3 := Lib.hid hI3; clear hI3))
        go_ret
        first
          | exact ⟨rfl, HI1.out.thru HI2.out⟩
          | exact ⟨rfl, HI1.out.thru (HI2.out.thru HI3.out)⟩
    | false =>
      rw [hs, if_neg (by decide)] at hst
      cases hz : (start == 0) <;> cases b1 <;> cases b2 <;> cases b4
      all_goals
        rw [hz] at hst
        subst hst
        obtain rfl := h4
        go_wp2_with (first
          | (go_at_call 157; (with_reducible first | refine (HSRC.out _).mono ?_ | refine (HACK.out _).mono ?_ | refine (HSTA.out _).mono ?_); rintro e w' ⟨rfl, rfl⟩)
          | (go_at_call 158; refine HT2.out.mono ?_; rintro e w3 ⟨rfl, hI3⟩; have HI3 := Lib.hid hI3; clear hI3))
        go_ret
        first
          | exact ⟨rfl, HI1.out.thru HI2.out⟩
          | exact ⟨rfl, HI1.out.thru (HI2.out.thru HI3.out)⟩
end Go.Proofs.YtbgchhgdlceceaaGreatDoor.Subj
