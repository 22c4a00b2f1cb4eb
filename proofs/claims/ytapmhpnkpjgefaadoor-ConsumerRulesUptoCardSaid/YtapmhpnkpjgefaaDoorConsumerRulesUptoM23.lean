/- Parts of the proof, joined: What is wrong with a consumer's plan: taker.Check, walked. -/
import Derived.Test.YtapmhpnkpjgefaaDoorConsumerRulesUptoM15
import Derived.Test.YtapmhpnkpjgefaaDoorConsumerRulesUptoM17
import Derived.Deep.DeepCutAuto
namespace Go.Proofs.YtapmhpnkpjgefaaDoor.Subj
open Go.RowKit

def IntsAt (w : World) (g off : Nat) (zs : List Int) : Prop := ∀ k, k < zs.length → w.cell? ⟨g, off + k, none⟩ = some (.int .i64 (zs.getD k 0))
/-- A slice holds these numbers. -/
def Ints (w : World) (v : Value) (zs : List Int) : Prop :=
  ∃ (ao : Option Addr) (cap : Nat), v = .slice ao zs.length cap ∧ zs.length ≤ cap ∧ (zs ≠ [] → ∃ g off, ao = some ⟨g, off, none⟩ ∧ IntsAt w g off zs)

theorem IntsAt.below {w w' : World} {g off : Nat} {zs : List Int} (h : IntsAt w g off zs) (hb : Below w.heap.size w w') : IntsAt w' g off zs := fun k hk =>
  (hb.cell (World.block_lt_of_cell? w _ (h k hk))).trans (h k hk)
theorem Ints.below {w w' : World} {v : Value} {zs : List Int} (h : Ints w v zs) (hb : Below w.heap.size w w') : Ints w' v zs := by
  obtain ⟨ao, cap, e, hc, hat⟩ := h
  exact ⟨ao, cap, e, hc, fun hn => by obtain ⟨g, off, e2, h2⟩ := hat hn; exact ⟨g, off, e2, h2.below hb⟩⟩

theorem within_any (n lo hi : Int) (w : World) :
    Calls Tryd.prog 38 #[.int .i64 n, .int .i64 lo, .int .i64 hi] w fun e w' => e = .returned (.bool (inB n lo hi)) ∧ w' = w := by
  unfold inB
  by_cases h1 : lo ≤ n
  · have d1 : decide (lo ≤ n) = true := by simp [h1]
    rw [d1]
    go_enter Tryd.func38, Tryd.ntmps38
    go_wp2
    go_ret
    all_goals exact ⟨by simp, rfl⟩
  · have d1 : decide (lo ≤ n) = false := by simp [h1]
    rw [d1]
    go_enter Tryd.func38, Tryd.ntmps38
    go_wp2
    go_ret
    all_goals exact ⟨by simp, rfl⟩

theorem badTime_any (n : Int) (w : World) :
    Calls Tryd.prog 56 #[.int .i64 n] w fun e w' => e = .returned (.bool (!inB n 1 100000)) ∧ w' = w := by
  have HC := Lib.hid fun w => within_any n 1 100000 w
  generalize inB n 1 100000 = b at *
  go_enter Tryd.func56, Tryd.ntmps56
  go_wp2_with (go_at_call 38; refine (HC.out _).mono ?_; rintro e w' ⟨rfl, rfl⟩)
  go_ret
  exact ⟨rfl, rfl⟩

theorem fn_badTime : ∀ args w, (callFunc 56 args).run Tryd.prog w = .ok (.enter 56 args) w := enters_of Tryd.func56 (by kernel_rfl) rfl

def badTime (z : Int) : Bool := !inB z 1 100000

theorem any_at {zs : List Int} {k : Nat} (hk : k < zs.length) (h : badTime (zs.getD k 0) = true) : zs.any badTime = true := by
  rw [List.any_eq_true]
  exact ⟨zs.getD k 0, by simp [List.getD, hk], h⟩
theorem any_none {zs : List Int} (h : ∀ k, k < zs.length → badTime (zs.getD k 0) = false) : zs.any badTime = false := by
  rw [List.any_eq_false]
  intro f hf
  obtain ⟨k, hk, rfl⟩ := List.getElem_of_mem hf
  have := h k hk
  simp only [List.getD, List.getElem?_eq_getElem hk, Option.getD_some] at this
  rw [this]; simp

set_option maxHeartbeats 2000000 in
set_option maxRecDepth 100000 in
theorem index_times (zs : List Int) (v : Value) (w : World) (hS : Ints w v zs) (hl : zs.length ≤ 9223372036854775806) :
    Calls Tryd.prog 64 #[v, .func (.func 56) #[] #[]] w
      fun e w' => ∃ n : Int, e = .returned (.int .i64 n) ∧ (decide (0 ≤ n) = zs.any badTime) ∧ w = w' := by
  have eg := fn_badTime
  obtain ⟨ao, cap, rfl, hc, hat⟩ := hS
  obtain ⟨n, hn⟩ : ∃ n, zs.length = n := ⟨_, rfl⟩
  rw [hn] at hc hl ⊢
  have HAT := Lib.hid (fun (h : 0 < n) => hat (by intro e; rw [e] at hn; simp at hn; omega))
  have HN := Lib.hid hn
  have HC := Lib.hid fun z w => badTime_any z w
  clear hat hn
  go_enter Tryd.func64, Tryd.ntmps64
  go_wp2_with fail
  go_loop [5, 8] (fun _ i => ∃ k : Nat, k ≤ n ∧ i = .int .i64 k ∧ Hid (∀ j, j < k → badTime (zs.getD j 0) = false)) (fun _ i => n - (intOf i).toNat)
  case atStart => exact ⟨0, Nat.zero_le _, rfl, Lib.hid fun j hj => by omega⟩
  case round =>
    obtain ⟨k, hk, rfl, A⟩ := hrel
    by_cases hlt : k < n
    · have hltz : (k : Int) < n := by omega
      obtain ⟨g, off, rfl, hst⟩ := HAT.out (by omega)
      have c0 := hst k (by rw [HN.out]; exact hlt)
      have HCALL := Lib.hid (HC.out (zs.getD k 0) w)
      clear hst
      cases hq : badTime (zs.getD k 0) with
      | true =>
        have hc1 : (!inB (zs.getD k 0) 1 100000) = true := hq
        rw [hc1] at HCALL
        have HH := Lib.hid (any_at (by rw [HN.out]; exact hlt) hq)
        clear hc1 hq
        generalize zs.getD k 0 = T at *
        go_wp2_with (go_at_fn 56; refine HCALL.out.mono ?_; rintro e w' ⟨rfl, rfl⟩)
        go_ret
        exact ⟨_, rfl, by rw [HH.out]; simp, rfl⟩
      | false =>
        have hc1 : (!inB (zs.getD k 0) 1 100000) = false := hq
        rw [hc1] at HCALL
        have HQ := Lib.hid (fun j (hj : j = k) => (by rw [hj]; exact hq : badTime (zs.getD j 0) = false))
        clear hc1 hq
        generalize zs.getD k 0 = T at *
        go_wp2_with (go_at_fn 56; refine HCALL.out.mono ?_; rintro e w' ⟨rfl, rfl⟩)
        refine ⟨⟨k + 1, by omega, by go_num, Lib.hid fun j hj => ?_⟩, by simp [intOf]; omega⟩
        by_cases e : j = k
        · exact HQ.out j e
        · exact A.out j (by omega)
    · have hltz : ¬ (k : Int) < n := by omega
      have HH := Lib.hid (any_none fun j hj => A.out j (by rw [HN.out] at hj; omega))
      go_wp2
      go_ret
      exact ⟨_, rfl, by rw [HH.out]; simp, rfl⟩

set_option maxRecDepth 100000 in
theorem contains_times (zs : List Int) (v : Value) (w : World) (hS : Ints w v zs) (hl : zs.length ≤ 9223372036854775806) :
    Calls Tryd.prog 55 #[v, .func (.func 56) #[] #[]] w
      fun e w' => e = .returned (.bool (zs.any badTime)) ∧ w' = w := by
  have H := Lib.hid (index_times zs v w hS hl)
  obtain ⟨ao, cap, rfl, _⟩ := hS
  generalize zs.any badTime = b at *
  generalize zs.length = n at *
  go_enter Tryd.func55, Tryd.ntmps55
  go_wp2_with fail
  refine H.out.mono ?_
  rintro e w' ⟨n, rfl, hn, rfl⟩
  go_wp2
  go_ret
  first | exact ⟨rfl, rfl⟩ | exact ⟨ret_bool hn, rfl⟩

set_option maxHeartbeats 4000000 in
set_option maxRecDepth 100000 in
theorem times_any (name filt : ByteArray) (src start ack wait most pend : Int) (push : Bool) (ao : Option Addr) (n cap : Nat) (back : List Int) (w : World) (hn : back.length = n) (hnl : n ≤ 5) (hB : Ints w (.slice ao n cap) back) (hm : ML w) :
    Calls Tryd.prog 39 #[.agg #[.string name, .string filt, .int .i64 src, .int .i64 start, .int .i64 ack, .int .i64 wait, .slice ao n cap, .int .i64 most, .int .i64 pend, .bool push]] w
      fun e w' => e = .returned (.bool (timesOk ack wait back most pend)) ∧ Inv w w' := by
  obtain ⟨r, hr⟩ : ∃ r, timesOk ack wait back most pend = r := ⟨_, rfl⟩
  rw [hr]
  unfold timesOk at hr
  rw [hn] at hr
  obtain ⟨w1, hw1⟩ : ∃ w1, w1 = w.alloc (.cells #[.string name, .string filt, .int .i64 src, .int .i64 start, .int .i64 ack, .int .i64 wait, .slice ao n cap, .int .i64 most, .int .i64 pend, .bool push] 24) := ⟨_, rfl⟩
  have hI1 : Inv w w1 := by rw [hw1]; exact Inv.made hm _
  have hB1 := ten_alloc w 24 (.string name) (.string filt) (.int .i64 src) (.int .i64 start) (.int .i64 ack) (.int .i64 wait) (.slice ao n cap) (.int .i64 most) (.int .i64 pend) (.bool push)
  rw [← hw1] at hB1
  have HC := Lib.hid (contains_times back _ w1 (hB.below hI1.2) (by omega))
  have e1 : (fun z => inB z 1 100000) = fun z => !badTime z := by funext z; simp [badTime]
  have hall : (back.all fun z => inB z 1 100000) = !back.any badTime := by
    rw [e1, ← any_not]; simp
  rw [hall] at hr
  have HI1 := Lib.hid hI1
  have HW := Lib.hid fun w => within_any wait 1 100000 w
  have HM := Lib.hid fun w => within_any most 0 20 w
  have HP := Lib.hid fun w => within_any pend 0 50 w
  obtain ⟨y0, y1, y2, y3, y4, y5, y6, y7, y8, y9, yf⟩ := ten hB1
  clear hI1 hB1 hall e1 hB hm hn hnl
  generalize back.any badTime = b4 at *
  generalize inB wait 1 100000 = b1 at *
  generalize inB most 0 20 = b2 at *
  generalize inB pend 0 50 = b3 at *
  cases ha : (ack == 0) with
  | true =>
    rw [ha, if_pos rfl] at hr
    clear HC HW HM HP
    cases h1 : (wait == 0) <;> cases h2 : ((n : Int) == 0) <;> cases h3 : (most == 0) <;> cases h4 : (pend == 0)
    all_goals
      rw [h1, h2, h3, h4] at hr
      subst hr
      go_enter Tryd.func39, Tryd.ntmps39
      go_upto_region 1 with fail
      rw [← hw1]
      clear hw1
      go_wp2
      go_ret
      exact ⟨rfl, HI1.out⟩
  | false =>
    rw [ha, if_neg (by decide)] at hr
    cases b1 <;> cases b2 <;> cases b3 <;> cases b4
    all_goals
      subst hr
      go_enter Tryd.func39, Tryd.ntmps39
      go_upto_region 1 with fail
      rw [← hw1]
      clear hw1
      go_wp2_with (first
        | (go_at_call 38; (with_reducible first | refine (HW.out _).mono ?_ | refine (HM.out _).mono ?_ | refine (HP.out _).mono ?_); rintro e w' ⟨rfl, rfl⟩)
        | (go_at_call 55; refine HC.out.mono ?_; rintro e w' ⟨rfl, rfl⟩))
      go_ret
      exact ⟨rfl, HI1.out⟩
end Go.Proofs.YtapmhpnkpjgefaaDoor.Subj
