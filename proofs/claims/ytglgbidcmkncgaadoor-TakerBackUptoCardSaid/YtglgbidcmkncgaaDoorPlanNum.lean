/- Names and numbers of plans, walked: plan.Named, plan.Number, rillref.Named, rillref.Digits. -/
import Derived.Test.YtglgbidcmkncgaaDoorPlanPlain
import Derived.Test.YtglgbidcmkncgaaDoorRefTokens
namespace Go.Proofs.YtglgbidcmkncgaaDoor.Subj
open Go.RowKit

theorem nameOk_of (s : ByteArray) (h : ∀ j, (h : j < s.size) → nameByte s[j] = true) : nameOk s.data.toList = (decide (1 ≤ s.size) && decide (s.size ≤ 16)) := by
  have : s.data.toList.all nameByte = true := by
    rw [List.all_eq_true]
    intro b hb
    obtain ⟨j, hj, rfl⟩ := List.getElem_of_mem hb
    rw [list_get s j (by simpa using hj)]
    exact h j _
  unfold nameOk
  rw [this, Bool.true_and]
  simp

theorem nameOk_not (s : ByteArray) (j : Nat) (hj : j < s.size) (h : nameByte s[j] = false) : nameOk s.data.toList = false := by
  have : s.data.toList.all nameByte = false := by
    rw [List.all_eq_false]
    exact ⟨s[j], by rw [← list_get s j hj]; exact List.getElem_mem _, by simp [h]⟩
  unfold nameOk
  rw [this, Bool.false_and]

def NameLoop (s : ByteArray) (k : Nat) : Prop := ∀ j, (h : j < s.size) → j < k → nameByte s[j] = true

theorem NameLoop.step {s : ByteArray} {k : Nat} (H : NameLoop s k) (hk : k < s.size) (h : nameByte s[k] = true) : NameLoop s (k + 1) := fun j hj hjk => by
  by_cases e : j = k
  · subst e; exact h
  · exact H j hj (by omega)

set_option maxHeartbeats 1000000 in
set_option maxRecDepth 100000 in
theorem named_any (s : ByteArray) (w : World) (hs : s.size ≤ maxLen) :
    Calls Tryd.prog 88 #[.string s] w fun e w' => e = .returned (.bool (nameOk s.data.toList)) ∧ w = w' := by
  unfold maxLen at hs
  go_enter Tryd.func88, Tryd.ntmps88
  go_wp2
  go_loop [7] (fun i => ∃ k : Nat, k ≤ s.size ∧ i = .int .i64 k ∧ Hid (NameLoop s k)) (fun i => s.size - (intOf i).toNat)
  case atStart => exact ⟨0, Nat.zero_le _, rfl, fun j _ h => by omega⟩
  case round =>
    obtain ⟨k, hk, rfl, H⟩ := hrel
    by_cases hlt : k < s.size
    · have hb := s[k].toNat_lt
      by_cases hok : nameByte s[k] = true
      · have HN := Lib.hid (H.out.step hlt hok)
        unfold nameByte at hok
        simp only [Bool.or_eq_true, Bool.and_eq_true, decide_eq_true_eq, beq_iff_eq] at hok
        rcases hok with (⟨b1, b2⟩ | ⟨b1, b2⟩) | b1
        · go_wp2
          exact ⟨⟨k + 1, by omega, by go_num, HN⟩, by simp [intOf]; omega⟩
        · go_wp2
          exact ⟨⟨k + 1, by omega, by go_num, HN⟩, by simp [intOf]; omega⟩
        · have d : ((s[k].toNat : Int) != 45) = false := by simp; omega
          go_wp2
          all_goals exact ⟨⟨k + 1, by omega, by go_num, HN⟩, by simp [intOf]; omega⟩
      · have hr := nameOk_not s k hlt (by simpa using hok)
        have HR := Lib.hid hr; clear hr
        unfold nameByte at hok
        simp at hok
        obtain ⟨⟨h1, h2⟩, h3⟩ := hok
        have d : ((s[k].toNat : Int) != 45) = true := by simp; omega
        by_cases b1 : s[k].toNat < 97
        · by_cases b2 : s[k].toNat < 48
          · go_wp2
            go_ret
            exact ⟨ret_bool HR.out.symm, rfl⟩
          · have b3 : 57 < s[k].toNat := by omega
            go_wp2
            go_ret
            exact ⟨ret_bool HR.out.symm, rfl⟩
        · have b2 : 122 < s[k].toNat := by omega
          have b3 : 57 < s[k].toNat := by omega
          go_wp2
          go_ret
          exact ⟨ret_bool HR.out.symm, rfl⟩
    · have hr := nameOk_of s (fun j h => H.out j h (by omega))
      have HR := Lib.hid hr; clear hr
      by_cases c1 : 1 ≤ s.size
      · by_cases c2 : s.size ≤ 16
        · have e : (decide (1 ≤ s.size) && decide (s.size ≤ 16)) = true := by simp [c1, c2]
          have E := Lib.hid e; clear e
          go_wp2
          go_ret
          refine ⟨ret_bool ?_, rfl⟩
          rw [HR.out, E.out]
          simp; omega
        · have e : (decide (1 ≤ s.size) && decide (s.size ≤ 16)) = false := by simp; omega
          have E := Lib.hid e; clear e
          go_wp2
          go_ret
          refine ⟨ret_bool ?_, rfl⟩
          rw [HR.out, E.out]
          simp; omega
      · have e : (decide (1 ≤ s.size) && decide (s.size ≤ 16)) = false := by simp; omega
        have E := Lib.hid e; clear e
        go_wp2
        go_ret
        exact ⟨ret_bool (by rw [HR.out, E.out]), rfl⟩

set_option maxHeartbeats 1000000 in
set_option maxRecDepth 100000 in
theorem refNamed_any (s : ByteArray) (w : World) (hs : s.size ≤ maxLen) :
    Calls Tryd.prog 84 #[.string s] w fun e w' => e = .returned (.bool (nameOk s.data.toList)) ∧ w = w' := by
  unfold maxLen at hs
  go_enter Tryd.func84, Tryd.ntmps84
  go_wp2
  go_loop [3] (fun i => ∃ k : Nat, k ≤ s.size ∧ i = .int .i64 k ∧ Hid (NameLoop s k)) (fun i => s.size - (intOf i).toNat)
  case atStart => exact ⟨0, Nat.zero_le _, rfl, fun j _ h => by omega⟩
  case round =>
    obtain ⟨k, hk, rfl, H⟩ := hrel
    by_cases hlt : k < s.size
    · have hb := s[k].toNat_lt
      by_cases hok : nameByte s[k] = true
      · have HN := Lib.hid (H.out.step hlt hok)
        unfold nameByte at hok
        simp only [Bool.or_eq_true, Bool.and_eq_true, decide_eq_true_eq, beq_iff_eq] at hok
        rcases hok with (⟨b1, b2⟩ | ⟨b1, b2⟩) | b1
        · go_wp2
          exact ⟨⟨k + 1, by omega, by go_num, HN⟩, by simp [intOf]; omega⟩
        · go_wp2
          exact ⟨⟨k + 1, by omega, by go_num, HN⟩, by simp [intOf]; omega⟩
        · have d : ((s[k].toNat : Int) == 45) = true := by simp; omega
          go_wp2
          all_goals exact ⟨⟨k + 1, by omega, by go_num, HN⟩, by simp [intOf]; omega⟩
      · have hr := nameOk_not s k hlt (by simpa using hok)
        have HR := Lib.hid hr; clear hr
        unfold nameByte at hok
        simp at hok
        obtain ⟨⟨h1, h2⟩, h3⟩ := hok
        have d : ((s[k].toNat : Int) == 45) = false := by simp; omega
        by_cases b1 : s[k].toNat < 97
        · by_cases b2 : s[k].toNat < 48
          · go_wp2
            all_goals first | (go_ret; exact ⟨ret_bool HR.out.symm, rfl⟩) | (exfalso; rename_i q; simp at q; omega)
          · have b3 : 57 < s[k].toNat := by omega
            go_wp2
            all_goals first | (go_ret; exact ⟨ret_bool HR.out.symm, rfl⟩) | (exfalso; rename_i q; simp at q; omega)
        · have b2 : 122 < s[k].toNat := by omega
          have b3 : 57 < s[k].toNat := by omega
          go_wp2
          all_goals first | (go_ret; exact ⟨ret_bool HR.out.symm, rfl⟩) | (exfalso; rename_i q; simp at q; omega)
    · have hr := nameOk_of s (fun j h => H.out j h (by omega))
      have HR := Lib.hid hr; clear hr
      go_wp2_with (go_at_call 85; refine (in_any _ _ _ _).mono ?_; rintro e w'' ⟨rfl, rfl⟩)
      go_ret
      refine ⟨ret_bool ?_, rfl⟩
      rw [HR.out, Bool.eq_iff_iff]; simp; omega

/-! ### Numbers -/
def NumLoop (s : ByteArray) (k : Nat) (n : Nat) : Prop := digitsVal (s.data.toList.take k) = n ∧ (s.data.toList.take k).all isDigit = true ∧ n < 10 ^ k

theorem NumLoop.step {s : ByteArray} {k n : Nat} (H : NumLoop s k n) (hk : k < s.size) (h : isDigit s[k] = true) : NumLoop s (k + 1) (10 * n + (s[k].toNat - 48)) := by
  obtain ⟨h1, h2, h3⟩ := H
  have htk : s.data.toList.take (k + 1) = s.data.toList.take k ++ [s[k]] := by
    rw [List.take_add_one]; simp [hk]; rfl
  refine ⟨?_, ?_, ?_⟩
  · rw [htk, digitsVal_snoc, h1]
  · rw [htk]; simp [h2, h]
  · have := digitsVal_step (l := s.data.toList.take k) (b := s[k]) (k := k) (by omega) h
    rw [digitsVal_snoc, h1] at this
    exact this

theorem numberOf_bad {s : ByteArray} {k : Nat} (hk : k < s.size) (h : isDigit s[k] = false) : numberOf s.data.toList = -1 := by
  unfold numberOf
  rw [if_pos]
  refine .inr (.inr (.inr ?_))
  rw [List.all_eq_false]
  exact ⟨s[k], by rw [← list_get s k hk]; exact List.getElem_mem _, by simp [h]⟩

theorem head_zero {s : ByteArray} (h : 0 < s.size) : s.data.toList.head? = some s[0] := by
  rw [List.head?_eq_getElem?, List.getElem?_eq_getElem (by simpa using h), list_get s 0 h]

theorem numberOf_end {s : ByteArray} {n : Nat} (H : NumLoop s s.size n) (h0 : 0 < s.size) (h9 : s.size ≤ 9) (hz : ¬ (s[0] = 48 ∧ 1 < s.size)) : numberOf s.data.toList = n := by
  obtain ⟨h1, h2, _⟩ := H
  have ht : s.data.toList.take s.size = s.data.toList := List.take_of_length_le (by simp)
  rw [ht] at h1 h2
  unfold numberOf
  have hl : s.data.toList.length = s.size := by simp
  rw [if_neg, h1]
  rw [hl, head_zero h0, h2]
  rintro (h | h | ⟨h, h'⟩ | h)
  · omega
  · omega
  · exact hz ⟨by simpa using h, h'⟩
  · cases h

theorem numberOf_short {s : ByteArray} (h : s.size = 0 ∨ 9 < s.size) : numberOf s.data.toList = -1 := by
  unfold numberOf
  have hl : s.data.toList.length = s.size := by simp
  rw [hl, if_pos]
  rcases h with h | h
  · exact .inl h
  · exact .inr (.inl h)

theorem numberOf_nought {s : ByteArray} (h0 : 0 < s.size) (h : s[0] = 48) (h1 : 1 < s.size) : numberOf s.data.toList = -1 := by
  unfold numberOf
  have hl : s.data.toList.length = s.size := by simp
  rw [hl, if_pos]
  exact .inr (.inr (.inl ⟨by rw [head_zero h0, h], h1⟩))

theorem pow_le10 {k : Nat} (h : k ≤ 10) : 10 ^ k ≤ 10000000000 := by
  have := Nat.pow_le_pow_right (n := 10) (by decide) h
  simpa using this

set_option maxHeartbeats 1000000 in
set_option maxRecDepth 100000 in
theorem number_any (s : ByteArray) (w : World) (hs : s.size ≤ maxLen) :
    Calls Tryd.prog 58 #[.string s] w fun e w' => e = .returned (.int .i64 (numberOf s.data.toList)) ∧ w = w' := by
  unfold maxLen at hs
  by_cases h0 : s.size = 0
  · have hr := numberOf_short (.inl h0)
    have d : ((s.size : Int) == 0) = true := by simp [h0]
    have HR := Lib.hid hr; clear hr h0
    go_enter Tryd.func58, Tryd.ntmps58
    go_wp2
    go_ret
    exact ⟨ret_int HR.out.symm, rfl⟩
  have d0 : ((s.size : Int) == 0) = false := by simp [h0]
  by_cases h9 : 9 < s.size
  · have hr := numberOf_short (.inr h9)
    have HR := Lib.hid hr; clear hr
    go_enter Tryd.func58, Tryd.ntmps58
    go_wp2
    go_ret
    exact ⟨ret_int HR.out.symm, rfl⟩
  have hpos : 0 < s.size := by omega
  by_cases hz : s[0] = 48 ∧ 1 < s.size
  · have hr := numberOf_nought hpos hz.1 hz.2
    have d1 : ((s[0].toNat : Int) == 48) = true := by rw [hz.1]; rfl
    have h1 := hz.2
    have HR := Lib.hid hr; clear hr hz
    go_enter Tryd.func58, Tryd.ntmps58
    go_wp2
    go_ret
    exact ⟨ret_int HR.out.symm, rfl⟩
  have HZ := Lib.hid hz
  have hcase : ((s[0].toNat : Int) == 48) = false ∨ (((s[0].toNat : Int) == 48) = true ∧ ¬ 1 < s.size) := by
    by_cases e : s[0] = 48
    · right; refine ⟨by rw [e]; rfl, fun h => hz ⟨e, h⟩⟩
    · left; simp; intro h; apply e; apply UInt8.toNat_inj.1; exact Int.ofNat.inj h
  clear hz h0
  go_enter Tryd.func58, Tryd.ntmps58
  rcases hcase with d1 | ⟨d1, h1⟩ <;> (
    go_wp2
    go_loop [3, 25] (fun v i => ∃ k n : Nat, k ≤ s.size ∧ i = .int .i64 k ∧ v = .int .i64 n ∧ n < 10 ^ k ∧ Hid (NumLoop s k n)) (fun _ i => s.size - (intOf i).toNat)
    case atStart => exact ⟨0, 0, Nat.zero_le _, rfl, rfl, by decide, rfl, rfl, by decide⟩
    case round =>
      obtain ⟨k, n, hk, rfl, rfl, hn, H⟩ := hrel
      have hp := pow_le10 (k := k) (by omega)
      by_cases hlt : k < s.size
      · have hb := s[k].toNat_lt
        by_cases hok : isDigit s[k] = true
        · have hN := H.out.step hlt hok
          have HN := Lib.hid hN
          unfold isDigit at hok
          simp only [Bool.and_eq_true, decide_eq_true_eq] at hok
          obtain ⟨b1, b2⟩ := hok
          have hn2 := hN.2.2
          have hsub : (s[k] - 48).toNat = s[k].toNat - 48 := by
            rw [UInt8.toNat_sub]; simp; omega
          clear hN
          go_wp2
          refine ⟨⟨k + 1, 10 * n + (s[k].toNat - 48), by omega, by go_num, ?_, hn2, HN⟩, by simp [intOf]; omega⟩
          go_num
        · have hok' : isDigit s[k] = false := by simpa using hok
          have HR := Lib.hid (numberOf_bad hlt hok')
          unfold isDigit at hok'
          simp at hok'
          by_cases b1 : s[k].toNat < 48
          · go_wp2
            all_goals (go_ret; exact ⟨ret_int HR.out.symm, rfl⟩)
          · have b2 : 57 < s[k].toNat := by omega
            go_wp2
            all_goals (go_ret; exact ⟨ret_int HR.out.symm, rfl⟩)
      · obtain rfl : k = s.size := by omega
        have HR := Lib.hid (numberOf_end H.out hpos (by omega) HZ.out)
        go_wp2
        go_ret
        exact ⟨ret_int HR.out.symm, rfl⟩)

theorem str_zero {s : ByteArray} (h : 0 < s.size) (h0 : s[0] = 48) : (s.toList == [48]) = decide (s.size = 1) := by
  rw [ByteArray.toList_eq, Bool.eq_iff_iff]
  have hl : s.data.toList.length = s.size := by simp
  have hh := head_zero h
  simp only [beq_iff_eq, decide_eq_true_eq]
  rw [← hl]
  rw [h0] at hh
  generalize s.data.toList = l at *
  constructor
  · rintro rfl; rfl
  · intro e
    cases l with
    | nil => simp at e
    | cons a l =>
      cases l with
      | nil => simp at hh; rw [hh]
      | cons b l => simp at e

set_option maxHeartbeats 1000000 in
set_option maxRecDepth 100000 in
theorem digits_any (s : ByteArray) (w : World) (hs : s.size ≤ maxLen) :
    Calls Tryd.prog 61 #[.string s] w fun e w' => e = .returned (.int .i64 (numberOf s.data.toList)) ∧ w = w' := by
  unfold maxLen at hs
  go_enter Tryd.func61, Tryd.ntmps61
  go_wp2
  go_loop [3, 4] (fun v i => ∃ k n : Nat, k ≤ s.size ∧ k ≤ 10 ∧ i = .int .i64 k ∧ v = .int .i64 n ∧ n < 10 ^ k ∧ Hid (NumLoop s k n)) (fun _ i => 10 - (intOf i).toNat)
  case atStart => exact ⟨0, 0, Nat.zero_le _, by omega, rfl, rfl, by decide, rfl, rfl, by decide⟩
  case round =>
    obtain ⟨k, n, hk, hk10, rfl, rfl, hn, H⟩ := hrel
    have hp := pow_le10 (k := k) (by omega)
    by_cases hlt : k < s.size ∧ k < 10
    · obtain ⟨hlt, hlt10⟩ := hlt
      have hb := s[k].toNat_lt
      by_cases hok : isDigit s[k] = true
      · have hN := H.out.step hlt hok
        have HN := Lib.hid hN
        unfold isDigit at hok
        simp only [Bool.and_eq_true, decide_eq_true_eq] at hok
        obtain ⟨b1, b2⟩ := hok
        have hn2 := hN.2.2
        clear hN
        go_wp2
        refine ⟨⟨k + 1, 10 * n + (s[k].toNat - 48), by omega, by omega, by go_num, ?_, hn2, HN⟩, by simp [intOf]; omega⟩
        go_num
      · have hok' : isDigit s[k] = false := by simpa using hok
        have HR := Lib.hid (numberOf_bad hlt hok')
        unfold isDigit at hok'
        simp at hok'
        by_cases b1 : s[k].toNat < 48
        · go_wp2
          all_goals (go_ret; exact ⟨ret_int HR.out.symm, rfl⟩)
        · have b2 : 57 < s[k].toNat := by omega
          go_wp2
          all_goals (go_ret; exact ⟨ret_int HR.out.symm, rfl⟩)
    · have hlt2 : ¬ (k < s.size ∧ k < 10) := hlt
      have hend : (k = s.size) ∨ (k < s.size ∧ k = 10) := by omega
      clear hlt
      by_cases h9 : s.size = 0 ∨ 9 < s.size
      · have HR := Lib.hid (numberOf_short h9)
        have hd : (decide ((1 : Int) ≤ (s.size : Int)) && decide ((s.size : Int) ≤ 9)) = false := by
          rw [Bool.eq_false_iff]; simp; omega
        rcases hend with h | ⟨h, h'⟩
        · subst h
          go_wp2_with (go_at_call 85; refine (in_any _ _ _ _).mono ?_; rw [hd]; rintro e w'' ⟨rfl, rfl⟩)
          all_goals (go_ret; exact ⟨ret_int HR.out.symm, rfl⟩)
        · subst h'
          go_wp2_with (go_at_call 85; refine (in_any _ _ _ _).mono ?_; rw [hd]; rintro e w'' ⟨rfl, rfl⟩)
          all_goals (go_ret; exact ⟨ret_int HR.out.symm, rfl⟩)
      · have hpos : 0 < s.size := by omega
        have hk' : k = s.size := by omega
        subst hk'
        have hd : (decide ((1 : Int) ≤ (s.size : Int)) && decide ((s.size : Int) ≤ 9)) = true := by
          rw [Bool.and_eq_true]; simp; omega
        by_cases e0 : s[0] = 48
        · have d1 : ((s[0].toNat : Int) == 48) = true := by rw [e0]; rfl
          have hz := str_zero hpos e0
          by_cases e1 : s.size = 1
          · have HR := Lib.hid (numberOf_end H.out hpos (by omega) (by omega))
            have hz' : (s.toList == [48]) = true := by rw [hz]; simp [e1]
            have HE := Lib.hid e1
            clear hz e0 e1 h9 hend hlt2
            go_wp2_with (go_at_call 85; refine (in_any _ _ _ _).mono ?_; rw [hd]; rintro e w'' ⟨rfl, rfl⟩)
            all_goals (go_ret; exact ⟨ret_int HR.out.symm, rfl⟩)
          · have HR := Lib.hid (numberOf_nought hpos e0 (by omega))
            have hz' : (s.toList == [48]) = false := by rw [hz]; simp [e1]
            clear hz e0 h9 hend hlt2
            go_wp2_with (go_at_call 85; refine (in_any _ _ _ _).mono ?_; rw [hd]; rintro e w'' ⟨rfl, rfl⟩)
            all_goals (go_ret; exact ⟨ret_int HR.out.symm, rfl⟩)
        · have HR := Lib.hid (numberOf_end H.out hpos (by omega) (fun h => e0 h.1))
          have d1 : ((s[0].toNat : Int) == 48) = false := by
            simp; intro h; apply e0; apply UInt8.toNat_inj.1; exact Int.ofNat.inj h
          clear e0 h9 hend hlt2
          go_wp2_with (go_at_call 85; refine (in_any _ _ _ _).mono ?_; rw [hd]; rintro e w'' ⟨rfl, rfl⟩)
          all_goals (go_ret; exact ⟨ret_int HR.out.symm, rfl⟩)

end Go.Proofs.YtglgbidcmkncgaaDoor.Subj
