/- Parts of the proof, joined: Names and numbers of plans, walked: plan.Named, plan.Number, rillref.Named, rillref.Digits. -/
import Derived.Test.YthhgfdeegnimjaaGreatDoorConsumerPlaysUptoM4
import Derived.Test.YthhgfdeegnimjaaGreatDoorConsumerPlaysUptoM11
namespace Go.Proofs.YthhgfdeegnimjaaGreatDoor.Subj
open Go.RowKit

theorem nameOk_of (s : ByteArray) (h : ∀ j, (h : j < s.size) → nameByte s[j] = true) : nameOk s.data.toList = (decide (1 ≤ s.size) && decide (s.size ≤ 16)) := by
  have : s.data.toList.all nameByte = true := by
    rw [List.all_eq_true]
    intro b hb
    obtain ⟨j, hj, rfl⟩ := List.getElem_of_mem hb
    rw [list_get s j (by simpa using hj)]
    exact h j _
  unfold nameOk
  rw [this, Bool.true_and]
  simp

theorem nameOk_not (s : ByteArray) (j : Nat) (hj : j < s.size) (h : nameByte s[j] = false) : nameOk s.data.toList = false := by
  have : s.data.toList.all nameByte = false := by
    rw [List.all_eq_false]
    exact ⟨s[j], by rw [← list_get s j hj]; exact List.getElem_mem _, by simp [h]⟩
  unfold nameOk
  rw [this, Bool.false_and]

def NameLoop (s : ByteArray) (k : Nat) : Prop := ∀ j, (h : j < s.size) → j < k → nameByte s[j] = true

theorem NameLoop.step {s : ByteArray} {k : Nat} (H : NameLoop s k) (hk : k < s.size) (h : nameByte s[k] = true) : NameLoop s (k + 1) := fun j hj hjk => by
  by_cases e : j = k
  · subst e; exact h
  · exact H j hj (by omega)

set_option maxHeartbeats 1000000 in
set_option maxRecDepth 100000 in
theorem named_any (s : ByteArray) (w : World) (hs : s.size ≤ maxLen) :
    Calls Tryz.prog 157 #[.string s] w fun e w' => e = .returned (.bool (nameOk s.data.toList)) ∧ w = w' := by
  unfold maxLen at hs
  go_enter Tryz.func157, Tryz.ntmps157
  go_wp2
  go_loop [7] (fun i => ∃ k : Nat, k ≤ s.size ∧ i = .int .i64 k ∧ Hid (NameLoop s k)) (fun i => s.size - (intOf i).toNat)
  case atStart => exact ⟨0, Nat.zero_le _, rfl, fun j _ h => by omega⟩
  case round =>
    obtain ⟨k, hk, rfl, H⟩ := hrel
    by_cases hlt : k < s.size
    · have hb := s[k].toNat_lt
      by_cases hok : nameByte s[k] = true
      · have HN := Lib.hid (H.out.step hlt hok)
        unfold nameByte at hok
        simp only [Bool.or_eq_true, Bool.and_eq_true, decide_eq_true_eq, beq_iff_eq] at hok
        rcases hok with (⟨b1, b2⟩ | ⟨b1, b2⟩) | b1
        · go_wp2
          exact ⟨⟨k + 1, by omega, by go_num, HN⟩, by simp [intOf]; omega⟩
        · go_wp2
          exact ⟨⟨k + 1, by omega, by go_num, HN⟩, by simp [intOf]; omega⟩
        · have d : ((s[k].toNat : Int) != 45) = false := by simp; omega
          go_wp2
          all_goals exact ⟨⟨k + 1, by omega, by go_num, HN⟩, by simp [intOf]; omega⟩
      · have hr := nameOk_not s k hlt (by simpa using hok)
        have HR := Lib.hid hr; clear hr
        unfold nameByte at hok
        simp at hok
        obtain ⟨⟨h1, h2⟩, h3⟩ := hok
        have d : ((s[k].toNat : Int) != 45) = true := by simp; omega
        by_cases b1 : s[k].toNat < 97
        · by_cases b2 : s[k].toNat < 48
          · go_wp2
            go_ret
            exact ⟨ret_bool HR.out.symm, rfl⟩
          · have b3 : 57 < s[k].toNat := by omega
            go_wp2
            go_ret
            exact ⟨ret_bool HR.out.symm, rfl⟩
        · have b2 : 122 < s[k].toNat := by omega
          have b3 : 57 < s[k].toNat := by omega
          go_wp2
          go_ret
          exact ⟨ret_bool HR.out.symm, rfl⟩
    · have hr := nameOk_of s (fun j h => H.out j h (by omega))
      have HR := Lib.hid hr; clear hr
      by_cases c1 : 1 ≤ s.size
      · by_cases c2 : s.size ≤ 16
        · have e : (decide (1 ≤ s.size) && decide (s.size ≤ 16)) = true := by simp [c1, c2]
          have E := Lib.hid e; clear e
          go_wp2
          go_ret
          refine ⟨ret_bool ?_, rfl⟩
          rw [HR.out, E.out]
          simp; omega
        · have e : (decide (1 ≤ s.size) && decide (s.size ≤ 16)) = false := by simp; omega
          have E := Lib.hid e; clear e
          go_wp2
          go_ret
          refine ⟨ret_bool ?_, rfl⟩
          rw [HR.out, E.out]
          simp; omega
      · have e : (decide (1 ≤ s.size) && decide (s.size ≤ 16)) = false := by simp; omega
        have E := Lib.hid e; clear e
        go_wp2
        go_ret
        exact ⟨ret_bool (by rw [HR.out, E.out]), rfl⟩

set_option maxHeartbeats 1000000 in
set_option maxRecDepth 100000 in
theorem refNamed_any (s : ByteArray) (w : World) (hs : s.size ≤ maxLen) :
    Calls Tryz.prog 62 #[.string s] w fun e w' => e = .returned (.bool (nameOk s.data.toList)) ∧ w = w' := by
  unfold maxLen at hs
  go_enter Tryz.func62, Tryz.ntmps62
  go_wp2
  go_loop [3] (fun i => ∃ k : Nat, k ≤ s.size ∧ i = .int .i64 k ∧ Hid (NameLoop s k)) (fun i => s.size - (intOf i).toNat)
  case atStart => exact ⟨0, Nat.zero_le _, rfl, fun j _ h => by omega⟩
  case round =>
    obtain ⟨k, hk, rfl, H⟩ := hrel
    by_cases hlt : k < s.size
    · have hb := s[k].toNat_lt
      by_cases hok : nameByte s[k] = true
      · have HN := Lib.hid (H.out.step hlt hok)
        unfold nameByte at hok
        simp only [Bool.or_eq_true, Bool.and_eq_true, decide_eq_true_eq, beq_iff_eq] at hok
        rcases hok with (⟨b1, b2⟩ | ⟨b1, b2⟩) | b1
        · go_wp2
          exact ⟨⟨k + 1, by omega, by go_num, HN⟩, by simp [intOf]; omega⟩
        · go_wp2
          exact ⟨⟨k + 1, by omega, by go_num, HN⟩, by simp [intOf]; omega⟩
        · have d : ((s[k].toNat : Int) == 45) = true := by simp; omega
          go_wp2
          all_goals exact ⟨⟨k + 1, by omega, by go_num, HN⟩, by simp [intOf]; omega⟩
      · have hr := nameOk_not s k hlt (by simpa using hok)
        have HR := Lib.hid hr; clear hr
        unfold nameByte at hok
        simp at hok
        obtain ⟨⟨h1, h2⟩, h3⟩ := hok
        have d : ((s[k].toNat : Int) == 45) = false := by simp; omega
        by_cases b1 : s[k].toNat < 97
        · by_cases b2 : s[k].toNat < 48
          · go_wp2
            all_goals first | (go_ret; exact ⟨ret_bool HR.out.symm, rfl⟩) | (exfalso; rename_i q; simp at q; omega)
          · have b3 : 57 < s[k].toNat := by omega
            go_wp2
            all_goals first | (go_ret; exact ⟨ret_bool HR.out.symm, rfl⟩) | (exfalso; rename_i q; simp at q; omega)
        · have b2 : 122 < s[k].toNat := by omega
          have b3 : 57 < s[k].toNat := by omega
          go_wp2
          all_goals first | (go_ret; exact ⟨ret_bool HR.out.symm, rfl⟩) | (exfalso; rename_i q; simp at q; omega)
    · have hr := nameOk_of s (fun j h => H.out j h (by omega))
      have HR := Lib.hid hr; clear hr
      go_wp2_with (go_at_call 28; refine (in_any _ _ _ _).mono ?_; rintro e w'' ⟨rfl, rfl⟩)
      go_ret
      refine ⟨ret_bool ?_, rfl⟩
      rw [HR.out, Bool.eq_iff_iff]; simp; omega

/-! ### Numbers -/
def NumLoop (s : ByteArray) (k : Nat) (n : Nat) : Prop := digitsVal (s.data.toList.take k) = n ∧ (s.data.toList.take k).all isDigit = true ∧ n < 10 ^ k

theorem NumLoop.step {s : ByteArray} {k n : Nat} (H : NumLoop s k n) (hk : k < s.size) (h : isDigit s[k] = true) : NumLoop s (k + 1) (10 * n + (s[k].toNat - 48)) := by
  obtain ⟨h1, h2, h3⟩ := H
  have htk : s.data.toList.take (k + 1) = s.data.toList.take k ++ [s[k]] := by
    rw [List.take_add_one]; simp [hk]; rfl
  refine ⟨?_, ?_, ?_⟩
  · rw [htk, digitsVal_snoc, h1]
  · rw [htk]; simp [h2, h]
  · have := digitsVal_step (l := s.data.toList.take k) (b := s[k]) (k := k) (by omega) h
    rw [digitsVal_snoc, h1] at this
    exact this

end Go.Proofs.YthhgfdeegnimjaaGreatDoor.Subj
