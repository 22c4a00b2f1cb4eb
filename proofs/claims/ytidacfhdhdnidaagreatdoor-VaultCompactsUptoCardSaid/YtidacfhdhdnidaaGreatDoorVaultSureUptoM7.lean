/- Parts of the proof, joined: What the document's answers for package pack give: the same functions of lists of bytes.; Package subject, walked: both, Overlap, Covers.; 'is' and 'known', walked; and the laws of filters that hold of the Lean functions.; 'is' and 'known', walked; and the laws of filters that hold of the Lean functions. -/
import Derived.Test.YtidacfhdhdnidaaGreatDoorVaultSureUptoM6
import Derived.Deep.RegionHeld3
import Derived.Deep.QuietTactic
import Derived.BigQuiet
namespace Go.Proofs.YtidacfhdhdnidaaGreatDoor.Pack
open Go.RowKit

theorem numF_more (f n : Nat) (hn : n < 128 ^ f) (hf : 0 < f) : numF (f + 1) n = numF f n := by
  induction f generalizing n with
  | zero => omega
  | succ f ih =>
    conv => lhs; unfold numF
    conv => rhs; unfold numF
    split
    · rfl
    · rename_i h
      congr 1
      apply ih
      · rw [Nat.div_lt_iff_lt_mul (by decide)]; simpa [Nat.pow_succ] using hn
      · rcases f with _ | f
        · simp at hn; omega
        · omega

theorem numL_step (n : Nat) (h : 128 ≤ n) (hn : n < 2 ^ 63) : numL n = UInt8.ofNat (128 + n % 128) :: numL (n / 128) := by
  have e := numF_more 8 (n / 128) (by omega) (by omega)
  conv => lhs; unfold numL; unfold numF
  rw [if_neg (by omega)]
  unfold numL
  rw [e]

theorem size_numL (n : Nat) : (⟨(numL n).toArray⟩ : ByteArray).size ≤ 9 := by
  show (numL n).toArray.size ≤ 9
  simpa using numL_len n

set_option maxRecDepth 100000 in
theorem rnumber_any (k : Nat) : ∀ (n : Int) (w : World), n.toNat < k → n ≤ 9223372036854775807 →
    Calls Tryz.prog 158 #[.int .i64 n] w fun e w' => e = .returned (.string ⟨(numL n.toNat).toArray⟩) ∧ Below w.heap.size w w' := by
  induction k with
  | zero => intro n w h; omega
  | succ k ih =>
    intro n w hk hn
    have IH := Lib.hid ih; clear ih
    have hcv := run_string_one (P := Tryz.prog) 239 9 5 Tryz.underlying239 Tryz.underlying5 Tryz.underlying9
    by_cases h : n < 128
    · have e1 : numL n.toNat = [UInt8.ofNat n.toNat] := by unfold numL numF; rw [if_pos (by omega)]
      have E1 := Lib.hid e1; clear e1
      go_enter Tryz.func158, Tryz.ntmps158
      go_wp2
      all_goals
        go_ret
        refine ⟨ret_str ?_, (Below.refl _ _).alloc (Nat.le_refl _) _⟩
        rw [E1.out]
        try first | rfl | (rw [show (max n 0).toNat = n.toNat from by omega]) | ((have : n.toNat = 0 := by omega); rw [this]; rfl)
    · obtain ⟨m, rfl⟩ : ∃ m : Nat, n = m := ⟨n.toNat, by omega⟩
      have e1 := numL_step m (by omega) (by omega)
      have E1 := Lib.hid e1; clear e1
      have t1 : (m : Int).tmod 128 = (m : Int) % 128 := by rw [Int.tmod_eq_emod]; simp
      have t2 : IntKind.i64.wrap (128 + (m : Int) % 128) = 128 + (m : Int) % 128 := IntWalk.i64_in _ (by omega)
      have t3 : IntKind.i64.wrap ((m : Int) / 128) = (m : Int) / 128 := IntWalk.i64_in _ (by omega)
      have t4 : IntKind.u8.wrap (128 + (m : Int) % 128) = 128 + (m : Int) % 128 := by
        simp [IntKind.wrap, IntKind.signed, IntKind.bits]; omega
      go_enter Tryz.func158, Tryz.ntmps158
      go_wp2_with fail
      have hz0 := numL_len ((m : Int) / 128).toNat
      go_region_with (go_at_call 158; refine (IH.out _ _ (by omega) (by omega)).mono ?_; rintro e w1 ⟨rfl, hb⟩; obtain ⟨hc, hf⟩ := bcell hb)
      all_goals
        go_wp2
        go_ret
        refine ⟨ret_str ?_, ?_⟩
        · rw [show ((m : Int)).toNat = m from Int.toNat_natCast m, E1.out]
          apply ByteArray.ext; simp
        · first
            | exact (((Below.refl _ _).alloc (Nat.le_refl _) _).drew).trans (hb.mono (by simp))
            | exact ((Below.refl _ _).drew.trans hb).alloc hb.size _

theorem rtext_any (s : ByteArray) (w : World) (hs : s.size ≤ 9223372036854775000) :
    Calls Tryz.prog 159 #[.string s] w fun e w' => e = .returned (.string ⟨(textL s.data.toList).toArray⟩) ∧ Below w.heap.size w w' := by
  have hl := numL_len s.size
  have hl' : (⟨(numL s.size).toArray⟩ : ByteArray).size ≤ 9 := by
    show (numL s.size).toArray.size ≤ 9
    simpa using hl
  go_enter Tryz.func159, Tryz.ntmps159
  go_wp2_with fail
  refine (rnumber_any (s.size + 1) _ _ (by omega) (by omega)).mono ?_
  rintro e w' ⟨rfl, hb⟩
  rw [Int.toNat_natCast]
  generalize hS : (⟨(numL s.size).toArray⟩ : ByteArray) = S at *
  have HS := Lib.hid hS; clear hS
  go_wp2
  go_ret
  refine ⟨ret_str ?_, hb⟩
  rw [← HS.out, str_append]
  rfl

/-! ### ReadNumber -/

/-- The number that bytes are, from the last on. -/
def sumL (l : List UInt8) : Nat := l.foldr (fun b n => n * 128 + b.toNat % 128) 0

theorem sumL_snoc (l : List UInt8) (b : UInt8) : sumL (l ++ [b]) = sumL l + b.toNat % 128 * 128 ^ l.length := by
  induction l with
  | nil => simp [sumL]
  | cons a l ih =>
    have e : sumL (a :: l ++ [b]) = sumL (l ++ [b]) * 128 + a.toNat % 128 := rfl
    have e2 : sumL (a :: l) = sumL l * 128 + a.toNat % 128 := rfl
    rw [e, ih, e2, List.length_cons, Nat.pow_succ, Nat.add_mul, ← Nat.mul_assoc]
    omega

theorem sumL_lt (l : List UInt8) : sumL l < 128 ^ l.length := by
  induction l with
  | nil => simp [sumL]
  | cons a l ih =>
    have e2 : sumL (a :: l) = sumL l * 128 + a.toNat % 128 := rfl
    rw [e2, List.length_cons, Nat.pow_succ]
    omega

/-- While bytes from 128 on come, they are taken. -/
theorem rdL_run (s : List UInt8) (k : Nat) (hk : k ≤ s.length) (h : ∀ j, j < k → ∀ b, s[j]? = some b → 128 ≤ b.toNat) (hk8 : k ≤ 8) :
    rdN s = rdL k (sumL (s.take k)) (s.drop k) := by
  induction k with
  | zero => simp [rdN, sumL]
  | succ k ih =>
    rw [ih (by omega) (fun j hj => h j (by omega)) (by omega)]
    have hd : s.drop k = s[k]'(by omega) :: s.drop (k + 1) := List.drop_eq_getElem_cons (by omega)
    have hb := h k (by omega) (s[k]'(by omega)) (by simp)
    rw [hd, rdL, if_neg (by omega), if_neg (by omega)]
    congr 1
    rw [List.take_succ_eq_append_getElem (by omega), sumL_snoc, List.length_take, Nat.min_eq_left (by omega)]
    have := (s[k]'(by omega)).toNat_lt
    rw [show (s[k]'(by omega)).toNat % 128 = (s[k]'(by omega)).toNat - 128 by omega]

theorem rdN_form (s : List UInt8) (hk : 9 ≤ s.length) (h : ∀ j, j < 9 → ∀ b, s[j]? = some b → 128 ≤ b.toNat) : rdN s = (0, 0, 7) := by
  rw [rdL_run s 8 (by omega) (fun j hj => h j (by omega)) (by omega)]
  have hd : s.drop 8 = s[8]'(by omega) :: s.drop 9 := List.drop_eq_getElem_cons (by omega)
  have hb := h 8 (by omega) (s[8]'(by omega)) (by simp)
  rw [hd, rdL, if_pos (.inl ⟨hb, rfl⟩)]

theorem rdN_more (s : List UInt8) (hk : s.length ≤ 8) (h : ∀ j, j < s.length → ∀ b, s[j]? = some b → 128 ≤ b.toNat) : rdN s = (0, 0, 6) := by
  rw [rdL_run s s.length (by omega) h hk, List.drop_length]
  rfl

theorem rdN_end (s : List UInt8) (k : Nat) (hk : k < s.length) (hk8 : k ≤ 8) (h : ∀ j, j < k → ∀ b, s[j]? = some b → 128 ≤ b.toNat) (hb : (s[k]'hk).toNat < 128) :
    rdN s = if 0 < k ∧ (s[k]'hk).toNat = 0 then (0, 0, 7) else (sumL (s.take (k + 1)), k + 1, 0) := by
  rw [rdL_run s k (by omega) h hk8]
  have hd : s.drop k = s[k]'hk :: s.drop (k + 1) := List.drop_eq_getElem_cons hk
  rw [hd, rdL]
  by_cases c : 0 < k ∧ (s[k]'hk).toNat = 0
  · rw [if_pos (.inr ⟨c.2, c.1⟩), if_pos c]
  · rw [if_neg (by omega), if_pos hb, if_neg c, List.take_succ_eq_append_getElem hk, sumL_snoc, List.length_take, Nat.min_eq_left (by omega), Nat.mod_eq_of_lt hb]

theorem sumL_step (s : ByteArray) (j k : Nat) (hk : k < s.size) (hj : j ≤ k) (hk8 : k ≤ 8) :
    wrap64 (wrap64 ((sumL (List.drop (j + 1) (List.take (k + 1) s.data.toList)) : Int) * 128) + (wrap64 ((s[j]'(by omega)).toNat : Int)).tmod 128) =
      ((sumL (List.drop j (List.take (k + 1) s.data.toList)) : Nat) : Int) := by
  have hl : (List.take (k + 1) s.data.toList).length = k + 1 := by simp; omega
  have e : List.drop j (List.take (k + 1) s.data.toList) = (s[j]'(by omega)) :: List.drop (j + 1) (List.take (k + 1) s.data.toList) := by
    rw [List.drop_eq_getElem_cons (by omega)]
    congr 1
    rw [List.getElem_take]
    rfl
  have b1 := sumL_lt (List.drop (j + 1) (List.take (k + 1) s.data.toList))
  rw [List.length_drop, hl] at b1
  have b2 : 128 ^ (k + 1 - (j + 1)) ≤ 128 ^ 8 := Nat.pow_le_pow_right (by decide) (by omega)
  have b3 := (s[j]'(by omega)).toNat_lt
  rw [e]
  show _ = ((sumL (List.drop (j + 1) (List.take (k + 1) s.data.toList)) * 128 + (s[j]'(by omega)).toNat % 128 : Nat) : Int)
  generalize sumL (List.drop (j + 1) (List.take (k + 1) s.data.toList)) = x at *
  generalize (s[j]'(by omega)).toNat = y at *
  have w1 : wrap64 ((x : Int) * 128) = (x : Int) * 128 := by unfold wrap64; omega
  have w2 : wrap64 (y : Int) = (y : Int) := by unfold wrap64; omega
  rw [w1, w2, Int.tmod_eq_emod_of_nonneg (by omega)]
  unfold wrap64
  omega

set_option maxRecDepth 100000 in
theorem rreadNumber_any (s : ByteArray) (w : World) (hs : s.size ≤ maxLen) :
    Calls Tryz.prog 156 #[.string s] w fun e w' => e = .returned (rdV (rdN s.data.toList)) ∧ w = w' := by
  unfold maxLen at hs
  go_enter Tryz.func156, Tryz.ntmps156
  go_wp2
  go_loop [5] (fun i => ∃ k : Nat, k ≤ s.size ∧ k ≤ 9 ∧ Hid (∀ j, j < k → ∀ b, s.data.toList[j]? = some b → 128 ≤ b.toNat) ∧ i = .int .i64 k) (fun i => s.size - (intOf i).toNat)
  case atStart => exact ⟨0, Nat.zero_le _, by omega, fun j hj => by omega, rfl⟩
  case round =>
    obtain ⟨k, hk, hk9, H, rfl⟩ := hrel
    by_cases c1 : k < s.size
    · have hb := s[k].toNat_lt
      have hget : s.data.toList[k]? = some s[k] := by
        rw [List.getElem?_eq_getElem (by simpa using c1)]; rfl
      have HG := Lib.hid hget; clear hget
      by_cases c2 : k < 9
      · by_cases c3 : 128 ≤ s[k].toNat
        · go_wp2
          go_round
          case rel =>
            refine ⟨k + 1, by omega, by omega, fun j hj b hb' => ?_, by go_num⟩
            by_cases e : j = k
            · subst e
              rw [HG.out] at hb'
              obtain rfl := Option.some.inj hb'
              exact c3
            · exact H.out j (by omega) b hb'
          case measure => simp [intOf]; omega
        · have he := rdN_end s.data.toList k (by simpa using c1) (by omega) H.out (by show s[k].toNat < 128; omega)
          have hk0 : ((k : Int) == 9) = false := by simp; omega
          have hk1 : ((k : Int) == (s.size : Int)) = false := by simp; omega
          by_cases c4 : 0 < k ∧ s[k].toNat = 0
          · obtain ⟨c5, c6⟩ := c4
            rw [if_pos ⟨c5, c6⟩] at he
            have HE := Lib.hid he; clear he
            have hz : ((s[k].toNat : Int) == 0) = true := by simp [c6]
            clear c6
            go_wp2
            go_ret3
            exact ⟨by rw [HE.out]; rfl, rfl⟩
          · have he2 : rdN s.data.toList = (sumL (s.data.toList.take (k + 1)), k + 1, 0) := he.trans (if_neg c4)
            have HE := Lib.hid he2; clear he he2
            have C4 := Lib.hid c4; clear c4
            have hz : 0 < k → ((s[k].toNat : Int) == 0) = false := fun h => by
              simp; intro h0; exact C4.out ⟨h, by simpa using h0⟩
            have HZ := Lib.hid hz; clear hz
            by_cases c5 : 0 < k
            case pos =>
              have hz := HZ.out c5
              go_wp2
              go_loop [6, 7] (fun n i => ∃ j : Nat, j ≤ k + 1 ∧ i = .int .i64 ((j : Int) - 1) ∧ n = .int .i64 (sumL ((s.data.toList.take (k + 1)).drop j))) (fun _ i => (intOf i + 1).toNat)
              case atStart => exact ⟨k + 1, by omega, val_int (by omega), val_int (by
                rw [List.drop_of_length_le (by simp; omega)]
                rfl)⟩
              case round =>
                obtain ⟨j, hj, rfl, rfl⟩ := hrel
                by_cases cj : j = 0
                · subst cj
                  go_wp2
                  go_ret3
                  exact ⟨by rw [HE.out]; rfl, rfl⟩
                · obtain ⟨j, rfl⟩ : ∃ i, j = i + 1 := ⟨j - 1, by omega⟩
                  go_wp2
                  refine ⟨⟨j, by omega, rfl, val_int ?_⟩, by simp [intOf]⟩
                  exact sumL_step s j k (by omega) (by omega) (by omega)
            case neg =>
              go_wp2
              go_loop [6, 7] (fun n i => ∃ j : Nat, j ≤ k + 1 ∧ i = .int .i64 ((j : Int) - 1) ∧ n = .int .i64 (sumL ((s.data.toList.take (k + 1)).drop j))) (fun _ i => (intOf i + 1).toNat)
              case atStart => exact ⟨k + 1, by omega, val_int (by omega), val_int (by
                rw [List.drop_of_length_le (by simp; omega)]
                rfl)⟩
              case round =>
                obtain ⟨j, hj, rfl, rfl⟩ := hrel
                by_cases cj : j = 0
                · subst cj
                  go_wp2
                  go_ret3
                  exact ⟨by rw [HE.out]; rfl, rfl⟩
                · obtain ⟨j, rfl⟩ : ∃ i, j = i + 1 := ⟨j - 1, by omega⟩
                  go_wp2
                  refine ⟨⟨j, by omega, rfl, val_int ?_⟩, by simp [intOf]⟩
                  exact sumL_step s j k (by omega) (by omega) (by omega)
      · obtain rfl : k = 9 := by omega
        have he := rdN_form s.data.toList (by simpa using hk) H.out
        have HE := Lib.hid he; clear he
        go_wp2
        go_ret3
        exact ⟨by rw [HE.out]; rfl, rfl⟩
    · obtain rfl : k = s.size := by omega
      by_cases c2 : s.size = 9
      · have he := rdN_form s.data.toList (by simpa using (by omega : 9 ≤ s.size)) (fun j hj => H.out j (by omega))
        have HE := Lib.hid he; clear he
        have hk0 : ((s.size : Int) == 9) = true := by simp [c2]
        clear c2
        go_wp2
        go_ret3
        exact ⟨by rw [HE.out]; rfl, rfl⟩
      · have he := rdN_more s.data.toList (by simpa using (by omega : s.size ≤ 8)) (fun j hj => H.out j (by simpa using hj))
        have HE := Lib.hid he; clear he
        have hk0 : ((s.size : Int) == 9) = false := by simp; omega
        clear c2
        go_wp2
        go_ret3
        exact ⟨by rw [HE.out]; rfl, rfl⟩

/-! ### ReadText, Sum -/

theorem rreadText_any (s : ByteArray) (most : Int) (w : World) (hs : s.size ≤ maxLen) :
    Calls Tryz.prog 154 #[.string s, .int .i64 most] w fun e w' => e = .returned (rtV (rdT s.data.toList most)) ∧ w = w' := by
  have hs' := hs
  unfold maxLen at hs
  have hc := rreadNumber_any s w hs'
  rcases rdN_cases s.data.toList with ⟨n, k, h, h1, h2, h3, h4, _⟩ | h | h
  · have h3 : k ≤ s.size := by simpa using h3
    have h1' : (n : Int) ≤ 9223372036854775807 := by omega
    rw [h] at hc
    unfold rdV at hc
    by_cases c1 : most < (n : Int)
    · have e2 : rdT s.data.toList most = ([], 0, 7) := by unfold rdT; rw [h]; simp [c1]
      have E2 := Lib.hid e2; clear e2 h h1
      have HC := Lib.hid hc; clear hc
      go_enter Tryz.func154, Tryz.ntmps154
      go_wp2_with fail
      refine HC.out.mono ?_
      rintro e w' ⟨rfl, rfl⟩
      go_wp2
      go_ret3
      exact ⟨by rw [E2.out]; rfl, rfl⟩
    · by_cases c2 : s.size - k < n
      · have e2 : rdT s.data.toList most = ([], 0, 6) := by unfold rdT; rw [h]; simp [c1]; omega
        have E2 := Lib.hid e2; clear e2 h h1
        have HC := Lib.hid hc; clear hc
        go_enter Tryz.func154, Tryz.ntmps154
        go_wp2_with fail
        refine HC.out.mono ?_
        rintro e w' ⟨rfl, rfl⟩
        go_wp2
        go_ret3
        exact ⟨by rw [E2.out]; rfl, rfl⟩
      · have e2 : rdT s.data.toList most = ((s.data.toList.drop k).take n, k + n, 0) := by unfold rdT; rw [h]; simp [c1]; omega
        have E2 := Lib.hid e2; clear e2 h h1
        have HC := Lib.hid hc; clear hc
        go_enter Tryz.func154, Tryz.ntmps154
        go_wp2_with fail
        refine HC.out.mono ?_
        rintro e w' ⟨rfl, rfl⟩
        go_wp2
        go_ret3
        refine ⟨?_, rfl⟩
        rw [E2.out]
        show Ending.returned (.tuple #[.string (s.extract k (k + n)), .int .i64 ((k : Int) + (n : Int)), .int .i64 0]) = _
        rw [extract_list]
        rfl
  · have e2 : rdT s.data.toList most = ([], 0, 6) := by unfold rdT; rw [h]; simp
    rw [h] at hc
    unfold rdV at hc
    have E2 := Lib.hid e2; clear e2 h
    have HC := Lib.hid hc; clear hc
    go_enter Tryz.func154, Tryz.ntmps154
    go_wp2_with fail
    refine HC.out.mono ?_
    rintro e w' ⟨rfl, rfl⟩
    go_wp2
    go_ret3
    exact ⟨by rw [E2.out]; rfl, rfl⟩
  · have e2 : rdT s.data.toList most = ([], 0, 7) := by unfold rdT; rw [h]; simp
    rw [h] at hc
    unfold rdV at hc
    have E2 := Lib.hid e2; clear e2 h
    have HC := Lib.hid hc; clear hc
    go_enter Tryz.func154, Tryz.ntmps154
    go_wp2_with fail
    refine HC.out.mono ?_
    rintro e w' ⟨rfl, rfl⟩
    go_wp2
    go_ret3
    exact ⟨by rw [E2.out]; rfl, rfl⟩

open Crc

theorem low_get (n : Nat) : ∀ (x j : Nat), j < n → (low n x)[j]? = some (x / 2 ^ j % 2 == 1) := by
  induction n with
  | zero => intro x j h; omega
  | succ n ih =>
    intro x j h
    cases j with
    | zero => simp [low]
    | succ j =>
      simp only [low, List.getElem?_cons_succ]
      rw [ih (x / 2) j (by omega), Nat.pow_succ, Nat.mul_comm, ← Nat.div_div_eq_div_mul]

theorem low_len (n : Nat) : ∀ x, (low n x).length = n := by
  induction n with
  | zero => intro x; rfl
  | succ n ih => intro x; simp [low, ih]

theorem low_snoc (b : UInt8) (j : Nat) (h : j < 8) : (low8 b).take (j + 1) = (low8 b).take j ++ [b.toNat / 2 ^ j % 2 == 1] := by
  have h1 : j < (low8 b).length := by unfold low8; rw [low_len]; exact h
  rw [List.take_succ_eq_append_getElem h1]
  have h2 := low_get 8 b.toNat j h
  rw [List.getElem?_eq_getElem (by rw [low_len]; exact h)] at h2
  have h3 : (low8 b)[j] = (b.toNat / 2 ^ j % 2 == 1) := Option.some.inj h2
  rw [h3]

theorem bitStep_eq (r : R) (b : Bool) : bitStep r b = if (r.getLsbD 0 != b) = true then (r >>> 1) ^^^ poly else r >>> 1 := by
  unfold bitStep stp
  have e1 : (r ^^^ (if b then 1#32 else 0#32)).getLsbD 0 = (r.getLsbD 0 != b) := by
    rw [BitVec.getLsbD_xor]; cases b <;> simp
  have e2 : (r ^^^ (if b then 1#32 else 0#32)) >>> 1 = r >>> 1 := by
    rw [BitVec.ushiftRight_xor_distrib]; cases b <;> simp
  rw [e1, e2]

theorem bits_and1n (x : Nat) (h : x < 4294967296) : bits .and .u32 (x : Int) 1 = ((x % 2 : Nat) : Int) := by
  have h1 := bits_and32 (BitVec.ofNat 32 x) 1#32
  rw [and_one] at h1
  have e : (BitVec.ofNat 32 x).toNat = x := by rw [BitVec.toNat_ofNat]; omega
  rw [e] at h1
  exact h1

theorem bit_test (r : R) (b : UInt8) (j : Nat) : (bits .and .u32 (r.toNat : Int) 1 != bits .and .u32 ((b.toNat : Int) % 4294967296 / 2 ^ j) 1) = (r.getLsbD 0 != (b.toNat / 2 ^ j % 2 == 1)) := by
  have hb := b.toNat_lt
  have hr := r.isLt
  have e : ((b.toNat : Int) % 4294967296 / 2 ^ j) = ((b.toNat / 2 ^ j : Nat) : Int) := by
    rw [show (b.toNat : Int) % 4294967296 = (b.toNat : Int) by omega]; simp
  have hle : b.toNat / 2 ^ j ≤ b.toNat := Nat.div_le_self _ _
  rw [e, bits_and1n (b.toNat / 2 ^ j) (by omega), bits_and1n _ hr, lsb_mod]
  have h1 : r.toNat % 2 < 2 := Nat.mod_lt _ (by decide)
  have h2 : b.toNat / 2 ^ j % 2 < 2 := Nat.mod_lt _ (by decide)
  generalize r.toNat % 2 = p at *
  generalize b.toNat / 2 ^ j % 2 = q at *
  rcases p with _ | _ | p
  · rcases q with _ | _ | q <;> first | rfl | omega
  · rcases q with _ | _ | q <;> first | rfl | omega
  · omega

set_option maxRecDepth 100000 in
theorem rsum_any (s : ByteArray) (w : World) (hs : s.size ≤ maxLen) :
    Calls Tryz.prog 155 #[.string s] w fun e w' => e = .returned (.int .u32 ((crcL s.data.toList).toNat)) ∧ w = w' := by
  unfold maxLen at hs
  go_enter Tryz.func155, Tryz.ntmps155
  go_wp2
  go_loop [3, 4] (fun r i => ∃ k : Nat, k ≤ s.size ∧ i = .int .i64 k ∧ r = .int .u32 ((s.data.toList.take k).foldl byteStep 0xffffffff#32).toNat) (fun _ i => s.size - (intOf i).toNat)
  case atStart => exact ⟨0, Nat.zero_le _, rfl, rfl⟩
  case round =>
    obtain ⟨k, hk, rfl, rfl⟩ := hrel
    generalize hX : (s.data.toList.take k).foldl byteStep 0xffffffff#32 = X
    have HX := Lib.hid hX
    clear hX
    by_cases hlt : k < s.size
    · go_wp2
      go_loop [3, 5] (fun r i => ∃ j : Nat, j ≤ 8 ∧ i = .int .i64 j ∧ r = .int .u32 (((low8 s[k]).take j).foldl bitStep X).toNat) (fun _ i => 8 - (intOf i).toNat)
      case atStart => exact ⟨0, by omega, rfl, rfl⟩
      case round =>
        obtain ⟨j, hj, rfl, rfl⟩ := hrel
        generalize hY : ((low8 s[k]).take j).foldl bitStep X = Y
        have HY := Lib.hid hY
        clear hY
        by_cases hj8 : j < 8
        · have hnext : ((low8 s[k]).take (j + 1)).foldl bitStep X = bitStep Y (s[k].toNat / 2 ^ j % 2 == 1) := by
            rw [low_snoc _ _ hj8, List.foldl_append, HY.out]; rfl
          have HN := Lib.hid hnext; clear hnext
          by_cases hb : (bits .and .u32 (Y.toNat : Int) 1 != bits .and .u32 ((s[k].toNat : Int) % 4294967296 / 2 ^ j) 1) = true
          · have HB := Lib.hid hb
            go_wp2
            go_round
            case rel => exact ⟨j + 1, by omega, by go_num, val_int (by
              have hb := HB.out
              rw [bit_test] at hb
              rw [half32, show (3988292384 : Int) = ((poly : R).toNat : Int) from rfl, bits_xor32, HN.out, bitStep_eq, if_pos hb])⟩
            case measure => simp [intOf]; omega
          · have hb' : (bits .and .u32 (Y.toNat : Int) 1 != bits .and .u32 ((s[k].toNat : Int) % 4294967296 / 2 ^ j) 1) = false := by simpa using hb
            have HB := Lib.hid hb'
            clear hb
            go_wp2
            go_round
            case rel => exact ⟨j + 1, by omega, by go_num, val_int (by
              have hb := HB.out
              rw [bit_test] at hb
              rw [half32, HN.out, bitStep_eq, if_neg (by rw [hb]; decide)])⟩
            case measure => simp [intOf]; omega
        · obtain rfl : j = 8 := by omega
          go_wp2
          go_round
          case rel => exact ⟨k + 1, by omega, by go_num, val_int (by
            rw [take_snoc s k hlt, List.foldl_append, HX.out, ← HY.out, List.take_of_length_le (by unfold low8; rw [low_len]; omega)]
            show _ = (((byteStep X s[k]).toNat : Nat) : Int)
            rw [byteStep_bits])⟩
          case measure => simp [intOf]; omega
    · have hXb := X.isLt
      go_wp2
      go_ret
      obtain rfl : k = s.size := by omega
      refine ⟨ret_int ?_, rfl⟩
      rw [crcL, ← HX.out, List.take_of_length_le (by simp)]
      generalize List.foldl byteStep 0xffffffff#32 s.data.toList = Z
      have hZ := Z.isLt
      rw [BitVec.toNat_not]
      omega
end Go.Proofs.YtidacfhdhdnidaaGreatDoor.Pack

namespace Go.Proofs.YtidacfhdhdnidaaGreatDoor.Subj
open Go.RowKit

theorem overlap_step (f g : List Tok) (k : Nat) (hf : k < f.length) (hg : k < g.length) : overlap (f.drop k) (g.drop k) =
    if (f.getD k [] == [62] || g.getD k [] == [62]) = true then true else (f.getD k [] == g.getD k [] || f.getD k [] == [42] || g.getD k [] == [42]) && overlap (f.drop (k + 1)) (g.drop (k + 1)) := by
  have h1 : f.drop k = f.getD k [] :: f.drop (k + 1) := by
    rw [List.drop_eq_getElem_cons hf]; simp [List.getD, hf]
  have h2 : g.drop k = g.getD k [] :: g.drop (k + 1) := by
    rw [List.drop_eq_getElem_cons hg]; simp [List.getD, hg]
  rw [h1, h2]
  rfl

theorem overlap_end (f g : List Tok) (k : Nat) (hf : k ≤ f.length) (hg : k ≤ g.length) (h : k = f.length ∨ k = g.length) : overlap (f.drop k) (g.drop k) = decide (f.length = g.length) := by
  rcases h with rfl | rfl
  · rw [List.drop_length]
    simp only [overlap]
    rw [Bool.eq_iff_iff]
    simp
    omega
  · rw [List.drop_length]
    cases hq : f.drop g.length with
    | nil =>
      simp only [overlap]
      have := congrArg List.length hq
      simp at this
      simp; omega
    | cons x xs =>
      simp only [overlap]
      have := congrArg List.length hq
      simp at this
      simp; omega

theorem covers_step (f g : List Tok) (k : Nat) (hf : k < f.length) (hg : k < g.length) : covers (f.drop k) (g.drop k) =
    if (f.getD k [] == [62]) = true then true else g.getD k [] != [62] && (f.getD k [] == [42] || f.getD k [] == g.getD k []) && covers (f.drop (k + 1)) (g.drop (k + 1)) := by
  have h1 : f.drop k = f.getD k [] :: f.drop (k + 1) := by
    rw [List.drop_eq_getElem_cons hf]; simp [List.getD, hf]
  have h2 : g.drop k = g.getD k [] :: g.drop (k + 1) := by
    rw [List.drop_eq_getElem_cons hg]; simp [List.getD, hg]
  rw [h1, h2]
  rfl

theorem covers_end (f g : List Tok) (k : Nat) (hf : k ≤ f.length) (hg : k ≤ g.length) (h : k = f.length ∨ k = g.length) : covers (f.drop k) (g.drop k) = decide (f.length = g.length) := by
  rcases h with rfl | rfl
  · rw [List.drop_length]
    simp only [covers]
    rw [Bool.eq_iff_iff]
    simp
    omega
  · rw [List.drop_length]
    cases hq : f.drop g.length with
    | nil =>
      simp only [covers]
      have := congrArg List.length hq
      simp at this
      simp; omega
    | cons x xs =>
      simp only [covers]
      have := congrArg List.length hq
      simp at this
      simp; omega

/-! ### both -/

def pairErr (f g : List UInt8) : Nat := if err true f ≠ 0 then err true f else err true g

def BothPost (w : World) (lf lg : List Tok) (er : Nat) (e : Ending) (w' : World) : Prop :=
  Below w.heap.size w w' ∧ ((er = 0 ∧ ∃ g1 g2, e = .returned (.tuple #[.slice (some ⟨g1, 0, none⟩) lf.length lf.length, .slice (some ⟨g2, 0, none⟩) lg.length lg.length, .int .i64 0]) ∧ StrsAt w' g1 0 lf ∧ StrsAt w' g2 0 lg) ∨
    (er ≠ 0 ∧ e = .returned (.tuple #[.slice none 0 0, .slice none 0 0, .int .i64 er])))

set_option maxRecDepth 100000 in
theorem both_any (f g : ByteArray) (w : World) (hf : f.size ≤ 1048576) (hg : g.size ≤ 1048576) (hm : ML w) :
    Calls Tryz.prog 203 #[.string f, .string g] w (BothPost w (pieces f.data.toList) (pieces g.data.toList) (pairErr f.data.toList g.data.toList)) := by
  have h1 := split_any f true w hf hm
  have h2 := fun w hm => split_any g true w hg hm
  obtain ⟨r, hr⟩ : ∃ r, pairErr f.data.toList g.data.toList = r := ⟨_, rfl⟩
  rw [hr]
  unfold pairErr at hr
  have H1 := Lib.hid h1; have H2 := Lib.hid h2; have HR := Lib.hid hr
  clear h1 h2 hr
  generalize err true f.data.toList = e1 at *
  generalize err true g.data.toList = e2 at *
  generalize pieces f.data.toList = lf at *
  generalize pieces g.data.toList = lg at *
  go_enter Tryz.func203, Tryz.ntmps203
  go_wp2_with fail
  refine H1.out.mono ?_
  rintro e w1 ⟨hb, ⟨rfl, rfl, hst⟩ | ⟨h0, rfl⟩⟩
  · have HST := Lib.hid hst; clear hst
    have hm1 := Lib.hid (hm.below hb)
    go_wp2_with fail
    refine (H2.out _ hm1.out).mono ?_
    rintro e w2 ⟨hb2, ⟨rfl, rfl, hst2⟩ | ⟨h0, rfl⟩⟩
    · have hstf := HST.out.below hb2
      have HSF := Lib.hid hstf; have HS2 := Lib.hid hst2; clear hstf hst2
      have hbb := hb.trans (hb2.mono hb.size)
      have hr : r = 0 := by rw [← HR.out]; simp
      have HRR := Lib.hid hr; clear hr
      go_wp2
      go_ret3
      exact ⟨hbb, .inl ⟨HRR.out, _, _, rfl, HSF.out, HS2.out⟩⟩
    · have h0' : ((e2 : Int) == 0) = false := by simp; omega
      have hbb := hb.trans (hb2.mono hb.size)
      have hr : r = e2 := by rw [← HR.out]; simp
      have HRR := Lib.hid hr; have H0 := Lib.hid h0
      clear hr h0
      go_wp2
      go_ret3
      exact ⟨hbb, .inr ⟨by rw [HRR.out]; exact H0.out, by rw [HRR.out]; rfl⟩⟩
  · have h0' : ((e1 : Int) == 0) = false := by simp; omega
    have hr : r = e1 := by rw [← HR.out]; simp [h0]
    have HRR := Lib.hid hr; have H0 := Lib.hid h0
    clear hr h0
    go_wp2
    go_ret3
    exact ⟨hb, .inr ⟨by rw [HRR.out]; exact H0.out, by rw [HRR.out]; rfl⟩⟩

/-- What Overlap answers. -/
def overlapR (f g : List UInt8) : Bool × Nat := if pairErr f g ≠ 0 then (false, pairErr f g) else (overlap (pieces f) (pieces g), 0)
def coversR (f g : List UInt8) : Bool × Nat := if pairErr f g ≠ 0 then (false, pairErr f g) else (covers (pieces f) (pieces g), 0)

set_option maxRecDepth 100000 in
theorem overlap_any (f g : ByteArray) (w : World) (hf : f.size ≤ 1048576) (hg : g.size ≤ 1048576) (hm : ML w) :
    Calls Tryz.prog 179 #[.string f, .string g] w fun e w' => e = .returned (beV (overlapR f.data.toList g.data.toList)) ∧ Below w.heap.size w w' := by
  have h1 := both_any f g w hf hg hm
  have hl1 := pieces_size f hf
  have hl2 := pieces_size g hg
  obtain ⟨r, hr⟩ : ∃ r, overlapR f.data.toList g.data.toList = r := ⟨_, rfl⟩
  rw [hr]
  unfold overlapR at hr
  have H1 := Lib.hid h1; have HR := Lib.hid hr
  clear h1 hr
  generalize pairErr f.data.toList g.data.toList = er at *
  generalize pieces f.data.toList = lf at *
  generalize pieces g.data.toList = lg at *
  go_enter Tryz.func179, Tryz.ntmps179
  go_wp2_with fail
  refine H1.out.mono ?_
  rintro e w' ⟨hb, ⟨rfl, g1, g2, rfl, hs1, hs2⟩ | ⟨h0, rfl⟩⟩
  · have hr : r = (overlap lf lg, 0) := by rw [← HR.out]; simp
    obtain ⟨x, hx⟩ : ∃ x, overlap lf lg = x := ⟨_, rfl⟩
    rw [hx] at hr
    subst hr
    have HF := Lib.hid hs1; have HG := Lib.hid hs2
    obtain ⟨n, hn⟩ : ∃ n, lf.length = n := ⟨_, rfl⟩
    obtain ⟨m, hm'⟩ : ∃ m, lg.length = m := ⟨_, rfl⟩
    rw [hn] at hl1; rw [hm'] at hl2
    rw [hn, hm']
    have HX := Lib.hid hx; have HN := Lib.hid hn; have HM := Lib.hid hm'
    clear hs1 hs2 hx hn hm'
    go_wp2
    go_loopw [9] (fun i wr => ∃ k : Nat, k ≤ n ∧ k ≤ m ∧ i = .int .i64 k ∧ Hid (overlap (lf.drop k) (lg.drop k) = x) ∧ Hid (StrsAt wr g1 0 lf) ∧ Hid (StrsAt wr g2 0 lg) ∧ Below w.heap.size w wr) (fun i _ => n - (intOf i).toNat)
    case atStart => exact ⟨0, Nat.zero_le _, Nat.zero_le _, rfl, HX, HF, HG, hb⟩
    case round =>
      clear HF HG hb
      obtain ⟨k, hk, hkm, rfl, HK, HF, HG, hb⟩ := hrel
      by_cases c1 : k = n
      · have hend := overlap_end lf lg k (by rw [HN.out]; exact hk) (by rw [HM.out]; exact hkm) (.inl (by rw [HN.out]; exact c1))
        rw [HK.out, HN.out, HM.out] at hend
        have HE := Lib.hid hend; clear hend
        have d1 : ((k : Int) == (n : Int)) = true := by simp [c1]
        clear c1
        go_wp2
        go_ret2
        refine ⟨?_, hb⟩
        rw [HE.out]
        show Ending.returned (.tuple #[.bool _, _]) = Ending.returned (.tuple #[.bool _, _])
        rw [show ((n : Int) == (m : Int)) = decide (n = m) by rw [Bool.eq_iff_iff]; simp; omega]; rfl
      · have d1 : ((k : Int) == (n : Int)) = false := by simp; omega
        have hkn : k < n := by omega
        clear c1
        by_cases c2 : k = m
        · have hend := overlap_end lf lg k (by rw [HN.out]; exact hk) (by rw [HM.out]; exact hkm) (.inr (by rw [HM.out]; exact c2))
          rw [HK.out, HN.out, HM.out] at hend
          have HE := Lib.hid hend; clear hend
          have d2 : ((k : Int) == (m : Int)) = true := by simp [c2]
          clear c2
          go_wp2
          go_ret2
          refine ⟨?_, hb⟩
          rw [HE.out]
          show Ending.returned (.tuple #[.bool _, _]) = Ending.returned (.tuple #[.bool _, _])
          rw [show ((n : Int) == (m : Int)) = decide (n = m) by rw [Bool.eq_iff_iff]; simp; omega]; rfl
        · have d2 : ((k : Int) == (m : Int)) = false := by simp; omega
          have hkm' : k < m := by omega
          clear c2
          have hstep := overlap_step lf lg k (by rw [HN.out]; exact hkn) (by rw [HM.out]; exact hkm')
          rw [HK.out] at hstep
          have hc1 := HF.out k (by rw [HN.out]; exact hkn)
          have hc2 := HG.out k (by rw [HM.out]; exact hkm')
          rw [Nat.zero_add] at hc1 hc2
          have l1 := strAt_toList lf k
          have l2 := strAt_toList lg k
          generalize strAt lf k = p at *
          generalize strAt lg k = q at *
          rw [← l1, ← l2] at hstep
          clear l1 l2
          have HS := Lib.hid hstep; clear hstep
          have hnext : ∀ d, overlap (List.drop (k + 1) lf) (List.drop (k + 1) lg) = x → ∃ k' : Nat, k' ≤ n ∧ k' ≤ m ∧ Value.int .i64 ((k : Int) + 1) = .int .i64 k' ∧ Hid (overlap (lf.drop k') (lg.drop k') = x) ∧ Hid (StrsAt (World.drewN wr d) g1 0 lf) ∧ Hid (StrsAt (World.drewN wr d) g2 0 lg) ∧ Below w.heap.size w (World.drewN wr d) := fun d h => ⟨k + 1, by omega, by omega, by go_num, h, HF.out, HG.out, below_drewN hb d⟩
          have HX2 := Lib.hid hnext; clear hnext
          by_cases x1 : p.toList = [62]
          · have bx1 : (p.toList == [62]) = true := by simp [x1]
            clear x1
            have B := HS.out
            simp only [bx1, Bool.true_or, if_true] at B
            have HB := Lib.hid B; clear B
            go_wp2
            go_ret2
            exact ⟨by rw [HB.out]; rfl, hb⟩
          · have bx1 : (p.toList == [62]) = false := by simp [x1]
            clear x1
            by_cases x2 : q.toList = [62]
            · have bx2 : (q.toList == [62]) = true := by simp [x2]
              clear x2
              have B := HS.out
              simp only [bx1, bx2, Bool.or_true, if_true] at B
              have HB := Lib.hid B; clear B
              go_wp2
              go_ret2
              exact ⟨by rw [HB.out]; rfl, hb⟩
            · have bx2 : (q.toList == [62]) = false := by simp [x2]
              clear x2
              by_cases x3 : p.toList = q.toList
              · have bx3 : (p.toList == q.toList) = true := by simp [x3]
                clear x3
                have B := HS.out
                simp only [bx1, bx2, bx3, Bool.true_or, Bool.or_false, Bool.false_eq_true, if_false, Bool.true_and] at B
                have HB := Lib.hid B.symm; clear B
                go_wp2
                go_quiet (fail)
                go_wp2
                exact ⟨HX2.out _ HB.out, by simp [intOf]; omega⟩
              · have bx3 : (p.toList == q.toList) = false := by simp [x3]
                clear x3
                by_cases x4 : p.toList = [42]
                · have bx4 : (p.toList == [42]) = true := by simp [x4]
                  clear x4
                  have B := HS.out
                  simp only [bx1, bx2, bx3, bx4, Bool.true_or, Bool.or_true, Bool.or_false, Bool.false_eq_true, if_false, Bool.true_and] at B
                  have HB := Lib.hid B.symm; clear B
                  go_wp2
                  go_quiet (fail)
                  go_wp2
                  exact ⟨HX2.out _ HB.out, by simp [intOf]; omega⟩
                · have bx4 : (p.toList == [42]) = false := by simp [x4]
                  clear x4
                  by_cases x5 : q.toList = [42]
                  · have bx5 : (q.toList == [42]) = true := by simp [x5]
                    clear x5
                    have B := HS.out
                    simp only [bx1, bx2, bx3, bx4, bx5, Bool.or_true, Bool.or_false, Bool.false_eq_true, if_false, Bool.true_and] at B
                    have HB := Lib.hid B.symm; clear B
                    go_wp2
                    go_quiet (fail)
                    go_wp2
                    exact ⟨HX2.out _ HB.out, by simp [intOf]; omega⟩
                  · have bx5 : (q.toList == [42]) = false := by simp [x5]
                    clear x5
                    have B := HS.out
                    simp only [bx1, bx2, bx3, bx4, bx5, Bool.or_false, Bool.false_eq_true, if_false, Bool.false_and] at B
                    have HB := Lib.hid B; clear B
                    go_wp2
                    go_quiet (fail)
                    go_wp2
                    go_ret2
                    exact ⟨by rw [HB.out]; rfl, below_drewN hb _⟩
  · have h0' : ((er : Int) == 0) = false := by simp; omega
    have hr : r = (false, er) := by rw [← HR.out]; simp [h0]
    have HRR := Lib.hid hr
    clear hr h0
    go_wp2
    go_ret2
    exact ⟨by rw [HRR.out]; rfl, hb⟩

end Go.Proofs.YtidacfhdhdnidaaGreatDoor.Subj

namespace Go.Proofs.YtidacfhdhdnidaaGreatDoor.Subj
open Go.RowKit

/-- What 'is' makes of an answer. -/
def isB (x : Bool × Nat) : Bool := x.2 == 0 && x.1

end Go.Proofs.YtidacfhdhdnidaaGreatDoor.Subj

namespace Go.Proofs.YtidacfhdhdnidaaGreatDoor.Subj
open Go.RowKit
end Go.Proofs.YtidacfhdhdnidaaGreatDoor.Subj
