/- Parts of the proof, joined: What the document's answers for package pack give: the same functions of lists of bytes.; Package subject, walked: both, Overlap, Covers.; 'is' and 'known', walked; and the laws of filters that hold of the Lean functions.; 'is' and 'known', walked; and the laws of filters that hold of the Lean functions. -/
import Derived.Test.YtbgchhgdlceceaaGreatDoorLogPlaysUptoM13
namespace Go.Proofs.YtbgchhgdlceceaaGreatDoor.Pack
open Go.RowKit

theorem numF_more (f n : Nat) (hn : n < 128 ^ f) (hf : 0 < f) : numF (f + 1) n = numF f n := by
  induction f generalizing n with
  | zero => omega
  | succ f ih =>
    conv => lhs; unfold numF
    conv => rhs; unfold numF
    split
    · rfl
    · rename_i h
      congr 1
      apply ih
      · rw [Nat.div_lt_iff_lt_mul (by decide)]; simpa [Nat.pow_succ] using hn
      · rcases f with _ | f
        · simp at hn; omega
        · omega

theorem numL_step (n : Nat) (h : 128 ≤ n) (hn : n < 2 ^ 63) : numL n = UInt8.ofNat (128 + n % 128) :: numL (n / 128) := by
  have e := numF_more 8 (n / 128) (by omega) (by omega)
  conv => lhs; unfold numL; unfold numF
  rw [if_neg (by omega)]
  unfold numL
  rw [e]

set_option maxRecDepth 100000 in
theorem rnumber_any (k : Nat) : ∀ (n : Int) (w : World), n.toNat < k → n ≤ 9223372036854775807 →
    Calls Tryz.prog 177 #[.int .i64 n] w fun e w' => e = .returned (.string ⟨(numL n.toNat).toArray⟩) ∧ Below w.heap.size w w' := by
  induction k with
  | zero => intro n w h; omega
  | succ k ih =>
    intro n w hk hn
    have IH := Lib.hid ih; clear ih
    have hcv := run_string_one (P := Tryz.prog) 260 9 5 Tryz.underlying260 Tryz.underlying5 Tryz.underlying9
    by_cases h : n < 128
    · have e1 : numL n.toNat = [UInt8.ofNat n.toNat] := by unfold numL numF; rw [if_pos (by omega)]
      have E1 := Lib.hid e1; clear e1
      go_enter Tryz.func177, Tryz.ntmps177
      go_wp2
      all_goals
        go_ret
        refine ⟨ret_str ?_, (Below.refl _ _).alloc (Nat.le_refl _) _⟩
        rw [E1.out]
        try first | rfl | (rw [show (max n 0).toNat = n.toNat from by omega]) | ((have : n.toNat = 0 := by omega); rw [this]; rfl)
    · obtain ⟨m, rfl⟩ : ∃ m : Nat, n = m := ⟨n.toNat, by omega⟩
      have e1 := numL_step m (by omega) (by omega)
      have E1 := Lib.hid e1; clear e1
      have t1 : (m : Int).tmod 128 = (m : Int) % 128 := by rw [Int.tmod_eq_emod]; simp
      have t2 : IntKind.i64.wrap (128 + (m : Int) % 128) = 128 + (m : Int) % 128 := IntWalk.i64_in _ (by omega)
      have t3 : IntKind.i64.wrap ((m : Int) / 128) = (m : Int) / 128 := IntWalk.i64_in _ (by omega)
      have t4 : IntKind.u8.wrap (128 + (m : Int) % 128) = 128 + (m : Int) % 128 := by
        simp [IntKind.wrap, IntKind.signed, IntKind.bits]; omega
      go_enter Tryz.func177, Tryz.ntmps177
      go_wp2_with fail
      have hz0 := numL_len ((m : Int) / 128).toNat
      go_region_with (go_at_call 177; refine (IH.out _ _ (by omega) (by omega)).mono ?_; rintro e w1 ⟨rfl, hb⟩; obtain ⟨hc, hf⟩ := bcell hb)
      all_goals
        go_wp2
        go_ret
        refine ⟨ret_str ?_, ?_⟩
        · rw [show ((m : Int)).toNat = m from Int.toNat_natCast m, E1.out]
          apply ByteArray.ext; simp
        · first
            | exact (((Below.refl _ _).alloc (Nat.le_refl _) _).drew).trans (hb.mono (by simp))
            | exact ((Below.refl _ _).drew.trans hb).alloc hb.size _

theorem rtext_any (s : ByteArray) (w : World) (hs : s.size ≤ 9223372036854775000) :
    Calls Tryz.prog 178 #[.string s] w fun e w' => e = .returned (.string ⟨(textL s.data.toList).toArray⟩) ∧ Below w.heap.size w w' := by
  have hl := numL_len s.size
  have hl' : (⟨(numL s.size).toArray⟩ : ByteArray).size ≤ 9 := by
    show (numL s.size).toArray.size ≤ 9
    simpa using hl
  go_enter Tryz.func178, Tryz.ntmps178
  go_wp2_with fail
  refine (rnumber_any (s.size + 1) _ _ (by omega) (by omega)).mono ?_
  rintro e w' ⟨rfl, hb⟩
  rw [Int.toNat_natCast]
  generalize hS : (⟨(numL s.size).toArray⟩ : ByteArray) = S at *
  have HS := Lib.hid hS; clear hS
  go_wp2
  go_ret
  refine ⟨ret_str ?_, hb⟩
  rw [← HS.out, str_append]
  rfl

/-! ### ReadNumber -/

/-- The number that bytes are, from the last on. -/
def sumL (l : List UInt8) : Nat := l.foldr (fun b n => n * 128 + b.toNat % 128) 0

theorem sumL_snoc (l : List UInt8) (b : UInt8) : sumL (l ++ [b]) = sumL l + b.toNat % 128 * 128 ^ l.length := by
  induction l with
  | nil => simp [sumL]
  | cons a l ih =>
    have e : sumL (a :: l ++ [b]) = sumL (l ++ [b]) * 128 + a.toNat % 128 := rfl
    have e2 : sumL (a :: l) = sumL l * 128 + a.toNat % 128 := rfl
    rw [e, ih, e2, List.length_cons, Nat.pow_succ, Nat.add_mul, ← Nat.mul_assoc]
    omega

theorem sumL_lt (l : List UInt8) : sumL l < 128 ^ l.length := by
  induction l with
  | nil => simp [sumL]
  | cons a l ih =>
    have e2 : sumL (a :: l) = sumL l * 128 + a.toNat % 128 := rfl
    rw [e2, List.length_cons, Nat.pow_succ]
    omega

/-- While bytes from 128 on come, they are taken. -/
theorem rdL_run (s : List UInt8) (k : Nat) (hk : k ≤ s.length) (h : ∀ j, j < k → ∀ b, s[j]? = some b → 128 ≤ b.toNat) (hk8 : k ≤ 8) :
    rdN s = rdL k (sumL (s.take k)) (s.drop k) := by
  induction k with
  | zero => simp [rdN, sumL]
  | succ k ih =>
    rw [ih (by omega) (fun j hj => h j (by omega)) (by omega)]
    have hd : s.drop k = s[k]'(by omega) :: s.drop (k + 1) := List.drop_eq_getElem_cons (by omega)
    have hb := h k (by omega) (s[k]'(by omega)) (by simp)
    rw [hd, rdL, if_neg (by omega), if_neg (by omega)]
    congr 1
    rw [List.take_succ_eq_append_getElem (by omega), sumL_snoc, List.length_take, Nat.min_eq_left (by omega)]
    have := (s[k]'(by omega)).toNat_lt
    rw [show (s[k]'(by omega)).toNat % 128 = (s[k]'(by omega)).toNat - 128 by omega]

theorem rdN_form (s : List UInt8) (hk : 9 ≤ s.length) (h : ∀ j, j < 9 → ∀ b, s[j]? = some b → 128 ≤ b.toNat) : rdN s = (0, 0, 7) := by
  rw [rdL_run s 8 (by omega) (fun j hj => h j (by omega)) (by omega)]
  have hd : s.drop 8 = s[8]'(by omega) :: s.drop 9 := List.drop_eq_getElem_cons (by omega)
  have hb := h 8 (by omega) (s[8]'(by omega)) (by simp)
  rw [hd, rdL, if_pos (.inl ⟨hb, rfl⟩)]

theorem rdN_more (s : List UInt8) (hk : s.length ≤ 8) (h : ∀ j, j < s.length → ∀ b, s[j]? = some b → 128 ≤ b.toNat) : rdN s = (0, 0, 6) := by
  rw [rdL_run s s.length (by omega) h hk, List.drop_length]
  rfl

theorem rdN_end (s : List UInt8) (k : Nat) (hk : k < s.length) (hk8 : k ≤ 8) (h : ∀ j, j < k → ∀ b, s[j]? = some b → 128 ≤ b.toNat) (hb : (s[k]'hk).toNat < 128) :
    rdN s = if 0 < k ∧ (s[k]'hk).toNat = 0 then (0, 0, 7) else (sumL (s.take (k + 1)), k + 1, 0) := by
  rw [rdL_run s k (by omega) h hk8]
  have hd : s.drop k = s[k]'hk :: s.drop (k + 1) := List.drop_eq_getElem_cons hk
  rw [hd, rdL]
  by_cases c : 0 < k ∧ (s[k]'hk).toNat = 0
  · rw [if_pos (.inr ⟨c.2, c.1⟩), if_pos c]
  · rw [if_neg (by omega), if_pos hb, if_neg c, List.take_succ_eq_append_getElem hk, sumL_snoc, List.length_take, Nat.min_eq_left (by omega), Nat.mod_eq_of_lt hb]

theorem sumL_step (s : ByteArray) (j k : Nat) (hk : k < s.size) (hj : j ≤ k) (hk8 : k ≤ 8) :
    wrap64 (wrap64 ((sumL (List.drop (j + 1) (List.take (k + 1) s.data.toList)) : Int) * 128) + (wrap64 ((s[j]'(by omega)).toNat : Int)).tmod 128) =
      ((sumL (List.drop j (List.take (k + 1) s.data.toList)) : Nat) : Int) := by
  have hl : (List.take (k + 1) s.data.toList).length = k + 1 := by simp; omega
  have e : List.drop j (List.take (k + 1) s.data.toList) = (s[j]'(by omega)) :: List.drop (j + 1) (List.take (k + 1) s.data.toList) := by
    rw [List.drop_eq_getElem_cons (by omega)]
    congr 1
    rw [List.getElem_take]
    rfl
  have b1 := sumL_lt (List.drop (j + 1) (List.take (k + 1) s.data.toList))
  rw [List.length_drop, hl] at b1
  have b2 : 128 ^ (k + 1 - (j + 1)) ≤ 128 ^ 8 := Nat.pow_le_pow_right (by decide) (by omega)
  have b3 := (s[j]'(by omega)).toNat_lt
  rw [e]
  show _ = ((sumL (List.drop (j + 1) (List.take (k + 1) s.data.toList)) * 128 + (s[j]'(by omega)).toNat % 128 : Nat) : Int)
  generalize sumL (List.drop (j + 1) (List.take (k + 1) s.data.toList)) = x at *
  generalize (s[j]'(by omega)).toNat = y at *
  have w1 : wrap64 ((x : Int) * 128) = (x : Int) * 128 := by unfold wrap64; omega
  have w2 : wrap64 (y : Int) = (y : Int) := by unfold wrap64; omega
  rw [w1, w2, Int.tmod_eq_emod_of_nonneg (by omega)]
  unfold wrap64
  omega

set_option maxRecDepth 100000 in
theorem rreadNumber_any (s : ByteArray) (w : World) (hs : s.size ≤ maxLen) :
    Calls Tryz.prog 175 #[.string s] w fun e w' => e = .returned (rdV (rdN s.data.toList)) ∧ w = w' := by
  unfold maxLen at hs
  go_enter Tryz.func175, Tryz.ntmps175
  go_wp2
  go_loop [5] (fun i => ∃ k : Nat, k ≤ s.size ∧ k ≤ 9 ∧ Hid (∀ j, j < k → ∀ b, s.data.toList[j]? = some b → 128 ≤ b.toNat) ∧ i = .int .i64 k) (fun i => s.size - (intOf i).toNat)
  case atStart => exact ⟨0, Nat.zero_le _, by omega, fun j hj => by omega, rfl⟩
  case round =>
    obtain ⟨k, hk, hk9, H, rfl⟩ := hrel
    by_cases c1 : k < s.size
    · have hb := s[k].toNat_lt
      have hget : s.data.toList[k]? = some s[k] := by
        rw [List.getElem?_eq_getElem (by simpa using c1)]; rfl
      have HG := Lib.hid hget; clear hget
      by_cases c2 : k < 9
      · by_cases c3 : 128 ≤ s[k].toNat
        · go_wp2
          go_round
          case rel =>
            refine ⟨k + 1, by omega, by omega, fun j hj b hb' => ?_, by go_num⟩
            by_cases e : j = k
            · subst e
              rw [HG.out] at hb'
              obtain rfl := Option.some.inj hb'
              exact c3
            · exact H.out j (by omega) b hb'
          case measure => simp [intOf]; omega
        · have he := rdN_end s.data.toList k (by simpa using c1) (by omega) H.out (by show s[k].toNat < 128; omega)
          have hk0 : ((k : Int) == 9) = false := by simp; omega
          have hk1 : ((k : Int) == (s.size : Int)) = false := by simp; omega
          by_cases c4 : 0 < k ∧ s[k].toNat = 0
          · obtain ⟨c5, c6⟩ := c4
            rw [if_pos ⟨c5, c6⟩] at he
            have HE := Lib.hid he; clear he
            have hz : ((s[k].toNat : Int) == 0) = true := by simp [c6]
            clear c6
            go_wp2
            go_ret3
            exact ⟨by rw [HE.out]; rfl, rfl⟩
          · have he2 : rdN s.data.toList = (sumL (s.data.toList.take (k + 1)), k + 1, 0) := he.trans (if_neg c4)
            have HE := Lib.hid he2; clear he he2
            have C4 := Lib.hid c4; clear c4
            have hz : 0 < k → ((s[k].toNat : Int) == 0) = false := fun h => by
              simp; intro h0; exact C4.out ⟨h, by simpa using h0⟩
            have HZ := Lib.hid hz; clear hz
            by_cases c5 : 0 < k
            case pos =>
              have hz := HZ.out c5
              go_wp2
              go_loop [6, 7] (fun n i => ∃ j : Nat, j ≤ k + 1 ∧ i = .int .i64 ((j : Int) - 1) ∧ n = .int .i64 (sumL ((s.data.toList.take (k + 1)).drop j))) (fun _ i => (intOf i + 1).toNat)
              case atStart => exact ⟨k + 1, by omega, val_int (by omega), val_int (by
                rw [List.drop_of_length_le (by simp; omega)]
                rfl)⟩
              case round =>
                obtain ⟨j, hj, rfl, rfl⟩ := hrel
                by_cases cj : j = 0
                · subst cj
                  go_wp2
                  go_ret3
                  exact ⟨by rw [HE.out]; rfl, rfl⟩
                · obtain ⟨j, rfl⟩ : ∃ i, j = i + 1 := ⟨j - 1, by omega⟩
                  go_wp2
                  refine ⟨⟨j, by omega, rfl, val_int ?_⟩, by simp [intOf]⟩
                  exact sumL_step s j k (by omega) (by omega) (by omega)
            case neg =>
              go_wp2
              go_loop [6, 7] (fun n i => ∃ j : Nat, j ≤ k + 1 ∧ i = .int .i64 ((j : Int) - 1) ∧ n = .int .i64 (sumL ((s.data.toList.take (k + 1)).drop j))) (fun _ i => (intOf i + 1).toNat)
              case atStart => exact ⟨k + 1, by omega, val_int (by omega), val_int (by
                rw [List.drop_of_length_le (by simp; omega)]
                rfl)⟩
              case round =>
                obtain ⟨j, hj, rfl, rfl⟩ := hrel
                by_cases cj : j = 0
                · subst cj
                  go_wp2
                  go_ret3
                  exact ⟨by rw [HE.out]; rfl, rfl⟩
                · obtain ⟨j, rfl⟩ : ∃ i, j = i + 1 := ⟨j - 1, by omega⟩
                  go_wp2
                  refine ⟨⟨j, by omega, rfl, val_int ?_⟩, by simp [intOf]⟩
                  exact sumL_step s j k (by omega) (by omega) (by omega)
      · obtain rfl : k = 9 := by omega
        have he := rdN_form s.data.toList (by simpa using hk) H.out
        have HE := Lib.hid he; clear he
        go_wp2
        go_ret3
        exact ⟨by rw [HE.out]; rfl, rfl⟩
    · obtain rfl : k = s.size := by omega
      by_cases c2 : s.size = 9
      · have he := rdN_form s.data.toList (by simpa using (by omega : 9 ≤ s.size)) (fun j hj => H.out j (by omega))
        have HE := Lib.hid he; clear he
        have hk0 : ((s.size : Int) == 9) = true := by simp [c2]
        clear c2
        go_wp2
        go_ret3
        exact ⟨by rw [HE.out]; rfl, rfl⟩
      · have he := rdN_more s.data.toList (by simpa using (by omega : s.size ≤ 8)) (fun j hj => H.out j (by simpa using hj))
        have HE := Lib.hid he; clear he
        have hk0 : ((s.size : Int) == 9) = false := by simp; omega
        clear c2
        go_wp2
        go_ret3
        exact ⟨by rw [HE.out]; rfl, rfl⟩

/-! ### ReadText, Sum -/

theorem rreadText_any (s : ByteArray) (most : Int) (w : World) (hs : s.size ≤ maxLen) :
    Calls Tryz.prog 173 #[.string s, .int .i64 most] w fun e w' => e = .returned (rtV (rdT s.data.toList most)) ∧ w = w' := by
  have hs' := hs
  unfold maxLen at hs
  have hc := rreadNumber_any s w hs'
  rcases rdN_cases s.data.toList with ⟨n, k, h, h1, h2, h3, h4, _⟩ | h | h
  · have h3 : k ≤ s.size := by simpa using h3
    have h1' : (n : Int) ≤ 9223372036854775807 := by omega
    rw [h] at hc
    unfold rdV at hc
    by_cases c1 : most < (n : Int)
    · have e2 : rdT s.data.toList most = ([], 0, 7) := by unfold rdT; rw [h]; simp [c1]
      have E2 := Lib.hid e2; clear e2 h h1
      have HC := Lib.hid hc; clear hc
      go_enter Tryz.func173, Tryz.ntmps173
      go_wp2_with fail
      refine HC.out.mono ?_
      rintro e w' ⟨rfl, rfl⟩
      go_wp2
      go_ret3
      exact ⟨by rw [E2.out]; rfl, rfl⟩
    · by_cases c2 : s.size - k < n
      · have e2 : rdT s.data.toList most = ([], 0, 6) := by unfold rdT; rw [h]; simp [c1]; omega
        have E2 := Lib.hid e2; clear e2 h h1
        have HC := Lib.hid hc; clear hc
        go_enter Tryz.func173, Tryz.ntmps173
        go_wp2_with fail
        refine HC.out.mono ?_
        rintro e w' ⟨rfl, rfl⟩
        go_wp2
        go_ret3
        exact ⟨by rw [E2.out]; rfl, rfl⟩
      · have e2 : rdT s.data.toList most = ((s.data.toList.drop k).take n, k + n, 0) := by unfold rdT; rw [h]; simp [c1]; omega
        have E2 := Lib.hid e2; clear e2 h h1
        have HC := Lib.hid hc; clear hc
        go_enter Tryz.func173, Tryz.ntmps173
        go_wp2_with fail
        refine HC.out.mono ?_
        rintro e w' ⟨rfl, rfl⟩
        go_wp2
        go_ret3
        refine ⟨?_, rfl⟩
        rw [E2.out]
        show Ending.returned (.tuple #[.string (s.extract k (k + n)), .int .i64 ((k : Int) + (n : Int)), .int .i64 0]) = _
        rw [extract_list]
        rfl
  · have e2 : rdT s.data.toList most = ([], 0, 6) := by unfold rdT; rw [h]; simp
    rw [h] at hc
    unfold rdV at hc
    have E2 := Lib.hid e2; clear e2 h
    have HC := Lib.hid hc; clear hc
    go_enter Tryz.func173, Tryz.ntmps173
    go_wp2_with fail
    refine HC.out.mono ?_
    rintro e w' ⟨rfl, rfl⟩
    go_wp2
    go_ret3
    exact ⟨by rw [E2.out]; rfl, rfl⟩
  · have e2 : rdT s.data.toList most = ([], 0, 7) := by unfold rdT; rw [h]; simp
    rw [h] at hc
    unfold rdV at hc
    have E2 := Lib.hid e2; clear e2 h
    have HC := Lib.hid hc; clear hc
    go_enter Tryz.func173, Tryz.ntmps173
    go_wp2_with fail
    refine HC.out.mono ?_
    rintro e w' ⟨rfl, rfl⟩
    go_wp2
    go_ret3
    exact ⟨by rw [E2.out]; rfl, rfl⟩

open Crc

theorem low_get (n : Nat) : ∀ (x j : Nat), j < n → (low n x)[j]? = some (x / 2 ^ j % 2 == 1) := by
  induction n with
  | zero => intro x j h; omega
  | succ n ih =>
    intro x j h
    cases j with
    | zero => simp [low]
    | succ j =>
      simp only [low, List.getElem?_cons_succ]
      rw [ih (x / 2) j (by omega), Nat.pow_succ, Nat.mul_comm, ← Nat.div_div_eq_div_mul]

theorem low_len (n : Nat) : ∀ x, (low n x).length = n := by
  induction n with
  | zero => intro x; rfl
  | succ n ih => intro x; simp [low, ih]

theorem low_snoc (b : UInt8) (j : Nat) (h : j < 8) : (low8 b).take (j + 1) = (low8 b).take j ++ [b.toNat / 2 ^ j % 2 == 1] := by
  have h1 : j < (low8 b).length := by unfold low8; rw [low_len]; exact h
  rw [List.take_succ_eq_append_getElem h1]
  have h2 := low_get 8 b.toNat j h
  rw [List.getElem?_eq_getElem (by rw [low_len]; exact h)] at h2
  have h3 : (low8 b)[j] = (b.toNat / 2 ^ j % 2 == 1) := Option.some.inj h2
  rw [h3]

theorem bitStep_eq (r : R) (b : Bool) : bitStep r b = if (r.getLsbD 0 != b) = true then (r >>> 1) ^^^ poly else r >>> 1 := by
  unfold bitStep stp
  have e1 : (r ^^^ (if b then 1#32 else 0#32)).getLsbD 0 = (r.getLsbD 0 != b) := by
    rw [BitVec.getLsbD_xor]; cases b <;> simp
  have e2 : (r ^^^ (if b then 1#32 else 0#32)) >>> 1 = r >>> 1 := by
    rw [BitVec.ushiftRight_xor_distrib]; cases b <;> simp
  rw [e1, e2]

theorem bits_and1n (x : Nat) (h : x < 4294967296) : bits .and .u32 (x : Int) 1 = ((x % 2 : Nat) : Int) := by
  have h1 := bits_and32 (BitVec.ofNat 32 x) 1#32
  rw [and_one] at h1
  have e : (BitVec.ofNat 32 x).toNat = x := by rw [BitVec.toNat_ofNat]; omega
  rw [e] at h1
  exact h1

theorem bit_test (r : R) (b : UInt8) (j : Nat) : (bits .and .u32 (r.toNat : Int) 1 != bits .and .u32 ((b.toNat : Int) % 4294967296 / 2 ^ j) 1) = (r.getLsbD 0 != (b.toNat / 2 ^ j % 2 == 1)) := by
  have hb := b.toNat_lt
  have hr := r.isLt
  have e : ((b.toNat : Int) % 4294967296 / 2 ^ j) = ((b.toNat / 2 ^ j : Nat) : Int) := by
    rw [show (b.toNat : Int) % 4294967296 = (b.toNat : Int) by omega]; simp
  have hle : b.toNat / 2 ^ j ≤ b.toNat := Nat.div_le_self _ _
  rw [e, bits_and1n (b.toNat / 2 ^ j) (by omega), bits_and1n _ hr, lsb_mod]
  have h1 : r.toNat % 2 < 2 := Nat.mod_lt _ (by decide)
  have h2 : b.toNat / 2 ^ j % 2 < 2 := Nat.mod_lt _ (by decide)
  generalize r.toNat % 2 = p at *
  generalize b.toNat / 2 ^ j % 2 = q at *
  rcases p with _ | _ | p
  · rcases q with _ | _ | q <;> first | rfl | omega
  · rcases q with _ | _ | q <;> first | rfl | omega
  · omega

set_option maxRecDepth 100000 in
theorem rsum_any (s : ByteArray) (w : World) (hs : s.size ≤ maxLen) :
    Calls Tryz.prog 174 #[.string s] w fun e w' => e = .returned (.int .u32 ((crcL s.data.toList).toNat)) ∧ w = w' := by
  unfold maxLen at hs
  go_enter Tryz.func174, Tryz.ntmps174
  go_wp2
  go_loop [3, 4] (fun r i => ∃ k : Nat, k ≤ s.size ∧ i = .int .i64 k ∧ r = .int .u32 ((s.data.toList.take k).foldl byteStep 0xffffffff#32).toNat) (fun _ i => s.size - (intOf i).toNat)
  case atStart => exact ⟨0, Nat.zero_le _, rfl, rfl⟩
  case round =>
    obtain ⟨k, hk, rfl, rfl⟩ := hrel
    generalize hX : (s.data.toList.take k).foldl byteStep 0xffffffff#32 = X
    have HX := Lib.hid hX
    clear hX
    by_cases hlt : k < s.size
    · go_wp2
      go_loop [3, 5] (fun r i => ∃ j : Nat, j ≤ 8 ∧ i = .int .i64 j ∧ r = .int .u32 (((low8 s[k]).take j).foldl bitStep X).toNat) (fun _ i => 8 - (intOf i).toNat)
      case atStart => exact ⟨0, by omega, rfl, rfl⟩
      case round =>
        obtain ⟨j, hj, rfl, rfl⟩ := hrel
        generalize hY : ((low8 s[k]).take j).foldl bitStep X = Y
        have HY := Lib.hid hY
        clear hY
        by_cases hj8 : j < 8
        · have hnext : ((low8 s[k]).take (j + 1)).foldl bitStep X = bitStep Y (s[k].toNat / 2 ^ j % 2 == 1) := by
            rw [low_snoc _ _ hj8, List.foldl_append, HY.out]; rfl
          have HN := Lib.hid hnext; clear hnext
          by_cases hb : (bits .and .u32 (Y.toNat : Int) 1 != bits .and .u32 ((s[k].toNat : Int) % 4294967296 / 2 ^ j) 1) = true
          · have HB := Lib.hid hb
            go_wp2
            go_round
            case rel => exact ⟨j + 1, by omega, by go_num, val_int (by
              have hb := HB.out
              rw [bit_test] at hb
              rw [half32, show (3988292384 : Int) = ((poly : R).toNat : Int) from rfl, bits_xor32, HN.out, bitStep_eq, if_pos hb])⟩
            case measure => simp [intOf]; omega
          · have hb' : (bits .and .u32 (Y.toNat : Int) 1 != bits .and .u32 ((s[k].toNat : Int) % 4294967296 / 2 ^ j) 1) = false := by simpa using hb
            have HB := Lib.hid hb'
            clear hb
            go_wp2
            go_round
            case rel => exact ⟨j + 1, by omega, by go_num, val_int (by
              have hb := HB.out
              rw [bit_test] at hb
              rw [half32, HN.out, bitStep_eq, if_neg (by rw [hb]; decide)])⟩
            case measure => simp [intOf]; omega
        · obtain rfl : j = 8 := by omega
          go_wp2
          go_round
          case rel => exact ⟨k + 1, by omega, by go_num, val_int (by
            rw [take_snoc s k hlt, List.foldl_append, HX.out, ← HY.out, List.take_of_length_le (by unfold low8; rw [low_len]; omega)]
            show _ = (((byteStep X s[k]).toNat : Nat) : Int)
            rw [byteStep_bits])⟩
          case measure => simp [intOf]; omega
    · have hXb := X.isLt
      go_wp2
      go_ret
      obtain rfl : k = s.size := by omega
      refine ⟨ret_int ?_, rfl⟩
      rw [crcL, ← HX.out, List.take_of_length_le (by simp)]
      generalize List.foldl byteStep 0xffffffff#32 s.data.toList = Z
      have hZ := Z.isLt
      rw [BitVec.toNat_not]
      omega
end Go.Proofs.YtbgchhgdlceceaaGreatDoor.Pack

namespace Go.Proofs.YtbgchhgdlceceaaGreatDoor.Subj
open Go.RowKit

/-! ### both -/

end Go.Proofs.YtbgchhgdlceceaaGreatDoor.Subj

namespace Go.Proofs.YtbgchhgdlceceaaGreatDoor.Subj
open Go.RowKit

end Go.Proofs.YtbgchhgdlceceaaGreatDoor.Subj

namespace Go.Proofs.YtbgchhgdlceceaaGreatDoor.Subj
open Go.RowKit
end Go.Proofs.YtbgchhgdlceceaaGreatDoor.Subj
