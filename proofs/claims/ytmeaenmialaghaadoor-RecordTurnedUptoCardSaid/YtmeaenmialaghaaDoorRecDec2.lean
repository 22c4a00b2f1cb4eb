/- Decode, walked: whatever is handed in. -/
import Derived.Test.YtmeaenmialaghaaDoorRecDec
namespace Go.Proofs.YtmeaenmialaghaaDoor.Rec
open Go.RowKit Subj Pack Crc

theorem size_list (l : List UInt8) : (⟨l.toArray⟩ : ByteArray).size = l.length := by
  show l.toArray.size = _
  simp

theorem decL_body {l : List UInt8} {t : List UInt8} {k : Nat} (h : rdT l 1024 = (t, k, 0)) (hk : k + 4 ≤ l.length) : decL l = bodyV ⟨t.toArray⟩ k l := by
  unfold decL bodyV
  rw [h]
  simp only [ne_eq, not_true_eq_false, if_false]
  rw [if_neg (by omega)]
  show (match t with | [] => _ | x :: rest => _) = (if _ then _ else match t with | [] => _ | x :: rest => _)
  cases t with
  | nil => simp
  | cons x rest => rfl

set_option maxRecDepth 100000 in
theorem decode_err (s : ByteArray) (n : Nat) (hn : n ≠ 0) (w : World) (hR : ∀ w, Calls Tryd.prog 51 #[.string s, .int .i64 1024] w fun e w' => e = .returned (.tuple #[.string ByteArray.empty, .int .i64 0, .int .i64 n]) ∧ w = w') :
    Calls Tryd.prog 30 #[.string s] w fun e w' => e = .returned (ErrV n) ∧ Below w.heap.size w w' := by
  have HR := Lib.hid hR; clear hR
  have h1 : ((n : Int) != 0) = true := by simp; omega
  go_enter Tryd.func30, Tryd.ntmps30
  go_wp2_with (go_at_call 51; refine (HR.out _).mono ?_; rintro e w' ⟨rfl, rfl⟩)
  go_returns
  exact ⟨errV_eq rfl n, by go_grown⟩

set_option maxRecDepth 100000 in
theorem decode_short (s B : ByteArray) (k : Nat) (w : World) (hs : s.size ≤ maxLen) (hk : k ≤ s.size) (hlt : s.size < k + 4) (hR : ∀ w, Calls Tryd.prog 51 #[.string s, .int .i64 1024] w fun e w' => e = .returned (.tuple #[.string B, .int .i64 k, .int .i64 0]) ∧ w = w') :
    Calls Tryd.prog 30 #[.string s] w fun e w' => e = .returned (ErrV 6) ∧ Below w.heap.size w w' := by
  have HR := Lib.hid hR; clear hR
  unfold maxLen at hs
  go_enter Tryd.func30, Tryd.ntmps30
  go_wp2_with (go_at_call 51; refine (HR.out _).mono ?_; rintro e w' ⟨rfl, rfl⟩)
  go_returns
  exact ⟨errV_eq rfl 6, by go_grown⟩

set_option maxHeartbeats 2000000 in
set_option maxRecDepth 100000 in
theorem decode_empty (s : ByteArray) (k : Nat) (w : World) (hs : s.size ≤ maxLen) (hlen : k + 4 ≤ s.size) (hR : ∀ w, Calls Tryd.prog 51 #[.string s, .int .i64 1024] w fun e w' => e = .returned (.tuple #[.string ByteArray.empty, .int .i64 k, .int .i64 0]) ∧ w = w') :
    Calls Tryd.prog 30 #[.string s] w fun e w' => e = .returned (ErrV 7) ∧ Below w.heap.size w w' := by
  have HR := Lib.hid hR; clear hR
  unfold maxLen at hs
  have i0 : (0 : Int) ≤ (k : Int) := by omega
  have i1 : (k : Int) < (s.size : Int) := by omega
  have i2 : (k : Int) + 1 < (s.size : Int) := by omega
  have i3 : (k : Int) + 2 < (s.size : Int) := by omega
  have i4 : (k : Int) + 3 < (s.size : Int) := by omega
  have w1 : IntKind.i64.wrap ((k : Int) + 1) = (k : Int) + 1 := IntWalk.i64_in _ (by omega)
  have v1 : (0 : Int) ≤ (k : Int) + 1 := by omega
  have u1 : ((k : Int) + 1).toNat = k + 1 := by omega
  have w2 : IntKind.i64.wrap ((k : Int) + 2) = (k : Int) + 2 := IntWalk.i64_in _ (by omega)
  have v2 : (0 : Int) ≤ (k : Int) + 2 := by omega
  have u2 : ((k : Int) + 2).toNat = k + 2 := by omega
  have w3 : IntKind.i64.wrap ((k : Int) + 3) = (k : Int) + 3 := IntWalk.i64_in _ (by omega)
  have v3 : (0 : Int) ≤ (k : Int) + 3 := by omega
  have u3 : ((k : Int) + 3).toNat = k + 3 := by omega
  have HN := Lib.hid (num4_bits s[k] s[k + 1] s[k + 2] s[k + 3])
  generalize num4 s[k] s[k + 1] s[k + 2] s[k + 3] = N at HN
  go_enter Tryd.func30, Tryd.ntmps30
  go_wp2_with (go_at_call 51; refine (HR.out _).mono ?_; rintro e w' ⟨rfl, rfl⟩)
  go_quiet (fail)
  rw [HN.out]
  clear HN
  go_wp2_with fail
  go_returns
  exact ⟨errV_eq rfl 7, by go_grown; exact below_drewN (by go_grown) _⟩

theorem decV_zero (n : Nat) : decV (Rc.zero, 0, n) = ErrV n := rfl

theorem decode_any (s : ByteArray) (w : World) (hs : s.size ≤ maxLen) (hm : ML w) :
    Calls Tryd.prog 30 #[.string s] w fun e w' => e = .returned (decV (decL s.data.toList)) ∧ Below w.heap.size w w' := by
  have hl : s.data.toList.length = s.size := by simp
  have hR := fun w => readText_any s 1024 w hs
  rcases rdT_cases s.data.toList 1024 with ⟨t, k, e, h1, h2, h3, h4, h5⟩ | e | e
  · rw [e] at hR
    rw [hl] at h3
    have hR' : ∀ w, Calls Tryd.prog 51 #[.string s, .int .i64 1024] w fun e w' => e = .returned (.tuple #[.string ⟨t.toArray⟩, .int .i64 k, .int .i64 0]) ∧ w = w' := hR
    by_cases hlen : k + 4 ≤ s.size
    · rw [decL_body e (by omega)]
      by_cases ht : t = []
      · subst ht
        refine (decode_empty s k w hs hlen hR').mono fun e w' ⟨a, b⟩ => ⟨?_, b⟩
        rw [a, ← decV_zero]
        unfold bodyV
        split <;> rfl
      · have hb2 : (⟨t.toArray⟩ : ByteArray).size ≤ 1024 := by rw [size_list]; omega
        have hb3 : 0 < (⟨t.toArray⟩ : ByteArray).size := by rw [size_list]; exact List.length_pos_iff.2 ht
        by_cases hq : (s.data.toList.drop k).take 4 = sum4 t
        · exact decode_good s ⟨t.toArray⟩ k w hs hm hR' hq hb2 hb3 hlen
        · exact decode_wrong s ⟨t.toArray⟩ k w hs hm hR' hq hb2 hb3 hlen
    · have hd : decL s.data.toList = (Rc.zero, 0, 6) := by
        unfold decL
        rw [e]
        simp only [ne_eq, not_true_eq_false, if_false]
        rw [if_pos (by omega)]
      rw [hd]
      exact decode_short s ⟨t.toArray⟩ k w hs h3 (by omega) hR'
  · rw [e] at hR
    have hd : decL s.data.toList = (Rc.zero, 0, 6) := by unfold decL; rw [e]; rfl
    rw [hd]
    exact decode_err s 6 (by decide) w hR
  · rw [e] at hR
    have hd : decL s.data.toList = (Rc.zero, 0, 7) := by unfold decL; rw [e]; rfl
    rw [hd]
    exact decode_err s 7 (by decide) w hR
end Go.Proofs.YtmeaenmialaghaaDoor.Rec
