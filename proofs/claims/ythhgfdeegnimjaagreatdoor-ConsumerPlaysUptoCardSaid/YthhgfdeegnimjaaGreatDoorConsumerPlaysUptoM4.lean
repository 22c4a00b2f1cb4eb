/- Parts of the proof, joined: rillref.tokens, Subject, Filter, walked. -/
import Derived.Test.YthhgfdeegnimjaaGreatDoorConsumerPlaysUptoM3
namespace Go.Proofs.YthhgfdeegnimjaaGreatDoor.Subj
open Go.RowKit

theorem count_take (s : ByteArray) (k : Nat) (h : k < s.size) : (s.data.toList.take (k + 1)).count 46 = (s.data.toList.take k).count 46 + if s[k] = 46 then 1 else 0 := by
  have htk : s.data.toList.take (k + 1) = s.data.toList.take k ++ [s[k]] := by
    rw [List.take_add_one]; simp [h]; rfl
  rw [htk, List.count_append]
  congr 1
  by_cases e : s[k] = 46
  · simp [e]
  · rw [if_neg e]; simp [e]

def TokPost (w : World) (l : List Tok) (er : Nat) (e : Ending) (w' : World) : Prop :=
  Below w.heap.size w w' ∧ ((er = 0 ∧ ∃ v, e = .returned (.tuple #[v, .int .i64 0]) ∧ w'.ownsRow w.heap.size 9 1 v l.length (strsV l)) ∨
    (er ≠ 0 ∧ e = .returned (.tuple #[.slice none 0 0, .int .i64 er])))

set_option maxRecDepth 100000 in
theorem in_any (n lo hi : Int) (w : World) :
    Calls Tryz.prog 28 #[.int .i64 n, .int .i64 lo, .int .i64 hi] w fun e w' => e = .returned (.bool (decide (lo ≤ n) && decide (n ≤ hi))) ∧ w = w' := by
  by_cases h1 : lo ≤ n
  · have d1 : decide (lo ≤ n) = true := by simp [h1]
    rw [d1]
    go_enter Tryz.func28, Tryz.ntmps28
    go_wp2
    go_ret
    all_goals exact ⟨by simp, rfl⟩
  · have d1 : decide (lo ≤ n) = false := by simp [h1]
    rw [d1]
    go_enter Tryz.func28, Tryz.ntmps28
    go_wp2
    go_ret
    all_goals exact ⟨by simp, rfl⟩

theorem tokenOk_eq (s : ByteArray) : tokenOk s.data.toList = ((decide (1 ≤ s.size) && decide (s.size ≤ 16)) && s.data.toList.all byteOk) := by
  unfold tokenOk
  have : s.data.toList.length = s.size := by simp
  rw [this]
  generalize s.data.toList.all byteOk = a
  generalize decide (1 ≤ s.size) = b
  generalize decide (s.size ≤ 16) = c
  revert a b c; decide

theorem all_take (s : ByteArray) (k : Nat) (h : k < s.size) : (s.data.toList.take (k + 1)).all byteOk = ((s.data.toList.take k).all byteOk && byteOk s[k]) := by
  have htk : s.data.toList.take (k + 1) = s.data.toList.take k ++ [s[k]] := by
    rw [List.take_add_one]; simp [h]; rfl
  rw [htk]; simp

set_option maxHeartbeats 8000000 in
set_option maxRecDepth 100000 in
theorem tokens_any (s : ByteArray) (wild : Bool) (w : World) (hs : s.size ≤ 1048576) :
    Calls Tryz.prog 162 #[.string s, .bool wild] w (TokPost w (pieces s.data.toList) (err wild s.data.toList)) := by
  have hpl := pieces_len s.data.toList
  have hP := fun w => pieces_any s w hs
  obtain ⟨er, her⟩ : ∃ er, err wild s.data.toList = er := ⟨_, rfl⟩
  rw [her]
  unfold err at her
  have hsz : ∀ i, (strAt (pieces s.data.toList) i).size ≤ 1048576 := fun i => by
    have := pieces_each s.data.toList i
    have h2 : (strAt (pieces s.data.toList) i).size = ((pieces s.data.toList).getD i []).length := by
      show ((pieces s.data.toList).getD i []).toArray.size = _; simp
    rw [h2]
    have h3 : s.data.toList.length = s.size := by simp
    omega
  generalize pieces s.data.toList = l at *
  have HPL := Lib.hid hpl; have HP := Lib.hid hP; have HER := Lib.hid her; have HSZ := Lib.hid hsz
  clear hpl hP her hsz
  go_enter Tryz.func162, Tryz.ntmps162
  go_wp2
  go_loop [6, 7] (fun c i => ∃ k m : Nat, k ≤ s.size ∧ m ≤ k ∧ i = .int .i64 k ∧ c = .int .i64 ((m : Int) + 1) ∧ Hid ((s.data.toList.take k).count 46 = m)) (fun _ i => s.size - (intOf i).toNat)
  case atStart => exact ⟨0, 0, Nat.zero_le _, Nat.zero_le _, rfl, rfl, rfl⟩
  case round =>
    obtain ⟨k, m, hk, hmk, rfl, rfl, HK⟩ := hrel
    by_cases hlt : k < s.size
    · have hct := count_take s k hlt
      have HC := Lib.hid hct; clear hct
      by_cases h46 : s[k] = 46
      · have d : ((s[k].toNat : Int) == 46) = true := by rw [h46]; rfl
        have H46 := Lib.hid h46; clear h46
        go_wp2
        refine ⟨⟨k + 1, m + 1, by omega, by omega, by go_num, by go_num, ?_⟩, by simp [intOf]; omega⟩
        show _ = _
        rw [HC.out, HK.out, if_pos H46.out]
      · have d : ((s[k].toNat : Int) == 46) = false := by
          simp; intro e; apply h46; apply UInt8.toNat_inj.1; exact Int.ofNat.inj e
        have H46 := Lib.hid h46; clear h46
        go_wp2
        refine ⟨⟨k + 1, m, by omega, by omega, by go_num, rfl, ?_⟩, by simp [intOf]; omega⟩
        show _ = _
        rw [HC.out, HK.out, if_neg H46.out, Nat.add_zero]
    · obtain rfl : k = s.size := by omega
      have hl : l.length = m + 1 := by
        have h1 := HK.out
        rw [List.take_of_length_le (by simp)] at h1
        rw [HPL.out, h1]
      have HL := Lib.hid hl; clear hl HK HPL
      by_cases h8 : 8 < m + 1
      · have h2 : er = 2 := by rw [← HER.out, if_pos (by rw [HL.out]; exact h8)]
        subst h2
        go_wp2
        go_ret2
        exact ⟨Below.refl _ _, .inr ⟨by decide, rfl⟩⟩
      · have her2 : (if okPieces wild l then 0 else 3) = er := by
          have h8' : ¬ 8 < l.length := by rw [HL.out]; exact h8
          have h9 := HER.out
          rw [if_neg h8'] at h9
          exact h9
        have HE := Lib.hid her2; clear her2 HER
        go_wp2_with fail
        refine (HP.out _).mono ?_
        rintro e w' ⟨v, rfl, hown, hb⟩
        rw [HL.out] at hown
        obtain ⟨g, cap, rfl⟩ := ownsRow_succ hown
        have hst : StrsAt w' g 0 l := fun i hi => by
          rw [Nat.zero_add, hown.cellAt i (by rw [HL.out] at hi; omega), strsV_get _ _ hi]
        have HST := Lib.hid hst; clear hst
        have HOWN := Lib.hid hown; clear hown
        go_wp2
        go_loop [9] (fun i => ∃ k : Nat, k ≤ m + 1 ∧ i = .int .i64 k ∧ Hid (∀ j, j < k → okAt wild l j = true)) (fun i => m + 1 - (intOf i).toNat)
        case atStart => exact ⟨0, Nat.zero_le _, rfl, fun j h => by omega⟩
        case round =>
          obtain ⟨k, hk, rfl, HK⟩ := hrel
          by_cases hlt : k < m + 1
          · have hcell := HST.out k (by rw [HL.out]; exact hlt)
            rw [Nat.zero_add] at hcell
            have htok := tokenOk_eq (strAt l k)
            rw [strAt_list] at htok
            have hdef : okAt wild l k = ((wild && (l.getD k [] == [42] || (l.getD k [] == [62] && decide (k + 1 = m + 1)))) || tokenOk (l.getD k [])) := by unfold okAt; rw [HL.out]
            have htl := strAt_toList l k
            have hszk := HSZ.out k
            have hnext : okAt wild l k = true → ∃ k' : Nat, k' ≤ m + 1 ∧ Value.int .i64 ((k : Int) + 1) = .int .i64 k' ∧ Hid (∀ j, j < k' → okAt wild l j = true) := fun h =>
              ⟨k + 1, by omega, by go_num, fun j hj => by
                by_cases e : j = k
                · subst e; exact h
                · exact HK.out j (by omega)⟩
            have hbad : okAt wild l k = false → er = 3 := fun h => by
              have : okPieces wild l = false := by
                cases ho : okPieces wild l with
                | false => rfl
                | true => rw [okPieces_iff] at ho; rw [ho k (by rw [HL.out]; exact hlt)] at h; cases h
              rw [← HE.out, this]; rfl
            have hall := fun j hj => all_take (strAt l k) j hj
            generalize hT : strAt l k = T at *
            generalize okAt wild l k = oa at *
            generalize l.getD k [] = lk at *
            clear hT
            have HT := Lib.hid htok; have HD := Lib.hid hdef; have HTL := Lib.hid htl; have HX := Lib.hid hnext; have HB := Lib.hid hbad; have HA := Lib.hid hall
            clear htok hdef htl hnext hbad hall
            go_wp2_with (go_at_call 28; refine (in_any _ _ _ _).mono ?_; rintro e w'' ⟨rfl, rfl⟩)
            generalize hb0 : (decide (1 ≤ (T.size : Int)) && decide ((T.size : Int) ≤ 16)) = b0
            have hb0' : (decide (1 ≤ T.size) && decide (T.size ≤ 16)) = b0 := by
              rw [← hb0, Bool.eq_iff_iff]; simp; omega
            have HB0 := Lib.hid hb0'; clear hb0 hb0'
            have hlk : T.data.toList = lk := by rw [← ByteArray.toList_eq, HTL.out]
            have HLK := Lib.hid hlk; clear hlk
            go_loop [10, 11] (fun ok q => ∃ (b : Bool) (j : Nat), j ≤ T.size ∧ ok = .bool b ∧ q = .int .i64 j ∧ Hid (b = (b0 && (T.data.toList.take j).all byteOk))) (fun _ q => T.size - (intOf q).toNat)
            case atStart => exact ⟨b0, 0, Nat.zero_le _, rfl, rfl, by show _ = _; simp⟩
            case round =>
              obtain ⟨b, j, hj, rfl, rfl, HJ⟩ := hrel
              by_cases hjt : j < T.size
              · have ha := HA.out j hjt
                have HAJ := Lib.hid ha; clear ha
                have hby := T[j].toNat_lt
                have hdef : byteOk T[j] = (decide (33 ≤ T[j].toNat) && decide (T[j].toNat ≤ 126) && T[j].toNat != 42 && T[j].toNat != 62) := rfl
                have HBD := Lib.hid hdef; clear hdef
                cases b with
                | false =>
                  go_wp2
                  refine ⟨⟨false, j + 1, by omega, rfl, by go_num, ?_⟩, by simp [intOf]; omega⟩
                  show _ = _
                  rw [HAJ.out, ← Bool.and_assoc, ← HJ.out]; rfl
                | true =>
                  have fin : ∀ y : Bool, y = byteOk T[j] → y = (b0 && (T.data.toList.take (j + 1)).all byteOk) := fun y hy => by
                    rw [HAJ.out, ← Bool.and_assoc, ← HJ.out, hy]; rfl
                  have FIN := Lib.hid fin; clear fin
                  by_cases b1 : T[j].toNat < 33
                  · have HQ := Lib.hid b1
                    go_wp2
                    refine ⟨⟨false, j + 1, by omega, rfl, by go_num, FIN.out _ (by rw [HBD.out]; simp; have := HQ.out; omega)⟩, by simp [intOf]; omega⟩
                  · by_cases b2 : 126 < T[j].toNat
                    · have HQ := Lib.hid b2
                      go_wp2
                      refine ⟨⟨false, j + 1, by omega, rfl, by go_num, FIN.out _ (by rw [HBD.out]; simp; have := HQ.out; omega)⟩, by simp [intOf]; omega⟩
                    · have HQ := Lib.hid b1; have HQ2 := Lib.hid b2
                      by_cases b3 : T[j].toNat = 42
                      · have d3 : ((T[j].toNat : Int) != 42) = false := by simp; omega
                        have H3 := Lib.hid b3; clear b3
                        go_wp2
                        refine ⟨⟨false, j + 1, by omega, rfl, by go_num, FIN.out _ (by rw [HBD.out]; simp [H3.out])⟩, by simp [intOf]; omega⟩
                      · have d3 : ((T[j].toNat : Int) != 42) = true := by simp; omega
                        have H3 := Lib.hid b3; clear b3
                        by_cases b4 : T[j].toNat = 62
                        · have d4 : ((T[j].toNat : Int) != 62) = false := by simp; omega
                          have H4 := Lib.hid b4; clear b4
                          go_wp2
                          refine ⟨⟨false, j + 1, by omega, rfl, by go_num, FIN.out _ (by rw [HBD.out]; simp [H4.out])⟩, by simp [intOf]; omega⟩
                        · have d4 : ((T[j].toNat : Int) != 62) = true := by simp; omega
                          have H4 := Lib.hid b4; clear b4
                          go_wp2
                          refine ⟨⟨true, j + 1, by omega, rfl, by go_num, FIN.out _ (by rw [HBD.out]; simp [H3.out, H4.out]; have := HQ.out; have := HQ2.out; omega)⟩, by simp [intOf]; omega⟩
              · obtain rfl : j = T.size := by omega
                have hb1 : tokenOk lk = b := by
                  rw [HJ.out, List.take_of_length_le (by simp), HT.out, HLK.out, ← HB0.out]
                rw [hb1] at HD
                clear HT HLK HB0 HJ hb1 HA
                cases wild with
                | false =>
                  have ho : oa = b := by rw [HD.out]; rfl
                  have HO := Lib.hid ho; clear ho HD
                  cases b with
                  | false =>
                    have h3 := HB.out HO.out
                    subst h3
                    go_wp2
                    go_ret2
                    exact ⟨hb, .inr ⟨by decide, rfl⟩⟩
                  | true =>
                    go_wp2
                    exact ⟨HX.out HO.out, by simp [intOf]; omega⟩
                | true =>
                  by_cases c1 : lk = [42]
                  · have ho : oa = true := by rw [HD.out, c1]; rfl
                    have d1 : (T.toList == [42]) = true := by rw [HTL.out, c1]; rfl
                    have HO := Lib.hid ho; clear ho HD c1
                    go_wp2
                    exact ⟨HX.out HO.out, by simp [intOf]; omega⟩
                  · have d1 : (T.toList == [42]) = false := by rw [HTL.out]; simpa using c1
                    have C1 : (lk == [42]) = false := by simpa using c1
                    by_cases c2 : k = m ∧ lk = [62]
                    · have ho : oa = true := by rw [HD.out, c2.1, c2.2]; simp
                      have d2 : (T.toList == [62]) = true := by rw [HTL.out, c2.2]; rfl
                      have d3 : ((k : Int) == (m : Int)) = true := by simp [c2.1]
                      have HO := Lib.hid ho; clear ho HD c1 c2 C1
                      go_wp2
                      exact ⟨HX.out HO.out, by simp [intOf]; omega⟩
                    · have ho : oa = b := by
                        rw [HD.out, C1]
                        have : (lk == [62] && decide (k + 1 = m + 1)) = false := by
                          rw [Bool.eq_false_iff]; intro h; simp at h; exact c2 ⟨h.2, h.1⟩
                        rw [this]; rfl
                      have HO := Lib.hid ho; clear ho HD C1 c1
                      by_cases c3 : lk = [62]
                      · have d2 : (T.toList == [62]) = true := by rw [HTL.out, c3]; rfl
                        have d3 : ((k : Int) == (m : Int)) = false := by
                          simp; intro e; exact c2 ⟨by omega, c3⟩
                        clear c2 c3
                        cases b with
                        | false =>
                          have h3 := HB.out HO.out
                          subst h3
                          go_wp2
                          go_ret2
                          exact ⟨hb, .inr ⟨by decide, rfl⟩⟩
                        | true =>
                          go_wp2
                          exact ⟨HX.out HO.out, by simp [intOf]; omega⟩
                      · have d2 : (T.toList == [62]) = false := by rw [HTL.out]; simpa using c3
                        clear c2 c3
                        cases b with
                        | false =>
                          have h3 := HB.out HO.out
                          subst h3
                          go_wp2
                          go_ret2
                          exact ⟨hb, .inr ⟨by decide, rfl⟩⟩
                        | true =>
                          go_wp2
                          exact ⟨HX.out HO.out, by simp [intOf]; omega⟩
          · obtain rfl : k = m + 1 := by omega
            have h0 : er = 0 := by
              rw [← HE.out, if_pos ((okPieces_iff wild l).2 (fun i hi => HK.out i (by rw [HL.out] at hi; exact hi)))]
            subst h0
            go_wp2
            go_ret2
            exact ⟨hb, .inl ⟨rfl, _, rfl, by rw [HL.out]; exact HOWN.out⟩⟩
end Go.Proofs.YthhgfdeegnimjaaGreatDoor.Subj
