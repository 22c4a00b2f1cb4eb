/- Parts of the proof, joined: rillref.tokens, Subject, Filter, walked.; Package subject, walked: Takes, Subject, Filter, Match, Overlap, Covers.; rillref.takes, walked by its own recursion; Takes.; Package subject, walked: both, Overlap, Covers.; rillref.overlap, walked by its own recursion; Overlap. -/
import Derived.Test.YthhingihjpkipaaDoorConsumerDrainsUptoM1
import Derived.Deep.QuietTactic
import Derived.BigQuiet
namespace Go.Proofs.YthhingihjpkipaaDoor.Subj
open Go.RowKit

theorem count_take (s : ByteArray) (k : Nat) (h : k < s.size) : (s.data.toList.take (k + 1)).count 46 = (s.data.toList.take k).count 46 + if s[k] = 46 then 1 else 0 := by
  have htk : s.data.toList.take (k + 1) = s.data.toList.take k ++ [s[k]] := by
    rw [List.take_add_one]; simp [h]; rfl
  rw [htk, List.count_append]
  congr 1
  by_cases e : s[k] = 46
  · simp [e]
  · rw [if_neg e]; simp [e]

def TokPost (w : World) (l : List Tok) (er : Nat) (e : Ending) (w' : World) : Prop :=
  Below w.heap.size w w' ∧ ((er = 0 ∧ ∃ v, e = .returned (.tuple #[v, .int .i64 0]) ∧ w'.ownsRow w.heap.size 9 1 v l.length (strsV l)) ∨
    (er ≠ 0 ∧ e = .returned (.tuple #[.slice none 0 0, .int .i64 er])))

set_option maxRecDepth 100000 in
theorem in_any (n lo hi : Int) (w : World) :
    Calls Tryd.prog 75 #[.int .i64 n, .int .i64 lo, .int .i64 hi] w fun e w' => e = .returned (.bool (decide (lo ≤ n) && decide (n ≤ hi))) ∧ w = w' := by
  by_cases h1 : lo ≤ n
  · have d1 : decide (lo ≤ n) = true := by simp [h1]
    rw [d1]
    go_enter Tryd.func75, Tryd.ntmps75
    go_wp2
    go_ret
    all_goals exact ⟨by simp, rfl⟩
  · have d1 : decide (lo ≤ n) = false := by simp [h1]
    rw [d1]
    go_enter Tryd.func75, Tryd.ntmps75
    go_wp2
    go_ret
    all_goals exact ⟨by simp, rfl⟩

theorem tokenOk_eq (s : ByteArray) : tokenOk s.data.toList = ((decide (1 ≤ s.size) && decide (s.size ≤ 16)) && s.data.toList.all byteOk) := by
  unfold tokenOk
  have : s.data.toList.length = s.size := by simp
  rw [this]
  generalize s.data.toList.all byteOk = a
  generalize decide (1 ≤ s.size) = b
  generalize decide (s.size ≤ 16) = c
  revert a b c; decide

theorem all_take (s : ByteArray) (k : Nat) (h : k < s.size) : (s.data.toList.take (k + 1)).all byteOk = ((s.data.toList.take k).all byteOk && byteOk s[k]) := by
  have htk : s.data.toList.take (k + 1) = s.data.toList.take k ++ [s[k]] := by
    rw [List.take_add_one]; simp [h]; rfl
  rw [htk]; simp

set_option maxHeartbeats 8000000 in
set_option maxRecDepth 100000 in
theorem tokens_any (s : ByteArray) (wild : Bool) (w : World) (hs : s.size ≤ 1048576) :
    Calls Tryd.prog 107 #[.string s, .bool wild] w (TokPost w (pieces s.data.toList) (err wild s.data.toList)) := by
  have hpl := pieces_len s.data.toList
  have hP := fun w => pieces_any s w hs
  obtain ⟨er, her⟩ : ∃ er, err wild s.data.toList = er := ⟨_, rfl⟩
  rw [her]
  unfold err at her
  have hsz : ∀ i, (strAt (pieces s.data.toList) i).size ≤ 1048576 := fun i => by
    have := pieces_each s.data.toList i
    have h2 : (strAt (pieces s.data.toList) i).size = ((pieces s.data.toList).getD i []).length := by
      show ((pieces s.data.toList).getD i []).toArray.size = _; simp
    rw [h2]
    have h3 : s.data.toList.length = s.size := by simp
    omega
  generalize pieces s.data.toList = l at *
  have HPL := Lib.hid hpl; have HP := Lib.hid hP; have HER := Lib.hid her; have HSZ := Lib.hid hsz
  clear hpl hP her hsz
  go_enter Tryd.func107, Tryd.ntmps107
  go_wp2
  go_loop [6, 7] (fun c i => ∃ k m : Nat, k ≤ s.size ∧ m ≤ k ∧ i = .int .i64 k ∧ c = .int .i64 ((m : Int) + 1) ∧ Hid ((s.data.toList.take k).count 46 = m)) (fun _ i => s.size - (intOf i).toNat)
  case atStart => exact ⟨0, 0, Nat.zero_le _, Nat.zero_le _, rfl, rfl, rfl⟩
  case round =>
    obtain ⟨k, m, hk, hmk, rfl, rfl, HK⟩ := hrel
    by_cases hlt : k < s.size
    · have hct := count_take s k hlt
      have HC := Lib.hid hct; clear hct
      by_cases h46 : s[k] = 46
      · have d : ((s[k].toNat : Int) == 46) = true := by rw [h46]; rfl
        have H46 := Lib.hid h46; clear h46
        go_wp2
        refine ⟨⟨k + 1, m + 1, by omega, by omega, by go_num, by go_num, ?_⟩, by simp [intOf]; omega⟩
        show _ = _
        rw [HC.out, HK.out, if_pos H46.out]
      · have d : ((s[k].toNat : Int) == 46) = false := by
          simp; intro e; apply h46; apply UInt8.toNat_inj.1; exact Int.ofNat.inj e
        have H46 := Lib.hid h46; clear h46
        go_wp2
        refine ⟨⟨k + 1, m, by omega, by omega, by go_num, rfl, ?_⟩, by simp [intOf]; omega⟩
        show _ = _
        rw [HC.out, HK.out, if_neg H46.out, Nat.add_zero]
    · obtain rfl : k = s.size := by omega
      have hl : l.length = m + 1 := by
        have h1 := HK.out
        rw [List.take_of_length_le (by simp)] at h1
        rw [HPL.out, h1]
      have HL := Lib.hid hl; clear hl HK HPL
      by_cases h8 : 8 < m + 1
      · have h2 : er = 2 := by rw [← HER.out, if_pos (by rw [HL.out]; exact h8)]
        subst h2
        go_wp2
        go_ret2
        exact ⟨Below.refl _ _, .inr ⟨by decide, rfl⟩⟩
      · have her2 : (if okPieces wild l then 0 else 3) = er := by
          have h8' : ¬ 8 < l.length := by rw [HL.out]; exact h8
          have h9 := HER.out
          rw [if_neg h8'] at h9
          exact h9
        have HE := Lib.hid her2; clear her2 HER
        go_wp2_with fail
        refine (HP.out _).mono ?_
        rintro e w' ⟨v, rfl, hown, hb⟩
        rw [HL.out] at hown
        obtain ⟨g, cap, rfl⟩ := ownsRow_succ hown
        have hst : StrsAt w' g 0 l := fun i hi => by
          rw [Nat.zero_add, hown.cellAt i (by rw [HL.out] at hi; omega), strsV_get _ _ hi]
        have HST := Lib.hid hst; clear hst
        have HOWN := Lib.hid hown; clear hown
        go_wp2
        go_loop [9] (fun i => ∃ k : Nat, k ≤ m + 1 ∧ i = .int .i64 k ∧ Hid (∀ j, j < k → okAt wild l j = true)) (fun i => m + 1 - (intOf i).toNat)
        case atStart => exact ⟨0, Nat.zero_le _, rfl, fun j h => by omega⟩
        case round =>
          obtain ⟨k, hk, rfl, HK⟩ := hrel
          by_cases hlt : k < m + 1
          · have hcell := HST.out k (by rw [HL.out]; exact hlt)
            rw [Nat.zero_add] at hcell
            have htok := tokenOk_eq (strAt l k)
            rw [strAt_list] at htok
            have hdef : okAt wild l k = ((wild && (l.getD k [] == [42] || (l.getD k [] == [62] && decide (k + 1 = m + 1)))) || tokenOk (l.getD k [])) := by unfold okAt; rw [HL.out]
            have htl := strAt_toList l k
            have hszk := HSZ.out k
            have hnext : okAt wild l k = true → ∃ k' : Nat, k' ≤ m + 1 ∧ Value.int .i64 ((k : Int) + 1) = .int .i64 k' ∧ Hid (∀ j, j < k' → okAt wild l j = true) := fun h =>
              ⟨k + 1, by omega, by go_num, fun j hj => by
                by_cases e : j = k
                · subst e; exact h
                · exact HK.out j (by omega)⟩
            have hbad : okAt wild l k = false → er = 3 := fun h => by
              have : okPieces wild l = false := by
                cases ho : okPieces wild l with
                | false => rfl
                | true => rw [okPieces_iff] at ho; rw [ho k (by rw [HL.out]; exact hlt)] at h; cases h
              rw [← HE.out, this]; rfl
            have hall := fun j hj => all_take (strAt l k) j hj
            generalize hT : strAt l k = T at *
            generalize okAt wild l k = oa at *
            generalize l.getD k [] = lk at *
            clear hT
            have HT := Lib.hid htok; have HD := Lib.hid hdef; have HTL := Lib.hid htl; have HX := Lib.hid hnext; have HB := Lib.hid hbad; have HA := Lib.hid hall
            clear htok hdef htl hnext hbad hall
            go_wp2_with (go_at_call 75; refine (in_any _ _ _ _).mono ?_; rintro e w'' ⟨rfl, rfl⟩)
            generalize hb0 : (decide (1 ≤ (T.size : Int)) && decide ((T.size : Int) ≤ 16)) = b0
            have hb0' : (decide (1 ≤ T.size) && decide (T.size ≤ 16)) = b0 := by
              rw [← hb0, Bool.eq_iff_iff]; simp; omega
            have HB0 := Lib.hid hb0'; clear hb0 hb0'
            have hlk : T.data.toList = lk := by rw [← ByteArray.toList_eq, HTL.out]
            have HLK := Lib.hid hlk; clear hlk
            go_loop [10, 11] (fun ok q => ∃ (b : Bool) (j : Nat), j ≤ T.size ∧ ok = .bool b ∧ q = .int .i64 j ∧ Hid (b = (b0 && (T.data.toList.take j).all byteOk))) (fun _ q => T.size - (intOf q).toNat)
            case atStart => exact ⟨b0, 0, Nat.zero_le _, rfl, rfl, by show _ = _; simp⟩
            case round =>
              obtain ⟨b, j, hj, rfl, rfl, HJ⟩ := hrel
              by_cases hjt : j < T.size
              · have ha := HA.out j hjt
                have HAJ := Lib.hid ha; clear ha
                have hby := T[j].toNat_lt
                have hdef : byteOk T[j] = (decide (33 ≤ T[j].toNat) && decide (T[j].toNat ≤ 126) && T[j].toNat != 42 && T[j].toNat != 62) := rfl
                have HBD := Lib.hid hdef; clear hdef
                cases b with
                | false =>
                  go_wp2
                  refine ⟨⟨false, j + 1, by omega, rfl, by go_num, ?_⟩, by simp [intOf]; omega⟩
                  show _ = _
                  rw [HAJ.out, ← Bool.and_assoc, ← HJ.out]; rfl
                | true =>
                  have fin : ∀ y : Bool, y = byteOk T[j] → y = (b0 && (T.data.toList.take (j + 1)).all byteOk) := fun y hy => by
                    rw [HAJ.out, ← Bool.and_assoc, ← HJ.out, hy]; rfl
                  have FIN := Lib.hid fin; clear fin
                  by_cases b1 : T[j].toNat < 33
                  · have HQ := Lib.hid b1
                    go_wp2
                    refine ⟨⟨false, j + 1, by omega, rfl, by go_num, FIN.out _ (by rw [HBD.out]; simp; have := HQ.out; omega)⟩, by simp [intOf]; omega⟩
                  · by_cases b2 : 126 < T[j].toNat
                    · have HQ := Lib.hid b2
                      go_wp2
                      refine ⟨⟨false, j + 1, by omega, rfl, by go_num, FIN.out _ (by rw [HBD.out]; simp; have := HQ.out; omega)⟩, by simp [intOf]; omega⟩
                    · have HQ := Lib.hid b1; have HQ2 := Lib.hid b2
                      by_cases b3 : T[j].toNat = 42
                      · have d3 : ((T[j].toNat : Int) != 42) = false := by simp; omega
                        have H3 := Lib.hid b3; clear b3
                        go_wp2
                        refine ⟨⟨false, j + 1, by omega, rfl, by go_num, FIN.out _ (by rw [HBD.out]; simp [H3.out])⟩, by simp [intOf]; omega⟩
                      · have d3 : ((T[j].toNat : Int) != 42) = true := by simp; omega
                        have H3 := Lib.hid b3; clear b3
                        by_cases b4 : T[j].toNat = 62
                        · have d4 : ((T[j].toNat : Int) != 62) = false := by simp; omega
                          have H4 := Lib.hid b4; clear b4
                          go_wp2
                          refine ⟨⟨false, j + 1, by omega, rfl, by go_num, FIN.out _ (by rw [HBD.out]; simp [H4.out])⟩, by simp [intOf]; omega⟩
                        · have d4 : ((T[j].toNat : Int) != 62) = true := by simp; omega
                          have H4 := Lib.hid b4; clear b4
                          go_wp2
                          refine ⟨⟨true, j + 1, by omega, rfl, by go_num, FIN.out _ (by rw [HBD.out]; simp [H3.out, H4.out]; have := HQ.out; have := HQ2.out; omega)⟩, by simp [intOf]; omega⟩
              · obtain rfl : j = T.size := by omega
                have hb1 : tokenOk lk = b := by
                  rw [HJ.out, List.take_of_length_le (by simp), HT.out, HLK.out, ← HB0.out]
                rw [hb1] at HD
                clear HT HLK HB0 HJ hb1 HA
                cases wild with
                | false =>
                  have ho : oa = b := by rw [HD.out]; rfl
                  have HO := Lib.hid ho; clear ho HD
                  cases b with
                  | false =>
                    have h3 := HB.out HO.out
                    subst h3
                    go_wp2
                    go_ret2
                    exact ⟨hb, .inr ⟨by decide, rfl⟩⟩
                  | true =>
                    go_wp2
                    exact ⟨HX.out HO.out, by simp [intOf]; omega⟩
                | true =>
                  by_cases c1 : lk = [42]
                  · have ho : oa = true := by rw [HD.out, c1]; rfl
                    have d1 : (T.toList == [42]) = true := by rw [HTL.out, c1]; rfl
                    have HO := Lib.hid ho; clear ho HD c1
                    go_wp2
                    exact ⟨HX.out HO.out, by simp [intOf]; omega⟩
                  · have d1 : (T.toList == [42]) = false := by rw [HTL.out]; simpa using c1
                    have C1 : (lk == [42]) = false := by simpa using c1
                    by_cases c2 : k = m ∧ lk = [62]
                    · have ho : oa = true := by rw [HD.out, c2.1, c2.2]; simp
                      have d2 : (T.toList == [62]) = true := by rw [HTL.out, c2.2]; rfl
                      have d3 : ((k : Int) == (m : Int)) = true := by simp [c2.1]
                      have HO := Lib.hid ho; clear ho HD c1 c2 C1
                      go_wp2
                      exact ⟨HX.out HO.out, by simp [intOf]; omega⟩
                    · have ho : oa = b := by
                        rw [HD.out, C1]
                        have : (lk == [62] && decide (k + 1 = m + 1)) = false := by
                          rw [Bool.eq_false_iff]; intro h; simp at h; exact c2 ⟨h.2, h.1⟩
                        rw [this]; rfl
                      have HO := Lib.hid ho; clear ho HD C1 c1
                      by_cases c3 : lk = [62]
                      · have d2 : (T.toList == [62]) = true := by rw [HTL.out, c3]; rfl
                        have d3 : ((k : Int) == (m : Int)) = false := by
                          simp; intro e; exact c2 ⟨by omega, c3⟩
                        clear c2 c3
                        cases b with
                        | false =>
                          have h3 := HB.out HO.out
                          subst h3
                          go_wp2
                          go_ret2
                          exact ⟨hb, .inr ⟨by decide, rfl⟩⟩
                        | true =>
                          go_wp2
                          exact ⟨HX.out HO.out, by simp [intOf]; omega⟩
                      · have d2 : (T.toList == [62]) = false := by rw [HTL.out]; simpa using c3
                        clear c2 c3
                        cases b with
                        | false =>
                          have h3 := HB.out HO.out
                          subst h3
                          go_wp2
                          go_ret2
                          exact ⟨hb, .inr ⟨by decide, rfl⟩⟩
                        | true =>
                          go_wp2
                          exact ⟨HX.out HO.out, by simp [intOf]; omega⟩
          · obtain rfl : k = m + 1 := by omega
            have h0 : er = 0 := by
              rw [← HE.out, if_pos ((okPieces_iff wild l).2 (fun i hi => HK.out i (by rw [HL.out] at hi; exact hi)))]
            subst h0
            go_wp2
            go_ret2
            exact ⟨hb, .inl ⟨rfl, _, rfl, by rw [HL.out]; exact HOWN.out⟩⟩
end Go.Proofs.YthhingihjpkipaaDoor.Subj

namespace Go.Proofs.YthhingihjpkipaaDoor.Subj
open Go.RowKit

/-- A row of texts as a value: empty, whatever its address; or lying somewhere. -/
def Strs (w : World) (v : Value) (l : List Tok) : Prop :=
  ∃ (ao : Option Addr) (cap : Nat), v = .slice ao l.length cap ∧ l.length ≤ cap ∧ (l ≠ [] → ∃ g off, ao = some ⟨g, off, none⟩ ∧ StrsAt w g off l)

theorem takes_step (f s : List Tok) (k : Nat) (hk : k < f.length) : takes (f.drop k) (s.drop k) =
    if f.getD k [] == [62] then decide (k < s.length) else if k < s.length then (f.getD k [] == [42] || f.getD k [] == s.getD k []) && takes (f.drop (k + 1)) (s.drop (k + 1)) else false := by
  have hf : f.drop k = f.getD k [] :: f.drop (k + 1) := by
    rw [List.drop_eq_getElem_cons hk]; simp [List.getD, hk]
  rw [hf]
  generalize f.getD k [] = t
  generalize List.drop (k + 1) f = f'
  by_cases hs : k < s.length
  · have hs' : s.drop k = s.getD k [] :: s.drop (k + 1) := by
      rw [List.drop_eq_getElem_cons hs]; simp [List.getD, hs]
    rw [hs', if_pos hs]
    generalize s.getD k [] = x
    generalize List.drop (k + 1) s = s'
    rw [decide_eq_true hs]
    rfl
  · have hs' : s.drop k = [] := List.drop_of_length_le (by omega)
    rw [hs', if_neg hs, decide_eq_false hs]
    rfl

theorem takes_end (f s : List Tok) (h : f.length ≤ s.length) : takes (f.drop f.length) (s.drop f.length) = decide (f.length = s.length) := by
  rw [List.drop_length]
  simp only [takes]
  rw [Bool.eq_iff_iff]
  simp
  omega

set_option maxRecDepth 100000 in
theorem takes_any (gf gs cf cs : Nat) (f s : List Tok) (w : World) (hf : StrsAt w gf 0 f) (hs : StrsAt w gs 0 s) (hlf : f.length ≤ maxLen) (hls : s.length ≤ maxLen) :
    Calls Tryd.prog 65 #[.slice (some ⟨gf, 0, none⟩) f.length cf, .slice (some ⟨gs, 0, none⟩) s.length cs] w fun e w' => e = .returned (.bool (takes f s)) ∧ w = w' := by
  have HF := Lib.hid hf; have HS := Lib.hid hs
  obtain ⟨n, hn⟩ : ∃ n, f.length = n := ⟨_, rfl⟩
  obtain ⟨m, hm⟩ : ∃ m, s.length = m := ⟨_, rfl⟩
  obtain ⟨r, hr⟩ : ∃ r, takes f s = r := ⟨_, rfl⟩
  rw [hn] at hlf; rw [hm] at hls
  rw [hn, hm, hr]
  unfold maxLen at hlf hls
  have HN := Lib.hid hn; have HM := Lib.hid hm; have HR := Lib.hid hr
  clear hf hs hn hm hr
  go_enter Tryd.func65, Tryd.ntmps65
  go_wp2
  go_loop [9] (fun i => ∃ k : Nat, k ≤ n ∧ k ≤ m ∧ i = .int .i64 k ∧ Hid (takes (f.drop k) (s.drop k) = r)) (fun i => n - (intOf i).toNat)
  case atStart => exact ⟨0, Nat.zero_le _, Nat.zero_le _, rfl, HR⟩
  case round =>
    obtain ⟨k, hk, hkm, rfl, HK⟩ := hrel
    by_cases hlt : k < n
    · have hstep := takes_step f s k (by rw [HN.out]; exact hlt)
      rw [HK.out, HM.out] at hstep
      have HT := Lib.hid hstep; clear hstep
      have hcf := HF.out k (by rw [HN.out]; exact hlt)
      rw [Nat.zero_add] at hcf
      have hl1 := strAt_toList f k
      have HL1 := Lib.hid hl1; clear hl1
      by_cases c1 : f.getD k [] = [62]
      · have d1 : (strAt f k).toList = [62] := by rw [HL1.out, c1]
        have d2 : ((strAt f k).toList == [62]) = true := by simp [d1]
        have hres : decide (k < m) = r := by rw [HT.out, c1]; rfl
        have HRes := Lib.hid hres
        clear c1 hres
        by_cases c2 : k < m
        all_goals
          go_wp2
          go_ret
          exact ⟨ret_bool (by rw [← HRes.out]; simp [c2]), rfl⟩
      · have d1 : ¬ (strAt f k).toList = [62] := by rw [HL1.out]; exact c1
        have d2 : ((strAt f k).toList == [62]) = false := by simp [d1]
        have C1 := Lib.hid c1; clear c1
        by_cases c2 : k < m
        · have hkm' : ((k : Int) == (m : Int)) = false := by simp; omega
          have hcs := HS.out k (by rw [HM.out]; exact c2)
          rw [Nat.zero_add] at hcs
          have hl2 := strAt_toList s k
          have HL2 := Lib.hid hl2; clear hl2
          by_cases c3 : f.getD k [] = [42]
          · have d3 : (strAt f k).toList = [42] := by rw [HL1.out, c3]
            have d4 : ((strAt f k).toList == [42]) = true := by simp [d3]
            have C3 := Lib.hid c3; clear c3
            go_wp2
            refine ⟨⟨k + 1, by omega, by omega, by go_num, ?_⟩, by simp [intOf]; omega⟩
            show _ = _
            rw [HT.out, C3.out, if_neg (by decide), if_pos c2]
            simp
          · have d3 : ¬ (strAt f k).toList = [42] := by rw [HL1.out]; exact c3
            have d4 : ((strAt f k).toList == [42]) = false := by simp [d3]
            have C3 := Lib.hid c3; clear c3
            by_cases c4 : f.getD k [] = s.getD k []
            · have d5 : ((strAt f k).toList == (strAt s k).toList) = true := by rw [HL1.out, HL2.out, c4]; simp
              have d6 : (strAt f k).toList = (strAt s k).toList := by rw [HL1.out, HL2.out, c4]
              have C4 := Lib.hid c4; clear c4
              have D6 := Lib.hid d6; clear d6
              go_wp2
              refine ⟨⟨k + 1, by omega, by omega, by go_num, ?_⟩, by simp [intOf]; omega⟩
              show _ = _
              rw [HT.out, if_neg (by simpa using C1.out), if_pos c2, C4.out]
              simp
            · have d5 : ((strAt f k).toList == (strAt s k).toList) = false := by rw [HL1.out, HL2.out]; simpa using c4
              have C4 := Lib.hid c4; clear c4
              go_wp2
              go_ret
              refine ⟨ret_bool ?_, rfl⟩
              rw [HT.out, if_neg (by simpa using C1.out), if_pos c2, beq_eq_false_iff_ne.2 C3.out, beq_eq_false_iff_ne.2 C4.out]
              rfl
        · obtain rfl : k = m := by omega
          have hkm' : ((k : Int) == (k : Int)) = true := by simp
          go_wp2
          go_ret
          refine ⟨ret_bool ?_, rfl⟩
          rw [HT.out, if_neg (by simpa using C1.out), if_neg c2]
    · obtain rfl : k = n := by omega
      have he := takes_end f s (by rw [HN.out, HM.out]; exact hkm)
      rw [HN.out, HM.out, HK.out] at he
      have HE := Lib.hid he; clear he
      go_wp2
      go_ret
      refine ⟨ret_bool ?_, rfl⟩
      rw [HE.out, Bool.eq_iff_iff]
      simp
      omega

/-! ### Subject, Filter, Match -/

/-- A flag, as a number of an error. -/
theorem subject_any (s : ByteArray) (w : World) (hs : s.size ≤ 1048576) (hm : ML w) :
    Calls Tryd.prog 78 #[.string s] w fun e w' => e = .returned (.int .i64 (err false s.data.toList)) ∧ Below w.heap.size w w' := by
  have h := split_any s false w hs hm
  have HC := Lib.hid h; clear h
  generalize err false s.data.toList = er at *
  generalize pieces s.data.toList = l at *
  go_enter Tryd.func78, Tryd.ntmps78
  go_wp2_with fail
  refine HC.out.mono ?_
  rintro e w' ⟨hb, ⟨rfl, rfl, _⟩ | ⟨h0, rfl⟩⟩
  · go_wp2
    go_ret
    exact ⟨rfl, hb⟩
  · go_wp2
    go_ret
    exact ⟨rfl, hb⟩

theorem filter_any (s : ByteArray) (w : World) (hs : s.size ≤ 1048576) (hm : ML w) :
    Calls Tryd.prog 79 #[.string s] w fun e w' => e = .returned (.int .i64 (err true s.data.toList)) ∧ Below w.heap.size w w' := by
  have h := split_any s true w hs hm
  have HC := Lib.hid h; clear h
  generalize err true s.data.toList = er at *
  generalize pieces s.data.toList = l at *
  go_enter Tryd.func79, Tryd.ntmps79
  go_wp2_with fail
  refine HC.out.mono ?_
  rintro e w' ⟨hb, ⟨rfl, rfl, _⟩ | ⟨h0, rfl⟩⟩
  · go_wp2
    go_ret
    exact ⟨rfl, hb⟩
  · go_wp2
    go_ret
    exact ⟨rfl, hb⟩

/-- What Match answers: the first error, or whether the filter takes the subject. -/
def matchR (f s : List UInt8) : Bool × Nat :=
  if err true f ≠ 0 then (false, err true f) else if err false s ≠ 0 then (false, err false s) else (takes (pieces f) (pieces s), 0)

def beV (x : Bool × Nat) : Value := .tuple #[.bool x.1, .int .i64 x.2]

set_option maxRecDepth 100000 in
theorem match_any (f s : ByteArray) (w : World) (hf : f.size ≤ 1048576) (hs : s.size ≤ 1048576) (hm : ML w) :
    Calls Tryd.prog 23 #[.string f, .string s] w fun e w' => e = .returned (beV (matchR f.data.toList s.data.toList)) ∧ Below w.heap.size w w' := by
  have h1 := split_any f true w hf hm
  have h2 := fun w hm => split_any s false w hs hm
  have hl1 := pieces_size f hf
  have hl2 := pieces_size s hs
  obtain ⟨r, hr⟩ : ∃ r, matchR f.data.toList s.data.toList = r := ⟨_, rfl⟩
  rw [hr]
  unfold matchR at hr
  have H1 := Lib.hid h1; have H2 := Lib.hid h2; have HR := Lib.hid hr
  clear h1 h2 hr
  generalize err true f.data.toList = e1 at *
  generalize err false s.data.toList = e2 at *
  generalize pieces f.data.toList = lf at *
  generalize pieces s.data.toList = ls at *
  have L1 := Lib.hid hl1; have L2 := Lib.hid hl2
  clear hl1 hl2
  go_enter Tryd.func23, Tryd.ntmps23
  go_wp2_with fail
  refine H1.out.mono ?_
  rintro e w1 ⟨hb, ⟨rfl, rfl, hst⟩ | ⟨h0, rfl⟩⟩
  · have HST := Lib.hid hst; clear hst
    have hm1 := Lib.hid (hm.below hb)
    go_wp2_with fail
    refine (H2.out _ hm1.out).mono ?_
    rintro e w2 ⟨hb2, ⟨rfl, rfl, hst2⟩ | ⟨h0, rfl⟩⟩
    · have hstf := HST.out.below hb2
      have HSF := Lib.hid hstf; have HS2 := Lib.hid hst2; clear hstf hst2
      have hbb := hb.trans (hb2.mono hb.size)
      go_wp2_with fail
      refine (takes_any _ _ _ _ lf ls _ HSF.out HS2.out (by have := L1.out; unfold maxLen; omega) (by have := L2.out; unfold maxLen; omega)).mono ?_
      rintro e w' ⟨rfl, rfl⟩
      have hr : r = (takes lf ls, 0) := by rw [← HR.out]; simp
      have HRR := Lib.hid hr
      clear hr
      generalize takes lf ls = tk at *
      go_wp2
      go_ret2
      exact ⟨by rw [HRR.out]; rfl, hbb⟩
    · have h0' : ((e2 : Int) == 0) = false := by simp; omega
      have hbb := hb.trans (hb2.mono hb.size)
      have hr : r = (false, e2) := by rw [← HR.out]; simp [h0]
      have HRR := Lib.hid hr
      clear hr h0
      go_wp2
      go_ret2
      exact ⟨by rw [HRR.out]; rfl, hbb⟩
  · have h0' : ((e1 : Int) == 0) = false := by simp; omega
    have hr : r = (false, e1) := by rw [← HR.out]; simp [h0]
    have HRR := Lib.hid hr
    clear hr h0
    go_wp2
    go_ret2
    exact ⟨by rw [HRR.out]; rfl, hb⟩

end Go.Proofs.YthhingihjpkipaaDoor.Subj

namespace Go.Proofs.YthhingihjpkipaaDoor.Subj
open Go.RowKit

theorem Strs.cons {w : World} {v : Value} {x : Tok} {l : List Tok} (h : Strs w v (x :: l)) :
    ∃ g off cap, v = .slice (some ⟨g, off, none⟩) (l.length + 1) cap ∧ l.length + 1 ≤ cap ∧ w.cell? ⟨g, off, none⟩ = some (.string ⟨x.toArray⟩) ∧
      Strs w (.slice (if cap = 1 then some ⟨g, off, none⟩ else some ⟨g, off + 1, none⟩) l.length (cap - 1)) l := by
  obtain ⟨ao, cap, rfl, hc, ha⟩ := h
  obtain ⟨g, off, rfl, hs⟩ := ha (by simp)
  refine ⟨g, off, cap, rfl, by simpa using hc, ?_, ⟨_, cap - 1, rfl, by simp at hc; omega, fun hne => ⟨g, off + 1, ?_, hs.tail⟩⟩⟩
  · have := hs 0 (by simp)
    simpa [strAt] using this
  · have := List.length_pos_iff.2 hne
    simp at hc
    rw [if_neg (by omega)]

theorem Strs.nil {w : World} {v : Value} (h : Strs w v []) : ∃ ao cap, v = .slice ao 0 cap := by
  obtain ⟨ao, cap, rfl, _, _⟩ := h
  exact ⟨ao, cap, rfl⟩

theorem Strs.drewN {w : World} {v : Value} {l : List Tok} (h : Strs w v l) (n : Nat) : Strs (w.drewN n) v l := h
theorem Strs.below {w w' : World} {v : Value} {l : List Tok} (h : Strs w v l) (hb : Below w.heap.size w w') : Strs w' v l := by
  obtain ⟨ao, cap, rfl, hc, ha⟩ := h
  exact ⟨ao, cap, rfl, hc, fun hne => let ⟨g, off, e, hs⟩ := ha hne; ⟨g, off, e, hs.below hb⟩⟩
theorem Strs.own {w : World} {base n : Nat} {v : Value} {l : List Tok} (h : w.ownsRow base 9 1 v n (strsV l)) : Strs w v l := by
  have hn : l.length = n := by have := h.1; simpa [strsV_len] using this
  subst hn
  have h0 := h
  rcases h.2 with ⟨rfl, e⟩ | ⟨g, cap, cur, rfl, _, _, hle, _⟩
  · exact ⟨none, 0, by rw [e], by omega, fun hne => absurd (List.eq_nil_of_length_eq_zero e) hne⟩
  · exact ⟨_, cap, rfl, hle, fun _ => ⟨g, 0, rfl, fun i hi => by rw [Nat.zero_add, h0.cellAt i (by omega), strsV_get _ _ hi]⟩⟩

theorem nat_beq_zero (n : Nat) : ((n : Int) == 0) = decide (n = 0) := by
  rw [Bool.eq_iff_iff]; simp
theorem nat_zero_beq (n : Nat) : ((0 : Int) == n) = decide (0 = n) := by
  rw [Bool.eq_iff_iff]; simp; omega
theorem nat_beq (n m : Nat) : ((n : Int) == m) = decide (n = m) := by
  rw [Bool.eq_iff_iff]; simp; omega

theorem bytes_toList (x : Tok) : (ByteArray.mk x.toArray).toList = x := by
  rw [ByteArray.toList_eq]

/-- A call that answers a Bool; it may have drawn. -/
def QBool (w : World) (b : Bool) (e : Ending) (w' : World) : Prop := e = .returned (.bool b) ∧ ∃ n, w' = w.drewN n

set_option maxHeartbeats 1000000 in
set_option maxRecDepth 100000 in
theorem takes_ref (f : List Tok) : ∀ (s : List Tok) (vf vs : Value) (w : World), f.length ≤ maxLen → s.length ≤ maxLen → Strs w vf f → Strs w vs s →
    Calls Tryd.prog 87 #[vf, vs] w (QBool w (takes f s)) := by
  induction f with
  | nil =>
    intro s vf vs w h1 h2 hf hs
    obtain ⟨ao, cap, rfl⟩ := hf.nil
    obtain ⟨bo, cap', rfl, _, _⟩ := hs
    have hr : takes [] s = decide (s.length = 0) := by simp [takes]; cases s <;> simp
    rw [hr]
    generalize s.length = n at *
    go_enter Tryd.func87, Tryd.ntmps87
    go_wp2_with fail
    go_ret
    exact ⟨ret_bool (nat_beq_zero n), 0, rfl⟩
  | cons x f ih =>
    intro s vf vs w h1 h2 hf hs
    obtain ⟨gf, of, cf, rfl, hcf, hxf, hf'⟩ := hf.cons
    have hpx := bytes_toList x
    generalize (⟨x.toArray⟩ : ByteArray) = p at *
    simp only [List.length_cons] at h1
    cases s with
    | nil =>
      obtain ⟨bo, cap', rfl⟩ := hs.nil
      have hr : takes (x :: f) [] = false := by simp [takes]
      rw [hr]
      clear hf hf' hs ih h2 hpx
      go_enter Tryd.func87, Tryd.ntmps87
      go_wp2_with fail
      · go_ret
        exact ⟨rfl, 0, rfl⟩
      · go_quiet (fail)
        go_wp2
        go_ret
        exact ⟨rfl, _, rfl⟩
    | cons z s =>
      obtain ⟨gs, os, cs, rfl, hcs, hzs, hs'⟩ := hs.cons
      have hqz := bytes_toList z
      generalize (⟨z.toArray⟩ : ByteArray) = q at *
      simp only [List.length_cons] at h2
      have HC := Lib.hid fun n => ih s _ _ (w.drewN n) (by omega) (by omega) (hf'.drewN n) (hs'.drewN n)
      have hr : takes (x :: f) (z :: s) = if (p.toList == [62]) then true else ((p.toList == [42]) || (p.toList == q.toList)) && takes f s := by rw [hpx, hqz]; rfl
      rw [hr]
      generalize takes f s = r at *
      generalize f.length = n at *
      generalize s.length = m at *
      clear hf hf' hs hs' ih hr hpx hqz
      unfold maxLen at h1 h2
      have n0 : ((n : Int) + 1 == 0) = false := by simp; omega
      have m0 : ((m : Int) + 1 == 0) = false := by simp; omega
      cases h0 : (p.toList == [62])
      · cases h1 : (p.toList == [42])
        · cases h2 : (p.toList == q.toList)
          all_goals
            go_enter Tryd.func87, Tryd.ntmps87
            go_wp2_with fail
            first
              | (go_ret; exact ⟨rfl, 0, rfl⟩)
              | (go_quiet ((go_at_call 87; exact Calls.quiet_of (HC.out _)))
                 go_wp2
                 all_goals (go_ret; exact ⟨rfl, _, rfl⟩))
        · all_goals
            go_enter Tryd.func87, Tryd.ntmps87
            go_wp2_with fail
            first
              | (go_ret; exact ⟨rfl, 0, rfl⟩)
              | (go_quiet ((go_at_call 87; exact Calls.quiet_of (HC.out _)))
                 go_wp2
                 all_goals (go_ret; exact ⟨rfl, _, rfl⟩))
      · all_goals
          go_enter Tryd.func87, Tryd.ntmps87
          go_wp2_with fail
          first
            | (go_ret; exact ⟨rfl, 0, rfl⟩)
            | (go_quiet ((go_at_call 87; exact Calls.quiet_of (HC.out _)))
               go_wp2
               all_goals (go_ret; exact ⟨rfl, _, rfl⟩))

set_option maxRecDepth 100000 in
theorem takesS_ref (f s : ByteArray) (w : World) (hf : f.size ≤ 1048576) (hs : s.size ≤ 1048576) :
    Calls Tryd.prog 44 #[.string f, .string s] w fun e w' => e = .returned (.bool (takes (pieces f.data.toList) (pieces s.data.toList))) ∧ Below w.heap.size w w' := by
  have hl1 := pieces_size f hf
  have hl2 := pieces_size s hs
  have H1 := Lib.hid fun w => pieces_any f w hf
  have H2 := Lib.hid fun w => pieces_any s w hs
  have HC := Lib.hid fun vf vs w => takes_ref (pieces f.data.toList) (pieces s.data.toList) vf vs w (by unfold maxLen; omega) (by unfold maxLen; omega)
  clear hl1 hl2
  generalize pieces f.data.toList = lf at *
  generalize pieces s.data.toList = ls at *
  generalize takes lf ls = r at *
  go_enter Tryd.func44, Tryd.ntmps44
  go_wp2_with fail
  refine (H1.out _).mono ?_
  rintro e w1 ⟨v1, rfl, ho1, hb1⟩
  have HS1 := Lib.hid (Strs.own ho1); clear ho1
  go_wp2_with fail
  refine (H2.out _).mono ?_
  rintro e w2 ⟨v2, rfl, ho2, hb2⟩
  have HS2 := Lib.hid (Strs.own ho2); clear ho2
  have hbb := hb1.trans (hb2.mono hb1.size)
  have HS3 := Lib.hid (HS1.out.below hb2)
  go_wp2_with fail
  refine (HC.out _ _ _ HS3.out HS2.out).mono ?_
  rintro e w3 ⟨rfl, n, rfl⟩
  go_wp2
  go_ret
  exact ⟨rfl, below_drewN hbb _⟩

end Go.Proofs.YthhingihjpkipaaDoor.Subj

namespace Go.Proofs.YthhingihjpkipaaDoor.Subj
open Go.RowKit

theorem overlap_step (f g : List Tok) (k : Nat) (hf : k < f.length) (hg : k < g.length) : overlap (f.drop k) (g.drop k) =
    if (f.getD k [] == [62] || g.getD k [] == [62]) = true then true else (f.getD k [] == g.getD k [] || f.getD k [] == [42] || g.getD k [] == [42]) && overlap (f.drop (k + 1)) (g.drop (k + 1)) := by
  have h1 : f.drop k = f.getD k [] :: f.drop (k + 1) := by
    rw [List.drop_eq_getElem_cons hf]; simp [List.getD, hf]
  have h2 : g.drop k = g.getD k [] :: g.drop (k + 1) := by
    rw [List.drop_eq_getElem_cons hg]; simp [List.getD, hg]
  rw [h1, h2]
  rfl

theorem overlap_end (f g : List Tok) (k : Nat) (hf : k ≤ f.length) (hg : k ≤ g.length) (h : k = f.length ∨ k = g.length) : overlap (f.drop k) (g.drop k) = decide (f.length = g.length) := by
  rcases h with rfl | rfl
  · rw [List.drop_length]
    simp only [overlap]
    rw [Bool.eq_iff_iff]
    simp
    omega
  · rw [List.drop_length]
    cases hq : f.drop g.length with
    | nil =>
      simp only [overlap]
      have := congrArg List.length hq
      simp at this
      simp; omega
    | cons x xs =>
      simp only [overlap]
      have := congrArg List.length hq
      simp at this
      simp; omega

theorem covers_step (f g : List Tok) (k : Nat) (hf : k < f.length) (hg : k < g.length) : covers (f.drop k) (g.drop k) =
    if (f.getD k [] == [62]) = true then true else g.getD k [] != [62] && (f.getD k [] == [42] || f.getD k [] == g.getD k []) && covers (f.drop (k + 1)) (g.drop (k + 1)) := by
  have h1 : f.drop k = f.getD k [] :: f.drop (k + 1) := by
    rw [List.drop_eq_getElem_cons hf]; simp [List.getD, hf]
  have h2 : g.drop k = g.getD k [] :: g.drop (k + 1) := by
    rw [List.drop_eq_getElem_cons hg]; simp [List.getD, hg]
  rw [h1, h2]
  rfl

theorem covers_end (f g : List Tok) (k : Nat) (hf : k ≤ f.length) (hg : k ≤ g.length) (h : k = f.length ∨ k = g.length) : covers (f.drop k) (g.drop k) = decide (f.length = g.length) := by
  rcases h with rfl | rfl
  · rw [List.drop_length]
    simp only [covers]
    rw [Bool.eq_iff_iff]
    simp
    omega
  · rw [List.drop_length]
    cases hq : f.drop g.length with
    | nil =>
      simp only [covers]
      have := congrArg List.length hq
      simp at this
      simp; omega
    | cons x xs =>
      simp only [covers]
      have := congrArg List.length hq
      simp at this
      simp; omega

/-! ### both -/

def pairErr (f g : List UInt8) : Nat := if err true f ≠ 0 then err true f else err true g

def BothPost (w : World) (lf lg : List Tok) (er : Nat) (e : Ending) (w' : World) : Prop :=
  Below w.heap.size w w' ∧ ((er = 0 ∧ ∃ g1 g2, e = .returned (.tuple #[.slice (some ⟨g1, 0, none⟩) lf.length lf.length, .slice (some ⟨g2, 0, none⟩) lg.length lg.length, .int .i64 0]) ∧ StrsAt w' g1 0 lf ∧ StrsAt w' g2 0 lg) ∨
    (er ≠ 0 ∧ e = .returned (.tuple #[.slice none 0 0, .slice none 0 0, .int .i64 er])))

/-- What Overlap answers. -/
def overlapR (f g : List UInt8) : Bool × Nat := if pairErr f g ≠ 0 then (false, pairErr f g) else (overlap (pieces f) (pieces g), 0)
def coversR (f g : List UInt8) : Bool × Nat := if pairErr f g ≠ 0 then (false, pairErr f g) else (covers (pieces f) (pieces g), 0)

end Go.Proofs.YthhingihjpkipaaDoor.Subj

namespace Go.Proofs.YthhingihjpkipaaDoor.Subj
open Go.RowKit
end Go.Proofs.YthhingihjpkipaaDoor.Subj
