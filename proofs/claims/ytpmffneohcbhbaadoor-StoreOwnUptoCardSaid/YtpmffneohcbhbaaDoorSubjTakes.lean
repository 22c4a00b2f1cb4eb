/- Package subject, walked: Takes, Subject, Filter, Match, Overlap, Covers. -/
import Derived.Test.YtpmffneohcbhbaaDoorSubjWalks
namespace Go.Proofs.YtpmffneohcbhbaaDoor.Subj
open Go.RowKit

/-- A row of texts as a value: empty, whatever its address; or lying somewhere. -/
def Strs (w : World) (v : Value) (l : List Tok) : Prop :=
  ∃ (ao : Option Addr) (cap : Nat), v = .slice ao l.length cap ∧ l.length ≤ cap ∧ (l ≠ [] → ∃ g off, ao = some ⟨g, off, none⟩ ∧ StrsAt w g off l)

theorem takes_step (f s : List Tok) (k : Nat) (hk : k < f.length) : takes (f.drop k) (s.drop k) =
    if f.getD k [] == [62] then decide (k < s.length) else if k < s.length then (f.getD k [] == [42] || f.getD k [] == s.getD k []) && takes (f.drop (k + 1)) (s.drop (k + 1)) else false := by
  have hf : f.drop k = f.getD k [] :: f.drop (k + 1) := by
    rw [List.drop_eq_getElem_cons hk]; simp [List.getD, hk]
  rw [hf]
  generalize f.getD k [] = t
  generalize List.drop (k + 1) f = f'
  by_cases hs : k < s.length
  · have hs' : s.drop k = s.getD k [] :: s.drop (k + 1) := by
      rw [List.drop_eq_getElem_cons hs]; simp [List.getD, hs]
    rw [hs', if_pos hs]
    generalize s.getD k [] = x
    generalize List.drop (k + 1) s = s'
    rw [decide_eq_true hs]
    rfl
  · have hs' : s.drop k = [] := List.drop_of_length_le (by omega)
    rw [hs', if_neg hs, decide_eq_false hs]
    rfl

theorem takes_end (f s : List Tok) (h : f.length ≤ s.length) : takes (f.drop f.length) (s.drop f.length) = decide (f.length = s.length) := by
  rw [List.drop_length]
  simp only [takes]
  rw [Bool.eq_iff_iff]
  simp
  omega

set_option maxRecDepth 100000 in
theorem takes_any (gf gs cf cs : Nat) (f s : List Tok) (w : World) (hf : StrsAt w gf 0 f) (hs : StrsAt w gs 0 s) (hlf : f.length ≤ maxLen) (hls : s.length ≤ maxLen) :
    Calls Tryd.prog 64 #[.slice (some ⟨gf, 0, none⟩) f.length cf, .slice (some ⟨gs, 0, none⟩) s.length cs] w fun e w' => e = .returned (.bool (takes f s)) ∧ w = w' := by
  have HF := Lib.hid hf; have HS := Lib.hid hs
  obtain ⟨n, hn⟩ : ∃ n, f.length = n := ⟨_, rfl⟩
  obtain ⟨m, hm⟩ : ∃ m, s.length = m := ⟨_, rfl⟩
  obtain ⟨r, hr⟩ : ∃ r, takes f s = r := ⟨_, rfl⟩
  rw [hn] at hlf; rw [hm] at hls
  rw [hn, hm, hr]
  unfold maxLen at hlf hls
  have HN := Lib.hid hn; have HM := Lib.hid hm; have HR := Lib.hid hr
  clear hf hs hn hm hr
  go_enter Tryd.func64, Tryd.ntmps64
  go_wp2
  go_loop [9] (fun i => ∃ k : Nat, k ≤ n ∧ k ≤ m ∧ i = .int .i64 k ∧ Hid (takes (f.drop k) (s.drop k) = r)) (fun i => n - (intOf i).toNat)
  case atStart => exact ⟨0, Nat.zero_le _, Nat.zero_le _, rfl, HR⟩
  case round =>
    obtain ⟨k, hk, hkm, rfl, HK⟩ := hrel
    by_cases hlt : k < n
    · have hstep := takes_step f s k (by rw [HN.out]; exact hlt)
      rw [HK.out, HM.out] at hstep
      have HT := Lib.hid hstep; clear hstep
      have hcf := HF.out k (by rw [HN.out]; exact hlt)
      rw [Nat.zero_add] at hcf
      have hl1 := strAt_toList f k
      have HL1 := Lib.hid hl1; clear hl1
      by_cases c1 : f.getD k [] = [62]
      · have d1 : (strAt f k).toList = [62] := by rw [HL1.out, c1]
        have d2 : ((strAt f k).toList == [62]) = true := by simp [d1]
        have hres : decide (k < m) = r := by rw [HT.out, c1]; rfl
        have HRes := Lib.hid hres
        clear c1 hres
        by_cases c2 : k < m
        all_goals
          go_wp2
          go_ret
          exact ⟨ret_bool (by rw [← HRes.out]; simp [c2]), rfl⟩
      · have d1 : ¬ (strAt f k).toList = [62] := by rw [HL1.out]; exact c1
        have d2 : ((strAt f k).toList == [62]) = false := by simp [d1]
        have C1 := Lib.hid c1; clear c1
        by_cases c2 : k < m
        · have hkm' : ((k : Int) == (m : Int)) = false := by simp; omega
          have hcs := HS.out k (by rw [HM.out]; exact c2)
          rw [Nat.zero_add] at hcs
          have hl2 := strAt_toList s k
          have HL2 := Lib.hid hl2; clear hl2
          by_cases c3 : f.getD k [] = [42]
          · have d3 : (strAt f k).toList = [42] := by rw [HL1.out, c3]
            have d4 : ((strAt f k).toList == [42]) = true := by simp [d3]
            have C3 := Lib.hid c3; clear c3
            go_wp2
            refine ⟨⟨k + 1, by omega, by omega, by go_num, ?_⟩, by simp [intOf]; omega⟩
            show _ = _
            rw [HT.out, C3.out, if_neg (by decide), if_pos c2]
            simp
          · have d3 : ¬ (strAt f k).toList = [42] := by rw [HL1.out]; exact c3
            have d4 : ((strAt f k).toList == [42]) = false := by simp [d3]
            have C3 := Lib.hid c3; clear c3
            by_cases c4 : f.getD k [] = s.getD k []
            · have d5 : ((strAt f k).toList == (strAt s k).toList) = true := by rw [HL1.out, HL2.out, c4]; simp
              have d6 : (strAt f k).toList = (strAt s k).toList := by rw [HL1.out, HL2.out, c4]
              have C4 := Lib.hid c4; clear c4
              have D6 := Lib.hid d6; clear d6
              go_wp2
              refine ⟨⟨k + 1, by omega, by omega, by go_num, ?_⟩, by simp [intOf]; omega⟩
              show _ = _
              rw [HT.out, if_neg (by simpa using C1.out), if_pos c2, C4.out]
              simp
            · have d5 : ((strAt f k).toList == (strAt s k).toList) = false := by rw [HL1.out, HL2.out]; simpa using c4
              have C4 := Lib.hid c4; clear c4
              go_wp2
              go_ret
              refine ⟨ret_bool ?_, rfl⟩
              rw [HT.out, if_neg (by simpa using C1.out), if_pos c2, beq_eq_false_iff_ne.2 C3.out, beq_eq_false_iff_ne.2 C4.out]
              rfl
        · obtain rfl : k = m := by omega
          have hkm' : ((k : Int) == (k : Int)) = true := by simp
          go_wp2
          go_ret
          refine ⟨ret_bool ?_, rfl⟩
          rw [HT.out, if_neg (by simpa using C1.out), if_neg c2]
    · obtain rfl : k = n := by omega
      have he := takes_end f s (by rw [HN.out, HM.out]; exact hkm)
      rw [HN.out, HM.out, HK.out] at he
      have HE := Lib.hid he; clear he
      go_wp2
      go_ret
      refine ⟨ret_bool ?_, rfl⟩
      rw [HE.out, Bool.eq_iff_iff]
      simp
      omega

/-! ### Subject, Filter, Match -/

/-- A flag, as a number of an error. -/
theorem subject_any (s : ByteArray) (w : World) (hs : s.size ≤ 1048576) (hm : ML w) :
    Calls Tryd.prog 48 #[.string s] w fun e w' => e = .returned (.int .i64 (err false s.data.toList)) ∧ Below w.heap.size w w' := by
  have h := split_any s false w hs hm
  have HC := Lib.hid h; clear h
  generalize err false s.data.toList = er at *
  generalize pieces s.data.toList = l at *
  go_enter Tryd.func48, Tryd.ntmps48
  go_wp2_with fail
  refine HC.out.mono ?_
  rintro e w' ⟨hb, ⟨rfl, rfl, _⟩ | ⟨h0, rfl⟩⟩
  · go_wp2
    go_ret
    exact ⟨rfl, hb⟩
  · go_wp2
    go_ret
    exact ⟨rfl, hb⟩

theorem filter_any (s : ByteArray) (w : World) (hs : s.size ≤ 1048576) (hm : ML w) :
    Calls Tryd.prog 24 #[.string s] w fun e w' => e = .returned (.int .i64 (err true s.data.toList)) ∧ Below w.heap.size w w' := by
  have h := split_any s true w hs hm
  have HC := Lib.hid h; clear h
  generalize err true s.data.toList = er at *
  generalize pieces s.data.toList = l at *
  go_enter Tryd.func24, Tryd.ntmps24
  go_wp2_with fail
  refine HC.out.mono ?_
  rintro e w' ⟨hb, ⟨rfl, rfl, _⟩ | ⟨h0, rfl⟩⟩
  · go_wp2
    go_ret
    exact ⟨rfl, hb⟩
  · go_wp2
    go_ret
    exact ⟨rfl, hb⟩

/-- What Match answers: the first error, or whether the filter takes the subject. -/
def matchR (f s : List UInt8) : Bool × Nat :=
  if err true f ≠ 0 then (false, err true f) else if err false s ≠ 0 then (false, err false s) else (takes (pieces f) (pieces s), 0)

def beV (x : Bool × Nat) : Value := .tuple #[.bool x.1, .int .i64 x.2]

set_option maxRecDepth 100000 in
theorem match_any (f s : ByteArray) (w : World) (hf : f.size ≤ 1048576) (hs : s.size ≤ 1048576) (hm : ML w) :
    Calls Tryd.prog 26 #[.string f, .string s] w fun e w' => e = .returned (beV (matchR f.data.toList s.data.toList)) ∧ Below w.heap.size w w' := by
  have h1 := split_any f true w hf hm
  have h2 := fun w hm => split_any s false w hs hm
  have hl1 := pieces_size f hf
  have hl2 := pieces_size s hs
  obtain ⟨r, hr⟩ : ∃ r, matchR f.data.toList s.data.toList = r := ⟨_, rfl⟩
  rw [hr]
  unfold matchR at hr
  have H1 := Lib.hid h1; have H2 := Lib.hid h2; have HR := Lib.hid hr
  clear h1 h2 hr
  generalize err true f.data.toList = e1 at *
  generalize err false s.data.toList = e2 at *
  generalize pieces f.data.toList = lf at *
  generalize pieces s.data.toList = ls at *
  have L1 := Lib.hid hl1; have L2 := Lib.hid hl2
  clear hl1 hl2
  go_enter Tryd.func26, Tryd.ntmps26
  go_wp2_with fail
  refine H1.out.mono ?_
  rintro e w1 ⟨hb, ⟨rfl, rfl, hst⟩ | ⟨h0, rfl⟩⟩
  · have HST := Lib.hid hst; clear hst
    have hm1 := Lib.hid (hm.below hb)
    go_wp2_with fail
    refine (H2.out _ hm1.out).mono ?_
    rintro e w2 ⟨hb2, ⟨rfl, rfl, hst2⟩ | ⟨h0, rfl⟩⟩
    · have hstf := HST.out.below hb2
      have HSF := Lib.hid hstf; have HS2 := Lib.hid hst2; clear hstf hst2
      have hbb := hb.trans (hb2.mono hb.size)
      go_wp2_with fail
      refine (takes_any _ _ _ _ lf ls _ HSF.out HS2.out (by have := L1.out; unfold maxLen; omega) (by have := L2.out; unfold maxLen; omega)).mono ?_
      rintro e w' ⟨rfl, rfl⟩
      have hr : r = (takes lf ls, 0) := by rw [← HR.out]; simp
      have HRR := Lib.hid hr
      clear hr
      generalize takes lf ls = tk at *
      go_wp2
      go_ret2
      exact ⟨by rw [HRR.out]; rfl, hbb⟩
    · have h0' : ((e2 : Int) == 0) = false := by simp; omega
      have hbb := hb.trans (hb2.mono hb.size)
      have hr : r = (false, e2) := by rw [← HR.out]; simp [h0]
      have HRR := Lib.hid hr
      clear hr h0
      go_wp2
      go_ret2
      exact ⟨by rw [HRR.out]; rfl, hbb⟩
  · have h0' : ((e1 : Int) == 0) = false := by simp; omega
    have hr : r = (false, e1) := by rw [← HR.out]; simp [h0]
    have HRR := Lib.hid hr
    clear hr h0
    go_wp2
    go_ret2
    exact ⟨by rw [HRR.out]; rfl, hb⟩

end Go.Proofs.YtpmffneohcbhbaaDoor.Subj
