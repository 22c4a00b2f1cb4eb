/- Parts of the proof, joined: rillref.tokens, Subject, Filter, walked.; rillref.takes, walked by its own recursion; Takes.; Package subject, walked: both, Overlap, Covers. -/
import Derived.Test.YtbgchhgdlceceaaGreatDoorPlansOwnUptoM2
import Derived.Deep.QuietTactic
import Derived.BigQuiet
namespace Go.Proofs.YtbgchhgdlceceaaGreatDoor.Subj
open Go.RowKit

end Go.Proofs.YtbgchhgdlceceaaGreatDoor.Subj

namespace Go.Proofs.YtbgchhgdlceceaaGreatDoor.Subj
open Go.RowKit

theorem Strs.cons {w : World} {v : Value} {x : Tok} {l : List Tok} (h : Strs w v (x :: l)) :
    ∃ g off cap, v = .slice (some ⟨g, off, none⟩) (l.length + 1) cap ∧ l.length + 1 ≤ cap ∧ w.cell? ⟨g, off, none⟩ = some (.string ⟨x.toArray⟩) ∧
      Strs w (.slice (if cap = 1 then some ⟨g, off, none⟩ else some ⟨g, off + 1, none⟩) l.length (cap - 1)) l := by
  obtain ⟨ao, cap, rfl, hc, ha⟩ := h
  obtain ⟨g, off, rfl, hs⟩ := ha (by simp)
  refine ⟨g, off, cap, rfl, by simpa using hc, ?_, ⟨_, cap - 1, rfl, by simp at hc; omega, fun hne => ⟨g, off + 1, ?_, hs.tail⟩⟩⟩
  · have := hs 0 (by simp)
    simpa [strAt] using this
  · have := List.length_pos_iff.2 hne
    simp at hc
    rw [if_neg (by omega)]

theorem Strs.nil {w : World} {v : Value} (h : Strs w v []) : ∃ ao cap, v = .slice ao 0 cap := by
  obtain ⟨ao, cap, rfl, _, _⟩ := h
  exact ⟨ao, cap, rfl⟩

theorem Strs.drewN {w : World} {v : Value} {l : List Tok} (h : Strs w v l) (n : Nat) : Strs (w.drewN n) v l := h
theorem Strs.below {w w' : World} {v : Value} {l : List Tok} (h : Strs w v l) (hb : Below w.heap.size w w') : Strs w' v l := by
  obtain ⟨ao, cap, rfl, hc, ha⟩ := h
  exact ⟨ao, cap, rfl, hc, fun hne => let ⟨g, off, e, hs⟩ := ha hne; ⟨g, off, e, hs.below hb⟩⟩
theorem Strs.own {w : World} {base n : Nat} {v : Value} {l : List Tok} (h : w.ownsRow base 9 1 v n (strsV l)) : Strs w v l := by
  have hn : l.length = n := by have := h.1; simpa [strsV_len] using this
  subst hn
  have h0 := h
  rcases h.2 with ⟨rfl, e⟩ | ⟨g, cap, cur, rfl, _, _, hle, _⟩
  · exact ⟨none, 0, by rw [e], by omega, fun hne => absurd (List.eq_nil_of_length_eq_zero e) hne⟩
  · exact ⟨_, cap, rfl, hle, fun _ => ⟨g, 0, rfl, fun i hi => by rw [Nat.zero_add, h0.cellAt i (by omega), strsV_get _ _ hi]⟩⟩

end Go.Proofs.YtbgchhgdlceceaaGreatDoor.Subj

namespace Go.Proofs.YtbgchhgdlceceaaGreatDoor.Subj
open Go.RowKit

theorem overlap_step (f g : List Tok) (k : Nat) (hf : k < f.length) (hg : k < g.length) : overlap (f.drop k) (g.drop k) =
    if (f.getD k [] == [62] || g.getD k [] == [62]) = true then true else (f.getD k [] == g.getD k [] || f.getD k [] == [42] || g.getD k [] == [42]) && overlap (f.drop (k + 1)) (g.drop (k + 1)) := by
  have h1 : f.drop k = f.getD k [] :: f.drop (k + 1) := by
    rw [List.drop_eq_getElem_cons hf]; simp [List.getD, hf]
  have h2 : g.drop k = g.getD k [] :: g.drop (k + 1) := by
    rw [List.drop_eq_getElem_cons hg]; simp [List.getD, hg]
  rw [h1, h2]
  rfl

theorem overlap_end (f g : List Tok) (k : Nat) (hf : k ≤ f.length) (hg : k ≤ g.length) (h : k = f.length ∨ k = g.length) : overlap (f.drop k) (g.drop k) = decide (f.length = g.length) := by
  rcases h with rfl | rfl
  · rw [List.drop_length]
    simp only [overlap]
    rw [Bool.eq_iff_iff]
    simp
    omega
  · rw [List.drop_length]
    cases hq : f.drop g.length with
    | nil =>
      simp only [overlap]
      have := congrArg List.length hq
      simp at this
      simp; omega
    | cons x xs =>
      simp only [overlap]
      have := congrArg List.length hq
      simp at this
      simp; omega

/-! ### both -/

def pairErr (f g : List UInt8) : Nat := if err true f ≠ 0 then err true f else err true g

def BothPost (w : World) (lf lg : List Tok) (er : Nat) (e : Ending) (w' : World) : Prop :=
  Below w.heap.size w w' ∧ ((er = 0 ∧ ∃ g1 g2, e = .returned (.tuple #[.slice (some ⟨g1, 0, none⟩) lf.length lf.length, .slice (some ⟨g2, 0, none⟩) lg.length lg.length, .int .i64 0]) ∧ StrsAt w' g1 0 lf ∧ StrsAt w' g2 0 lg) ∨
    (er ≠ 0 ∧ e = .returned (.tuple #[.slice none 0 0, .slice none 0 0, .int .i64 er])))

set_option maxRecDepth 100000 in
theorem both_any (f g : ByteArray) (w : World) (hf : f.size ≤ 1048576) (hg : g.size ≤ 1048576) (hm : ML w) :
    Calls Tryz.prog 235 #[.string f, .string g] w (BothPost w (pieces f.data.toList) (pieces g.data.toList) (pairErr f.data.toList g.data.toList)) := by
  have h1 := split_any f true w hf hm
  have h2 := fun w hm => split_any g true w hg hm
  obtain ⟨r, hr⟩ : ∃ r, pairErr f.data.toList g.data.toList = r := ⟨_, rfl⟩
  rw [hr]
  unfold pairErr at hr
  have H1 := Lib.hid h1; have H2 := Lib.hid h2; have HR := Lib.hid hr
  clear h1 h2 hr
  generalize err true f.data.toList = e1 at *
  generalize err true g.data.toList = e2 at *
  generalize pieces f.data.toList = lf at *
  generalize pieces g.data.toList = lg at *
  go_enter Tryz.func235, Tryz.ntmps235
  go_wp2_with fail
  refine H1.out.mono ?_
  rintro e w1 ⟨hb, ⟨rfl, rfl, hst⟩ | ⟨h0, rfl⟩⟩
  · have HST := Lib.hid hst; clear hst
    have hm1 := Lib.hid (hm.below hb)
    go_wp2_with fail
    refine (H2.out _ hm1.out).mono ?_
    rintro e w2 ⟨hb2, ⟨rfl, rfl, hst2⟩ | ⟨h0, rfl⟩⟩
    · have hstf := HST.out.below hb2
      have HSF := Lib.hid hstf; have HS2 := Lib.hid hst2; clear hstf hst2
      have hbb := hb.trans (hb2.mono hb.size)
      have hr : r = 0 := by rw [← HR.out]; simp
      have HRR := Lib.hid hr; clear hr
      go_wp2
      go_ret3
      exact ⟨hbb, .inl ⟨HRR.out, _, _, rfl, HSF.out, HS2.out⟩⟩
    · have h0' : ((e2 : Int) == 0) = false := by simp; omega
      have hbb := hb.trans (hb2.mono hb.size)
      have hr : r = e2 := by rw [← HR.out]; simp
      have HRR := Lib.hid hr; have H0 := Lib.hid h0
      clear hr h0
      go_wp2
      go_ret3
      exact ⟨hbb, .inr ⟨by rw [HRR.out]; exact H0.out, by rw [HRR.out]; rfl⟩⟩
  · have h0' : ((e1 : Int) == 0) = false := by simp; omega
    have hr : r = e1 := by rw [← HR.out]; simp [h0]
    have HRR := Lib.hid hr; have H0 := Lib.hid h0
    clear hr h0
    go_wp2
    go_ret3
    exact ⟨hb, .inr ⟨by rw [HRR.out]; exact H0.out, by rw [HRR.out]; rfl⟩⟩

/-- What Overlap answers. -/
def overlapR (f g : List UInt8) : Bool × Nat := if pairErr f g ≠ 0 then (false, pairErr f g) else (overlap (pieces f) (pieces g), 0)
set_option maxRecDepth 100000 in
theorem overlap_any (f g : ByteArray) (w : World) (hf : f.size ≤ 1048576) (hg : g.size ≤ 1048576) (hm : ML w) :
    Calls Tryz.prog 209 #[.string f, .string g] w fun e w' => e = .returned (beV (overlapR f.data.toList g.data.toList)) ∧ Below w.heap.size w w' := by
  have h1 := both_any f g w hf hg hm
  have hl1 := pieces_size f hf
  have hl2 := pieces_size g hg
  obtain ⟨r, hr⟩ : ∃ r, overlapR f.data.toList g.data.toList = r := ⟨_, rfl⟩
  rw [hr]
  unfold overlapR at hr
  have H1 := Lib.hid h1; have HR := Lib.hid hr
  clear h1 hr
  generalize pairErr f.data.toList g.data.toList = er at *
  generalize pieces f.data.toList = lf at *
  generalize pieces g.data.toList = lg at *
  go_enter Tryz.func209, Tryz.ntmps209
  go_wp2_with fail
  refine H1.out.mono ?_
  rintro e w' ⟨hb, ⟨rfl, g1, g2, rfl, hs1, hs2⟩ | ⟨h0, rfl⟩⟩
  · have hr : r = (overlap lf lg, 0) := by rw [← HR.out]; simp
    obtain ⟨x, hx⟩ : ∃ x, overlap lf lg = x := ⟨_, rfl⟩
    rw [hx] at hr
    subst hr
    have HF := Lib.hid hs1; have HG := Lib.hid hs2
    obtain ⟨n, hn⟩ : ∃ n, lf.length = n := ⟨_, rfl⟩
    obtain ⟨m, hm'⟩ : ∃ m, lg.length = m := ⟨_, rfl⟩
    rw [hn] at hl1; rw [hm'] at hl2
    rw [hn, hm']
    have HX := Lib.hid hx; have HN := Lib.hid hn; have HM := Lib.hid hm'
    clear hs1 hs2 hx hn hm'
    go_wp2
    go_loopw [9] (fun i wr => ∃ k : Nat, k ≤ n ∧ k ≤ m ∧ i = .int .i64 k ∧ Hid (overlap (lf.drop k) (lg.drop k) = x) ∧ Hid (StrsAt wr g1 0 lf) ∧ Hid (StrsAt wr g2 0 lg) ∧ Below w.heap.size w wr) (fun i _ => n - (intOf i).toNat)
    case atStart => exact ⟨0, Nat.zero_le _, Nat.zero_le _, rfl, HX, HF, HG, hb⟩
    case round =>
      clear HF HG hb
      obtain ⟨k, hk, hkm, rfl, HK, HF, HG, hb⟩ := hrel
      by_cases c1 : k = n
      · have hend := overlap_end lf lg k (by rw [HN.out]; exact hk) (by rw [HM.out]; exact hkm) (.inl (by rw [HN.out]; exact c1))
        rw [HK.out, HN.out, HM.out] at hend
        have HE := Lib.hid hend; clear hend
        have d1 : ((k : Int) == (n : Int)) = true := by simp [c1]
        clear c1
        go_wp2
        go_ret2
        refine ⟨?_, hb⟩
        rw [HE.out]
        show Ending.returned (.tuple #[.bool _, _]) = Ending.returned (.tuple #[.bool _, _])
        rw [show ((n : Int) == (m : Int)) = decide (n = m) by rw [Bool.eq_iff_iff]; simp; omega]; rfl
      · have d1 : ((k : Int) == (n : Int)) = false := by simp; omega
        have hkn : k < n := by omega
        clear c1
        by_cases c2 : k = m
        · have hend := overlap_end lf lg k (by rw [HN.out]; exact hk) (by rw [HM.out]; exact hkm) (.inr (by rw [HM.out]; exact c2))
          rw [HK.out, HN.out, HM.out] at hend
          have HE := Lib.hid hend; clear hend
          have d2 : ((k : Int) == (m : Int)) = true := by simp [c2]
          clear c2
          go_wp2
          go_ret2
          refine ⟨?_, hb⟩
          rw [HE.out]
          show Ending.returned (.tuple #[.bool _, _]) = Ending.returned (.tuple #[.bool _, _])
          rw [show ((n : Int) == (m : Int)) = decide (n = m) by rw [Bool.eq_iff_iff]; simp; omega]; rfl
        · have d2 : ((k : Int) == (m : Int)) = false := by simp; omega
          have hkm' : k < m := by omega
          clear c2
          have hstep := overlap_step lf lg k (by rw [HN.out]; exact hkn) (by rw [HM.out]; exact hkm')
          rw [HK.out] at hstep
          have hc1 := HF.out k (by rw [HN.out]; exact hkn)
          have hc2 := HG.out k (by rw [HM.out]; exact hkm')
          rw [Nat.zero_add] at hc1 hc2
          have l1 := strAt_toList lf k
          have l2 := strAt_toList lg k
          generalize strAt lf k = p at *
          generalize strAt lg k = q at *
          rw [← l1, ← l2] at hstep
          clear l1 l2
          have HS := Lib.hid hstep; clear hstep
          have hnext : ∀ d, overlap (List.drop (k + 1) lf) (List.drop (k + 1) lg) = x → ∃ k' : Nat, k' ≤ n ∧ k' ≤ m ∧ Value.int .i64 ((k : Int) + 1) = .int .i64 k' ∧ Hid (overlap (lf.drop k') (lg.drop k') = x) ∧ Hid (StrsAt (World.drewN wr d) g1 0 lf) ∧ Hid (StrsAt (World.drewN wr d) g2 0 lg) ∧ Below w.heap.size w (World.drewN wr d) := fun d h => ⟨k + 1, by omega, by omega, by go_num, h, HF.out, HG.out, below_drewN hb d⟩
          have HX2 := Lib.hid hnext; clear hnext
          by_cases x1 : p.toList = [62]
          · have bx1 : (p.toList == [62]) = true := by simp [x1]
            clear x1
            have B := HS.out
            simp only [bx1, Bool.true_or, if_true] at B
            have HB := Lib.hid B; clear B
            go_wp2
            go_ret2
            exact ⟨by rw [HB.out]; rfl, hb⟩
          · have bx1 : (p.toList == [62]) = false := by simp [x1]
            clear x1
            by_cases x2 : q.toList = [62]
            · have bx2 : (q.toList == [62]) = true := by simp [x2]
              clear x2
              have B := HS.out
              simp only [bx1, bx2, Bool.or_true, if_true] at B
              have HB := Lib.hid B; clear B
              go_wp2
              go_ret2
              exact ⟨by rw [HB.out]; rfl, hb⟩
            · have bx2 : (q.toList == [62]) = false := by simp [x2]
              clear x2
              by_cases x3 : p.toList = q.toList
              · have bx3 : (p.toList == q.toList) = true := by simp [x3]
                clear x3
                have B := HS.out
                simp only [bx1, bx2, bx3, Bool.true_or, Bool.or_false, Bool.false_eq_true, if_false, Bool.true_and] at B
                have HB := Lib.hid B.symm; clear B
                go_wp2
                go_quiet (fail)
                go_wp2
                exact ⟨HX2.out _ HB.out, by simp [intOf]; omega⟩
              · have bx3 : (p.toList == q.toList) = false := by simp [x3]
                clear x3
                by_cases x4 : p.toList = [42]
                · have bx4 : (p.toList == [42]) = true := by simp [x4]
                  clear x4
                  have B := HS.out
                  simp only [bx1, bx2, bx3, bx4, Bool.true_or, Bool.or_true, Bool.or_false, Bool.false_eq_true, if_false, Bool.true_and] at B
                  have HB := Lib.hid B.symm; clear B
                  go_wp2
                  go_quiet (fail)
                  go_wp2
                  exact ⟨HX2.out _ HB.out, by simp [intOf]; omega⟩
                · have bx4 : (p.toList == [42]) = false := by simp [x4]
                  clear x4
                  by_cases x5 : q.toList = [42]
                  · have bx5 : (q.toList == [42]) = true := by simp [x5]
                    clear x5
                    have B := HS.out
                    simp only [bx1, bx2, bx3, bx4, bx5, Bool.or_true, Bool.or_false, Bool.false_eq_true, if_false, Bool.true_and] at B
                    have HB := Lib.hid B.symm; clear B
                    go_wp2
                    go_quiet (fail)
                    go_wp2
                    exact ⟨HX2.out _ HB.out, by simp [intOf]; omega⟩
                  · have bx5 : (q.toList == [42]) = false := by simp [x5]
                    clear x5
                    have B := HS.out
                    simp only [bx1, bx2, bx3, bx4, bx5, Bool.or_false, Bool.false_eq_true, if_false, Bool.false_and] at B
                    have HB := Lib.hid B; clear B
                    go_wp2
                    go_quiet (fail)
                    go_wp2
                    go_ret2
                    exact ⟨by rw [HB.out]; rfl, below_drewN hb _⟩
  · have h0' : ((er : Int) == 0) = false := by simp; omega
    have hr : r = (false, er) := by rw [← HR.out]; simp [h0]
    have HRR := Lib.hid hr
    clear hr h0
    go_wp2
    go_ret2
    exact ⟨by rw [HRR.out]; rfl, hb⟩

end Go.Proofs.YtbgchhgdlceceaaGreatDoor.Subj
