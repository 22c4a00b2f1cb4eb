/- Parts of the proof, joined: rillref.takes, walked by its own recursion; Takes. -/
import Derived.Test.YthhgfdeegnimjaaGreatDoorConsumerPlaysUptoM4
import Derived.Test.YthhgfdeegnimjaaGreatDoorConsumerPlaysUptoM5
import Derived.Deep.QuietTactic
import Derived.BigQuiet
namespace Go.Proofs.YthhgfdeegnimjaaGreatDoor.Subj
open Go.RowKit

theorem Strs.cons {w : World} {v : Value} {x : Tok} {l : List Tok} (h : Strs w v (x :: l)) :
    ∃ g off cap, v = .slice (some ⟨g, off, none⟩) (l.length + 1) cap ∧ l.length + 1 ≤ cap ∧ w.cell? ⟨g, off, none⟩ = some (.string ⟨x.toArray⟩) ∧
      Strs w (.slice (if cap = 1 then some ⟨g, off, none⟩ else some ⟨g, off + 1, none⟩) l.length (cap - 1)) l := by
  obtain ⟨ao, cap, rfl, hc, ha⟩ := h
  obtain ⟨g, off, rfl, hs⟩ := ha (by simp)
  refine ⟨g, off, cap, rfl, by simpa using hc, ?_, ⟨_, cap - 1, rfl, by simp at hc; omega, fun hne => ⟨g, off + 1, ?_, hs.tail⟩⟩⟩
  · have := hs 0 (by simp)
    simpa [strAt] using this
  · have := List.length_pos_iff.2 hne
    simp at hc
    rw [if_neg (by omega)]

theorem Strs.nil {w : World} {v : Value} (h : Strs w v []) : ∃ ao cap, v = .slice ao 0 cap := by
  obtain ⟨ao, cap, rfl, _, _⟩ := h
  exact ⟨ao, cap, rfl⟩

theorem Strs.drewN {w : World} {v : Value} {l : List Tok} (h : Strs w v l) (n : Nat) : Strs (w.drewN n) v l := h
theorem Strs.below {w w' : World} {v : Value} {l : List Tok} (h : Strs w v l) (hb : Below w.heap.size w w') : Strs w' v l := by
  obtain ⟨ao, cap, rfl, hc, ha⟩ := h
  exact ⟨ao, cap, rfl, hc, fun hne => let ⟨g, off, e, hs⟩ := ha hne; ⟨g, off, e, hs.below hb⟩⟩
theorem Strs.own {w : World} {base n : Nat} {v : Value} {l : List Tok} (h : w.ownsRow base 9 1 v n (strsV l)) : Strs w v l := by
  have hn : l.length = n := by have := h.1; simpa [strsV_len] using this
  subst hn
  have h0 := h
  rcases h.2 with ⟨rfl, e⟩ | ⟨g, cap, cur, rfl, _, _, hle, _⟩
  · exact ⟨none, 0, by rw [e], by omega, fun hne => absurd (List.eq_nil_of_length_eq_zero e) hne⟩
  · exact ⟨_, cap, rfl, hle, fun _ => ⟨g, 0, rfl, fun i hi => by rw [Nat.zero_add, h0.cellAt i (by omega), strsV_get _ _ hi]⟩⟩

theorem nat_beq_zero (n : Nat) : ((n : Int) == 0) = decide (n = 0) := by
  rw [Bool.eq_iff_iff]; simp
theorem bytes_toList (x : Tok) : (ByteArray.mk x.toArray).toList = x := by
  rw [ByteArray.toList_eq]

/-- A call that answers a Bool; it may have drawn. -/
def QBool (w : World) (b : Bool) (e : Ending) (w' : World) : Prop := e = .returned (.bool b) ∧ ∃ n, w' = w.drewN n

set_option maxHeartbeats 1000000 in
set_option maxRecDepth 100000 in
theorem takes_ref (f : List Tok) : ∀ (s : List Tok) (vf vs : Value) (w : World), f.length ≤ maxLen → s.length ≤ maxLen → Strs w vf f → Strs w vs s →
    Calls Tryz.prog 155 #[vf, vs] w (QBool w (takes f s)) := by
  induction f with
  | nil =>
    intro s vf vs w h1 h2 hf hs
    obtain ⟨ao, cap, rfl⟩ := hf.nil
    obtain ⟨bo, cap', rfl, _, _⟩ := hs
    have hr : takes [] s = decide (s.length = 0) := by simp [takes]; cases s <;> simp
    rw [hr]
    generalize s.length = n at *
    go_enter Tryz.func155, Tryz.ntmps155
    go_wp2_with fail
    go_ret
    exact ⟨ret_bool (nat_beq_zero n), 0, rfl⟩
  | cons x f ih =>
    intro s vf vs w h1 h2 hf hs
    obtain ⟨gf, of, cf, rfl, hcf, hxf, hf'⟩ := hf.cons
    have hpx := bytes_toList x
    generalize (⟨x.toArray⟩ : ByteArray) = p at *
    simp only [List.length_cons] at h1
    cases s with
    | nil =>
      obtain ⟨bo, cap', rfl⟩ := hs.nil
      have hr : takes (x :: f) [] = false := by simp [takes]
      rw [hr]
      clear hf hf' hs ih h2 hpx
      go_enter Tryz.func155, Tryz.ntmps155
      go_wp2_with fail
      · go_ret
        exact ⟨rfl, 0, rfl⟩
      · go_quiet (fail)
        go_wp2
        go_ret
        exact ⟨rfl, _, rfl⟩
    | cons z s =>
      obtain ⟨gs, os, cs, rfl, hcs, hzs, hs'⟩ := hs.cons
      have hqz := bytes_toList z
      generalize (⟨z.toArray⟩ : ByteArray) = q at *
      simp only [List.length_cons] at h2
      have HC := Lib.hid fun n => ih s _ _ (w.drewN n) (by omega) (by omega) (hf'.drewN n) (hs'.drewN n)
      have hr : takes (x :: f) (z :: s) = if (p.toList == [62]) then true else ((p.toList == [42]) || (p.toList == q.toList)) && takes f s := by rw [hpx, hqz]; rfl
      rw [hr]
      generalize takes f s = r at *
      generalize f.length = n at *
      generalize s.length = m at *
      clear hf hf' hs hs' ih hr hpx hqz
      unfold maxLen at h1 h2
      have n0 : ((n : Int) + 1 == 0) = false := by simp; omega
      have m0 : ((m : Int) + 1 == 0) = false := by simp; omega
      cases h0 : (p.toList == [62])
      · cases h1 : (p.toList == [42])
        · cases h2 : (p.toList == q.toList)
          all_goals
            go_enter Tryz.func155, Tryz.ntmps155
            go_wp2_with fail
            first
              | (go_ret; exact ⟨rfl, 0, rfl⟩)
              | (go_quiet ((go_at_call 155; exact Calls.quiet_of (HC.out _)))
                 go_wp2
                 all_goals (go_ret; exact ⟨rfl, _, rfl⟩))
        · all_goals
            go_enter Tryz.func155, Tryz.ntmps155
            go_wp2_with fail
            first
              | (go_ret; exact ⟨rfl, 0, rfl⟩)
              | (go_quiet ((go_at_call 155; exact Calls.quiet_of (HC.out _)))
                 go_wp2
                 all_goals (go_ret; exact ⟨rfl, _, rfl⟩))
      · all_goals
          go_enter Tryz.func155, Tryz.ntmps155
          go_wp2_with fail
          first
            | (go_ret; exact ⟨rfl, 0, rfl⟩)
            | (go_quiet ((go_at_call 155; exact Calls.quiet_of (HC.out _)))
               go_wp2
               all_goals (go_ret; exact ⟨rfl, _, rfl⟩))

set_option maxRecDepth 100000 in
theorem takesS_ref (f s : ByteArray) (w : World) (hf : f.size ≤ 1048576) (hs : s.size ≤ 1048576) :
    Calls Tryz.prog 57 #[.string f, .string s] w fun e w' => e = .returned (.bool (takes (pieces f.data.toList) (pieces s.data.toList))) ∧ Below w.heap.size w w' := by
  have hl1 := pieces_size f hf
  have hl2 := pieces_size s hs
  have H1 := Lib.hid fun w => pieces_any f w hf
  have H2 := Lib.hid fun w => pieces_any s w hs
  have HC := Lib.hid fun vf vs w => takes_ref (pieces f.data.toList) (pieces s.data.toList) vf vs w (by unfold maxLen; omega) (by unfold maxLen; omega)
  clear hl1 hl2
  generalize pieces f.data.toList = lf at *
  generalize pieces s.data.toList = ls at *
  generalize takes lf ls = r at *
  go_enter Tryz.func57, Tryz.ntmps57
  go_wp2_with fail
  refine (H1.out _).mono ?_
  rintro e w1 ⟨v1, rfl, ho1, hb1⟩
  have HS1 := Lib.hid (Strs.own ho1); clear ho1
  go_wp2_with fail
  refine (H2.out _).mono ?_
  rintro e w2 ⟨v2, rfl, ho2, hb2⟩
  have HS2 := Lib.hid (Strs.own ho2); clear ho2
  have hbb := hb1.trans (hb2.mono hb1.size)
  have HS3 := Lib.hid (HS1.out.below hb2)
  go_wp2_with fail
  refine (HC.out _ _ _ HS3.out HS2.out).mono ?_
  rintro e w3 ⟨rfl, n, rfl⟩
  go_wp2
  go_ret
  exact ⟨rfl, below_drewN hbb _⟩

end Go.Proofs.YthhgfdeegnimjaaGreatDoor.Subj
