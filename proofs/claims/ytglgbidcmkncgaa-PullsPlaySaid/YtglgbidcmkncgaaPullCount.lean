/- The law PullsCount, walked: it returns true. -/
import Derived.Test.YtglgbidcmkncgaaPullQueue
namespace Go.Proofs.Ytglgbidcmkncgaa.Pull
open Go.RowKit Heap

/-- The queue at q holds l; it and its array were made behind W, of which nothing has turned. -/
def Q (W : World) (q : Nat) (l : List Pl) (w : World) : Prop :=
  ∃ v, Rep 65 w q v l ∧ Good l ∧ (∀ k, foot q v k → W.heap.size ≤ k) ∧ Below W.heap.size W w

theorem Q.next {W w w' : World} {q : Nat} {v : Value} {l' : List Pl} {r e : Ending} (hg : Good l') (hf : ∀ k, foot q v k → W.heap.size ≤ k) (hb : Below W.heap.size W w) (h : Does 65 q v l' r w e w') : e = r ∧ Q W q l' w' := by
  obtain ⟨he, v', hr, ht, ho⟩ := h
  refine ⟨he, v', hr, hg, ?_, hb.trans (ht.below hb.size hf)⟩
  rintro k (rfl | hk)
  · exact hf _ (.inl rfl)
  · rcases ho k hk with hx | hx
    · exact hf k (.inr hx)
    · exact Nat.le_trans hb.size hx

def Ret (W : World) (q : Nat) (l' : List Pl) (r : Value) (e : Ending) (w' : World) : Prop := e = .returned r ∧ Q W q l' w'

theorem ask_q {W w : World} {q : Nat} {l : List Pl} (now : Int) (p : Pl) (h : Q W q l w) :
    Calls Try.prog 8 #[.pointer (some ⟨q, 0, none⟩), .int .i64 now, .agg #[.int .i64 p.batch, .int .i64 p.till, .bool p.nowait]] w (Ret W q (askL now p l).2 (.int .i64 ((askL now p l).1 : Nat))) := by
  obtain ⟨v, hr, hg, hf, hb⟩ := h
  exact (ask_any q v l now p w hr hg).mono fun e w' hd => Q.next (ask_good hg) hf hb hd

theorem take_q {W w : World} {q : Nat} {l : List Pl} (now : Int) (h : Q W q l w) :
    Calls Try.prog 9 #[.pointer (some ⟨q, 0, none⟩), .int .i64 now] w (Ret W q (takeL now l).2 (.tuple #[.bool (takeL now l).1.1, .int .i64 ((takeL now l).1.2 : Nat)])) := by
  obtain ⟨v, hr, hg, hf, hb⟩ := h
  exact (take_any q v l now w hr hg).mono fun e w' hd => Q.next (take_good hg) hf hb hd

theorem waits_q {W w : World} {q : Nat} {l : List Pl} (now : Int) (h : Q W q l w) :
    Calls Try.prog 10 #[.pointer (some ⟨q, 0, none⟩), .int .i64 now] w (Ret W q (waitsL now l).2 (.tuple #[.int .i64 ((waitsL now l).1.1 : Nat), .int .i64 ((waitsL now l).1.2 : Nat)])) := by
  obtain ⟨v, hr, hg, hf, hb⟩ := h
  exact (waits_any q v l now w hr (by have := hg.1; omega)).mono fun e w' hd => Q.next (waits_good hg) hf hb hd

theorem new_q (W w : World) (hb : Below W.heap.size W w) : Calls Try.prog 7 #[] w (Ret W w.heap.size [] (.pointer (some ⟨w.heap.size, 0, none⟩))) := by
  have HB := Lib.hid hb
  clear hb
  go_enter Try.func7, Try.ntmps7
  go_wp2
  go_returns
  refine ⟨rfl, .slice none 0 0, ⟨heap_alloc_new w _, Row.nil _ _ _, by simp [own, Value.ownBlock]⟩, Good.nil, ?_, HB.out.alloc HB.out.size _⟩
  rintro k (rfl | hk)
  · exact HB.out.size
  · simp [own, Value.ownBlock] at hk

set_option maxRecDepth 100000 in
theorem full_q {W w : World} {q : Nat} {l : List Pl} (now : Int) (e8 : Nat) (hn : bad now = false) (he : endless l) (h : Q W q l w) :
    Calls Try.prog 11 #[.pointer (some ⟨q, 0, none⟩), .int .i64 now, .int .i64 (e8 : Nat)] w (Ret W q l (.bool (e8 == 8 && l.length == 10))) := by
  have hw := waits_q now h
  unfold waitsL at hw
  rw [hn, if_neg (by decide), left_endless he] at hw
  have HW := Lib.hid hw
  clear hw h
  by_cases h8 : e8 = 8
  · subst h8
    go_enter Try.func11, Try.ntmps11
    go_wp2_with fail
    refine HW.out.mono ?_
    rintro e w' ⟨rfl, hq⟩
    go_wp2
    go_returns
    refine ⟨?_, hq⟩
    exact ret_bool (by rw [Bool.eq_iff_iff]; simp; omega)
  · have h8' : ((e8 : Int) == 8) = false := beq_eq_false_iff_ne.2 (by omega)
    go_enter Try.func11, Try.ntmps11
    go_wp2_with fail
    refine HW.out.mono ?_
    rintro e w' ⟨rfl, hq⟩
    go_wp2
    go_returns
    exact ⟨ret_bool (by simp [h8]), hq⟩

/-- One asked for, as the law judges it. -/
theorem ask_cases (now b : Int) (nw : Bool) {l : List Pl} (hn : bad now = false) (h : Good l) (he : endless l) :
    ∃ (r : Nat) (l1 : List Pl), (askL now ⟨b, 0, nw⟩ l).1 = r ∧ (askL now ⟨b, 0, nw⟩ l).2 = l1 ∧ Good l1 ∧ endless l1 ∧ total l1 ≤ 500 ∧ 0 ≤ total l1 ∧
      ((r = 0 ∧ 1 ≤ b ∧ b ≤ 50 ∧ total l < 500 ∧ total l1 = total l + b) ∨ (r = 1 ∧ b < 1 ∧ l1 = l) ∨ (r = 1 ∧ 50 < b ∧ 1 ≤ b ∧ l1 = l) ∨ (r = 8 ∧ 1 ≤ b ∧ b ≤ 50 ∧ 500 ≤ total l ∧ l1 = l) ∨ (r = 8 ∧ 1 ≤ b ∧ b ≤ 50 ∧ total l < 500 ∧ l1 = l ∧ l.length = 10)) := by
  have hg := ask_good (now := now) (p := ⟨b, 0, nw⟩) h
  have hb1 := total_bounds h
  have hb2 := total_bounds hg
  have h10 := hg.1
  have h10' := h.1
  refine ⟨_, _, rfl, rfl, hg, ?_, by omega, by omega, ?_⟩
  · rcases ask_total (b := b) (nw := nw) hn h he with ⟨_, _, _, _, _, h1⟩ | ⟨_, _, h1⟩ | ⟨_, h1, _⟩
    · exact h1
    · rw [h1]; exact he
    · rw [h1]; exact he
  · rcases ask_total (b := b) (nw := nw) hn h he with ⟨h0, h1, h2, h3, h4, _⟩ | ⟨h0, h1, h2⟩ | ⟨h0, h1, h2⟩
    · exact .inl ⟨h0, h1, h2, h3, h4⟩
    · by_cases hb : b < 1
      · exact .inr (.inl ⟨h0, hb, h2⟩)
      · exact .inr (.inr (.inl ⟨h0, by omega, by omega, h2⟩))
    · have hb : 1 ≤ b ∧ b ≤ 50 := by
        refine Decidable.byContradiction fun hn' => ?_
        have : (askL now ⟨b, 0, nw⟩ l).1 = 1 := by
          unfold askL
          rw [if_pos]
          simp only
          omega
        omega
      by_cases ht : 500 ≤ total l
      · exact .inr (.inr (.inr (.inl ⟨h0, hb.1, hb.2, ht, h1⟩)))
      · exact .inr (.inr (.inr (.inr ⟨h0, hb.1, hb.2, by omega, h1, h2⟩)))

theorem first_ask : askL 1 ⟨2, 5, false⟩ [] = (0, [⟨2, 5, false⟩]) := by rfl
theorem first_take : takeL 4 [⟨2, 5, false⟩] = ((true, 0), [⟨1, 5, false⟩]) := by rfl
theorem first_waits : waitsL 5 [⟨1, 5, false⟩] = ((0, 0), []) := by rfl

def RetB (W : World) (b : Bool) (e : Ending) (w' : World) : Prop := e = .returned (.bool b) ∧ Below W.heap.size W w'
theorem Q.ret {W w : World} {q : Nat} {l : List Pl} (h : Q W q l w) : Below W.heap.size W w := by
  obtain ⟨v, _, _, _, hb⟩ := h
  exact hb

set_option maxHeartbeats 8000000 in
set_option maxRecDepth 100000 in
theorem pullsCount_walk (ao : Option Addr) (n cap : Nat) (f : Nat → Int) (now : Int) (W : World) (hcap : n ≤ cap)
    (hao : n ≠ 0 → ∃ b off, ao = some ⟨b, off, none⟩ ∧ ∀ i, i < n → W.cell? ⟨b, off + i, none⟩ = some (.int .i64 (f i))) :
    Calls Try.prog 3 #[.slice ao n cap, .int .i64 now] W (RetB W true) := by
  have c1 := new_q W W (Below.refl _ _)
  have c2 : ∀ w, Q W W.heap.size [] w → _ := fun w hq => ask_q 1 ⟨2, 5, false⟩ hq
  have c3 : ∀ w, Q W W.heap.size [⟨2, 5, false⟩] w → _ := fun w hq => take_q 4 hq
  have c4 : ∀ w, Q W W.heap.size [⟨1, 5, false⟩] w → _ := fun w hq => waits_q 5 hq
  rw [first_ask] at c2
  rw [first_take] at c3
  rw [first_waits] at c4
  have C1 := Lib.hid c1; have C2 := Lib.hid c2; have C3 := Lib.hid c3; have C4 := Lib.hid c4
  clear c1 c2 c3 c4
  have HAO := Lib.hid hao
  clear hao
  go_enter Try.func3, Try.ntmps3
  go_wp2_with fail
  refine C1.out.mono ?_
  rintro e w1 ⟨rfl, q1⟩
  go_wp2_with fail
  refine (C2.out _ q1).mono ?_
  rintro e w2 ⟨rfl, q2⟩
  go_wp2_with fail
  refine (C3.out _ q2).mono ?_
  rintro e w3 ⟨rfl, q3⟩
  go_wp2_with fail
  refine (C4.out _ q3).mono ?_
  rintro e w4 ⟨rfl, q4⟩
  clear C1 C2 C3 C4 q1 q2 q3
  by_cases h1 : now < 0
  · go_wp2
    go_returns
    exact ⟨rfl, q4.ret⟩
  by_cases h2 : 1099511627776 < now
  · go_wp2
    go_returns
    exact ⟨rfl, q4.ret⟩
  by_cases h3 : (20 : Int) < n
  · go_wp2
    go_returns
    exact ⟨rfl, q4.ret⟩
  have hn : bad now = false := by unfold bad farT; simp [h1, h2]
  go_wp2_with fail
  have HBAD := Lib.hid hn
  have Q4 := Lib.hid q4
  clear hn q4
  go_loopw [57, 10, 11, 12, 13] (fun iv tv _ _ _ wr => ∃ (k : Nat) (l : List Pl), k ≤ n ∧ iv = .int .i64 k ∧ tv = .int .i64 (total l) ∧ total l ≤ 500 ∧ 0 ≤ total l ∧ Hid (endless l) ∧ Hid (Q W W.heap.size l wr)) (fun iv _ _ _ _ _ => n - (intOf iv).toNat)
  case atStart => exact ⟨0, [], Nat.zero_le _, rfl, rfl, by decide, by decide, Lib.hid (fun p hp => by cases hp), Q4⟩
  case round =>
    obtain ⟨k, l, hk, rfl, rfl, ht1, ht0, HE, QL⟩ := hrel
    by_cases hlt : k < n
    · have hltz : (k : Int) < (n : Int) := by omega
      obtain ⟨b, off, rfl, hcells⟩ := HAO.out (by omega)
      have hcell : wr.cell? ⟨b, off + k, none⟩ = some (.int .i64 (f k)) := by
        have h0 := hcells k hlt
        rw [QL.out.ret.cell (World.block_lt_of_cell? W _ h0)]
        exact h0
      clear hcells
      generalize f k = x at hcell
      obtain ⟨v, _, hg, _, _⟩ := QL.out
      have HG := Lib.hid hg
      clear hg
      go_wp2_with fail
      generalize ((k : Int) % 2 == 1) = nw
      have hask := ask_q now ⟨x, 0, nw⟩ QL.out
      obtain ⟨r, l1, hr, hl1, hg1, he1, hle1, hge1, hcs⟩ := ask_cases now x nw HBAD.out HG.out HE.out
      rw [hr, hl1] at hask
      have HE1 := Lib.hid he1; have HG1 := Lib.hid hg1; have HA := Lib.hid hask
      clear hr hl1 hg1 he1 hask
      rcases hcs with ⟨rfl, y1, y2, y3, y4⟩ | ⟨rfl, y1, rfl⟩ | ⟨rfl, y1, y2, rfl⟩ | ⟨rfl, y1, y2, y3, rfl⟩ | ⟨rfl, y1, y2, y3, rfl, y4⟩
      · refine HA.out.mono ?_
        rintro e w5 ⟨rfl, q5⟩
        have Q5 := Lib.hid q5
        have hf := full_q now 0 HBAD.out HE1.out q5
        have HF := Lib.hid hf
        clear q5 HA hf
        go_wp2_with fail
        refine HF.out.mono ?_
        rintro e w6 ⟨rfl, q6⟩
        have Q6 := Lib.hid q6
        clear q6 HF
        go_wp2
        exact ⟨⟨k + 1, l1, by omega, by go_num, by rw [y4], hle1, hge1, HE1, Q6⟩, by simp [intOf]; omega⟩
      · refine HA.out.mono ?_
        rintro e w5 ⟨rfl, q5⟩
        have Q5 := Lib.hid q5
        clear q5 HA
        go_wp2
        exact ⟨⟨k + 1, l1, by omega, by go_num, rfl, hle1, hge1, HE1, Q5⟩, by simp [intOf]; omega⟩
      · refine HA.out.mono ?_
        rintro e w5 ⟨rfl, q5⟩
        have Q5 := Lib.hid q5
        clear q5 HA
        go_wp2
        exact ⟨⟨k + 1, l1, by omega, by go_num, rfl, hle1, hge1, HE1, Q5⟩, by simp [intOf]; omega⟩
      · refine HA.out.mono ?_
        rintro e w5 ⟨rfl, q5⟩
        have Q5 := Lib.hid q5
        clear q5 HA
        go_wp2
        exact ⟨⟨k + 1, l1, by omega, by go_num, rfl, hle1, hge1, HE1, Q5⟩, by simp [intOf]; omega⟩
      · refine HA.out.mono ?_
        rintro e w5 ⟨rfl, q5⟩
        have Q5 := Lib.hid q5
        have hf := full_q now 8 HBAD.out HE1.out q5
        rw [y4] at hf
        have HF := Lib.hid hf
        clear q5 HA hf
        go_wp2_with fail
        refine HF.out.mono ?_
        rintro e w6 ⟨rfl, q6⟩
        have Q6 := Lib.hid q6
        clear q6 HF
        go_wp2
        exact ⟨⟨k + 1, l1, by omega, by go_num, rfl, hle1, hge1, HE1, Q6⟩, by simp [intOf]; omega⟩
    · have hltz : ¬ (k : Int) < (n : Int) := by omega
      obtain rfl : k = n := by omega
      clear HAO Q4
      go_wp2_with fail
      generalize htl : total l = want at ht1 ht0 ⊢
      have HTL := Lib.hid htl
      clear htl hk hlt hltz
      go_loopw [96, 14, 15, 16] (fun iv nv _ _ wr => ∃ (i : Nat) (m : List Pl), i ≤ 600 ∧ iv = .int .i64 i ∧ nv = .int .i64 i ∧ total m + i = want ∧ 0 ≤ total m ∧ Hid (endless m) ∧ Hid (Q W W.heap.size m wr)) (fun iv _ _ _ _ => 600 - (intOf iv).toNat)
      case atStart => exact ⟨0, l, by omega, rfl, rfl, by rw [HTL.out]; simp, by rw [HTL.out]; exact ht0, HE, QL⟩
      case round =>
        obtain ⟨i, m, hi, rfl, rfl, hw, hm0, HM, QM⟩ := hrel
        clear HE QL HTL
        have hi6 : (i : Int) < 600 := by omega
        have htk := take_q now QM.out
        obtain ⟨v, _, hg, _, _⟩ := QM.out
        have hcs := take_total HBAD.out hg HM.out
        have hg1 := take_good (now := now) hg
        have hb1 := total_bounds hg1
        generalize ht2 : (takeL now m).2 = m2 at *
        generalize ht1' : (takeL now m).1 = a2 at *
        obtain ⟨a2, b2⟩ := a2
        simp only at htk hcs
        rcases hcs with ⟨e1, rfl, rfl⟩ | ⟨e1, h3', h4', h5'⟩
        · simp only [Prod.mk.injEq] at e1
          obtain ⟨rfl, rfl⟩ := e1
          have HT := Lib.hid htk
          clear htk hg1 hb1 ht2 ht1' hg
          go_wp2_with fail
          refine HT.out.mono ?_
          rintro e w7 ⟨rfl, q7⟩
          have hwant : (i : Int) = want := by rw [← hw]; simp [total]
          subst hwant
          have hq := q7.ret
          go_wp2
          go_returns
          exact ⟨rfl, hq⟩
        · simp only [Prod.mk.injEq] at e1
          obtain ⟨rfl, rfl⟩ := e1
          have HT := Lib.hid htk
          have H4 := Lib.hid h4'
          have h6' : (m2.length : Int) ≤ total m2 := hb1.1
          clear htk hg1 hb1 ht2 ht1' hg
          go_wp2_with fail
          refine HT.out.mono ?_
          rintro e w7 ⟨rfl, q7⟩
          have Q7 := Lib.hid q7
          clear q7 HT
          go_wp2
          exact ⟨⟨i + 1, m2, by omega, by go_num, by go_num, by omega, by omega, H4, Q7⟩, by simp [intOf]; omega⟩

end Go.Proofs.Ytglgbidcmkncgaa.Pull
