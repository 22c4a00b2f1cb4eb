/- The document's row of pulls, walked: its five functions. -/
import Derived.Test.YtglgbidcmkncgaaPullCount
namespace Go.Proofs.Ytglgbidcmkncgaa.Pull
open Go.RowKit Heap

theorem in_any (n lo hi : Int) (w : World) :
    Calls Try.prog 24 #[.int .i64 n, .int .i64 lo, .int .i64 hi] w fun e w' => e = .returned (.bool (decide (lo ≤ n) && decide (n ≤ hi))) ∧ w' = w := by
  by_cases h1 : lo ≤ n
  · have d1 : decide (lo ≤ n) = true := by simp [h1]
    rw [d1]
    go_enter Try.func24, Try.ntmps24
    go_wp2
    go_ret
    all_goals exact ⟨by simp, rfl⟩
  · have d1 : decide (lo ≤ n) = false := by simp [h1]
    rw [d1]
    go_enter Try.func24, Try.ntmps24
    go_wp2
    go_ret
    all_goals exact ⟨by simp, rfl⟩

theorem in_time (now : Int) (w : World) :
    Calls Try.prog 24 #[.int .i64 now, .int .i64 0, .int .i64 1099511627776] w fun e w' => e = .returned (.bool (!bad now)) ∧ w' = w := by
  refine (in_any now 0 1099511627776 w).mono ?_
  rintro e w' ⟨rfl, h⟩
  refine ⟨ret_bool ?_, h⟩
  unfold bad farT
  rw [Bool.eq_iff_iff]
  simp

theorem take_snoc {α : Type} {l : List α} {i : Nat} {x : α} (h : l[i]? = some x) : l.take (i + 1) = l.take i ++ [x] := by
  obtain ⟨hi, e⟩ := List.getElem?_eq_some_iff.1 h
  rw [List.take_succ_eq_append_getElem hi, e]

/-- What a loop that makes a new row keeps. -/
def Made (w : World) (v : Value) (L : List Pl) (wr : World) : Prop :=
  Row wr 28 3 v L.length (plsV L) ∧ (∀ k, own v k → w.heap.size ≤ k) ∧ Below w.heap.size w wr

theorem Made.start (w : World) : Made w (.slice none 0 0) [] w := ⟨Row.nil _ _ _, fun k hk => by simp [own, Value.ownBlock] at hk, Below.refl _ _⟩

theorem Made.next {w wr w' : World} {v v' : Value} {L : List Pl} {x : Pl} {o : Obj} (h : Made w v L wr) (hr : Row w' 28 3 v' (L.length + 1) (plsV L ++ cells x)) (ht : Heap.Touch (own v) (wr.alloc o) w') (ho : ∀ k, own v' k → own v k ∨ wr.heap.size + 1 ≤ k) :
    Made w v' (L ++ [x]) w' := by
  obtain ⟨h1, h2, h3⟩ := h
  refine ⟨by rw [List.length_append, plsV_append]; exact hr, fun k hk => ?_, ?_⟩
  · rcases ho k hk with hx | hx
    · exact h2 k hx
    · have := h3.size
      omega
  · have hb := h3.alloc h3.size o
    exact hb.trans (ht.below hb.size h2)

theorem Made.rep {T : TypeId} {w wr : World} {q : Nat} {v u : Value} {l L : List Pl} (h : Made w v L wr) (hr : Rep T w q u l) : Rep T wr q u l := hr.kept fun k _ hk => h.2.2.block k hk

theorem Made.does {T : TypeId} {w wr : World} {q : Nat} {v u : Value} {l L : List Pl} {r : Ending} (h : Made w v L wr) (hr : Rep T w q u l) : Does T q u L r w r (wr.setCell ⟨q, 0, none⟩ v) :=
  Does.puts hr (Heap.Touch.ofBelow h.2.2) h.1 (fun k hk => .inr (h.2.1 k hk))

set_option maxHeartbeats 2000000 in
set_option maxRecDepth 100000 in
theorem rat_any (q : Nat) (v : Value) (l : List Pl) (now : Int) (w : World) (h : Rep 39 w q v l) (hl : l.length ≤ 1000) :
    Calls Try.prog 28 #[.pointer (some ⟨q, 0, none⟩), .int .i64 now] w (Does 39 q v (atL now l) (.returned (.bool (!bad now))) w) := by
  unfold atL
  have hin := in_time now
  have HI := Lib.hid hin
  have H := Lib.hid h
  obtain ⟨i0, hi, hz0, hz1, hz2⟩ := info_parts info_pull
  cases hb : bad now with
  | true =>
    rw [hb] at HI
    rw [if_pos rfl]
    clear h hin
    go_enter Try.func28, Try.ntmps28
    go_wp2_with fail
    refine (HI.out _).mono ?_
    rintro e w' ⟨rfl, rfl⟩
    go_wp2
    go_ret
    exact Does.same H.out (Below.refl _ _)
  | false =>
    rw [hb] at HI
    rw [if_neg (by decide)]
    obtain ⟨n, hn⟩ : ∃ n, l.length = n := ⟨_, rfl⟩
    have HN := Lib.hid hn
    have hn1 : n ≤ 1000 := by omega
    obtain ⟨a0, cap, rfl⟩ := h.row.slice
    rw [hn] at h H ⊢
    have hq : q < w.heap.size := heap_lt h.blk
    obtain ⟨hq0, hqf⟩ := h.cell
    clear h hin hn hl
    go_enter Try.func28, Try.ntmps28
    go_wp2_with fail
    refine (HI.out _).mono ?_
    rintro e w ⟨rfl, rfl⟩
    go_wp2_with fail
    go_loopw [6, 5] (fun iv sv wr => ∃ (i : Nat) (m : Nat), i ≤ n ∧ iv = .int .i64 i ∧ m ≤ i ∧ Hid ((left now (l.take i)).length = m) ∧ Hid (Made w sv (left now (l.take i)) wr)) (fun iv _ _ => n - (intOf iv).toNat)
    case atStart => exact ⟨0, 0, Nat.zero_le _, rfl, Nat.zero_le _, Lib.hid rfl, Lib.hid (Made.start w)⟩
    case round =>
      obtain ⟨i, m, hile, rfl, hmi, HM, MD⟩ := hrel
      obtain ⟨c0, f0⟩ := (MD.out.rep H.out).cell
      by_cases hlt : i < n
      · have hltz : (i : Int) < (n : Int) := by omega
        obtain ⟨x, hx⟩ : ∃ x, l[i]? = some x := ⟨l[i]'(by rw [HN.out]; exact hlt), List.getElem?_eq_getElem (by rw [HN.out]; exact hlt)⟩
        have htk := take_snoc hx
        have hrow := (MD.out.rep H.out).row
        rw [HN.out] at hrow
        rcases hrow.2 with ⟨hnil, h0⟩ | ⟨b, off, cap', cur, he, _⟩
        · omega
        simp only [Value.slice.injEq] at he
        obtain ⟨rfl, _, rfl⟩ := he
        obtain ⟨d0, d1, d2⟩ := cells_pull hrow i x hx hlt
        have hstep : left now (l.take (i + 1)) = if alive now x then left now (l.take i) ++ [x] else left now (l.take i) := by
          rw [htk]
          unfold left
          rw [List.filter_append]
          by_cases hx : alive now x <;> simp [hx]
        have HST := Lib.hid hstep
        obtain ⟨xb, xt, xn⟩ := x
        clear hstep htk hx hrow
        simp only at d0 d1 d2
        by_cases hal : xt = 0
        · have halv : alive now ⟨xb, xt, xn⟩ = true := by unfold alive; simp [hal]
          subst hal
          rw [halv, if_pos rfl] at HST
          have hm1 := MD.out.1
          rw [HM.out] at hm1
          go_wp2_with (at_builtin; refine wpList_append_row _ rfl (.tmp 40) (.tmp 48) 37 rfl 28 i0 _ 3 24 Try.underlying37 hi hz0 hz1 hz2 rfl (by decide) _ m _ rfl (hm1.kept (fun k _ hk => Below.heap_alloc _ _ _ hk)) ⟨wr.heap.size, 0, none⟩ 1 1 (cells ⟨xb, 0, xn⟩) rfl rfl (news_alloc wr ⟨xb, 0, xn⟩ _) (by simp [cells, Value.oneCell']) (by unfold maxLen; omega) (by omega) ?_)
          intro v2 w2 r2 t2 o2
          have R2 := Lib.hid r2; have T2 := Lib.hid t2; have O2 := Lib.hid o2
          clear r2 t2 o2
          go_wp2_with fail
          exact ⟨⟨i + 1, m + 1, by omega, by go_num, by omega, by rw [HST.out, List.length_append, HM.out]; exact Lib.hid rfl, by rw [HST.out]; exact Lib.hid (Made.next MD.out (by rw [HM.out]; exact R2.out) T2.out O2.out)⟩, by simp [intOf]; omega⟩
        · have hal' : (xt == 0) = false := beq_eq_false_iff_ne.2 hal
          by_cases hgt : now < xt
          · have halv : alive now ⟨xb, xt, xn⟩ = true := by unfold alive; simp [hgt]
            rw [halv, if_pos rfl] at HST
            have hm1 := MD.out.1
            rw [HM.out] at hm1
            go_wp2_with (at_builtin; refine wpList_append_row _ rfl (.tmp 40) (.tmp 48) 37 rfl 28 i0 _ 3 24 Try.underlying37 hi hz0 hz1 hz2 rfl (by decide) _ m _ rfl (hm1.kept (fun k _ hk => Below.heap_alloc _ _ _ hk)) ⟨wr.heap.size, 0, none⟩ 1 1 (cells ⟨xb, xt, xn⟩) rfl rfl (news_alloc wr ⟨xb, xt, xn⟩ _) (by simp [cells, Value.oneCell']) (by unfold maxLen; omega) (by omega) ?_)
            intro v2 w2 r2 t2 o2
            have R2 := Lib.hid r2; have T2 := Lib.hid t2; have O2 := Lib.hid o2
            clear r2 t2 o2
            go_wp2_with fail
            exact ⟨⟨i + 1, m + 1, by omega, by go_num, by omega, by rw [HST.out, List.length_append, HM.out]; exact Lib.hid rfl, by rw [HST.out]; exact Lib.hid (Made.next MD.out (by rw [HM.out]; exact R2.out) T2.out O2.out)⟩, by simp [intOf]; omega⟩
          · have halv : alive now ⟨xb, xt, xn⟩ = false := by unfold alive; simp [hgt, hal]
            rw [halv, if_neg (by decide)] at HST
            go_wp2_with fail
            exact ⟨⟨i + 1, m, by omega, by go_num, by omega, by rw [HST.out]; exact HM, by rw [HST.out]; exact MD⟩, by simp [intOf]; omega⟩
      · have hltz : ¬ (i : Int) < (n : Int) := by omega
        obtain rfl : i = n := by omega
        have hfin : left now (l.take i) = left now l := by rw [List.take_of_length_le (by rw [HN.out]; omega)]
        rw [hfin] at MD HM
        obtain ⟨a1, cap1, e1⟩ := MD.out.1.slice
        rw [HM.out] at e1
        subst e1
        go_wp2
        go_ret
        exact Made.does MD.out H.out

/-! ### The rest -/

set_option maxHeartbeats 1000000 in
set_option maxRecDepth 100000 in
theorem rwaits_any (q : Nat) (v : Value) (l : List Pl) (now : Int) (w : World) (h : Rep 39 w q v l) (hl : l.length ≤ 1000) :
    Calls Try.prog 16 #[.pointer (some ⟨q, 0, none⟩), .int .i64 now] w
      (Does 39 q v (waitsL now l).2 (.returned (.tuple #[.int .i64 ((waitsL now l).1.1 : Nat), .int .i64 ((waitsL now l).1.2 : Nat)])) w) := by
  have ha := rat_any q v l now w h hl
  have H := Lib.hid h
  unfold waitsL
  unfold atL at ha
  cases hb : bad now with
  | true =>
    rw [hb, if_pos rfl] at ha
    rw [if_pos rfl]
    have HA := Lib.hid ha
    clear ha h
    go_enter Try.func16, Try.ntmps16
    go_wp2_with fail
    refine HA.out.mono ?_
    rintro e w' ⟨rfl, hd⟩
    go_wp2
    go_returns
    exact ⟨rfl, hd⟩
  | false =>
    rw [hb, if_neg (by decide)] at ha
    rw [if_neg (by decide)]
    have HA := Lib.hid ha
    clear ha h
    go_enter Try.func16, Try.ntmps16
    go_wp2_with fail
    refine HA.out.mono ?_
    rintro e w' ⟨rfl, v', r1, hd⟩
    obtain ⟨c0, f0⟩ := r1.cell
    obtain ⟨a', n', rfl⟩ := r1.row.slice
    have HD := Lib.hid hd; have R1 := Lib.hid r1
    clear hd r1
    go_wp2
    go_returns
    exact ⟨rfl, _, R1.out, HD.out⟩

set_option maxHeartbeats 1000000 in
set_option maxRecDepth 100000 in
theorem rtake_any (q : Nat) (v : Value) (l : List Pl) (now : Int) (w : World) (h : Rep 39 w q v l) (hl : Good l) :
    Calls Try.prog 13 #[.pointer (some ⟨q, 0, none⟩), .int .i64 now] w
      (Does 39 q v (takeL now l).2 (.returned (.tuple #[.bool (takeL now l).1.1, .int .i64 ((takeL now l).1.2 : Nat)])) w) := by
  have ha := rat_any q v l now w h (by have := hl.1; omega)
  have H := Lib.hid h
  unfold takeL
  unfold atL at ha
  cases hb : bad now with
  | true =>
    rw [hb, if_pos rfl] at ha
    rw [if_pos rfl]
    have HA := Lib.hid ha
    clear ha h
    go_enter Try.func13, Try.ntmps13
    go_wp2_with fail
    refine HA.out.mono ?_
    rintro e w' ⟨rfl, hd⟩
    go_wp2
    go_returns
    exact ⟨rfl, hd⟩
  | false =>
    rw [hb, if_neg (by decide)] at ha
    rw [if_neg (by decide)]
    have hg := hl.left now
    cases hx : left now l with
    | nil =>
      rw [hx] at ha
      have HA := Lib.hid ha
      clear ha h hx
      go_enter Try.func13, Try.ntmps13
      go_wp2_with fail
      refine HA.out.mono ?_
      rintro e w' ⟨rfl, v', r1, hd⟩
      obtain ⟨c0, f0⟩ := r1.cell
      obtain ⟨a', n', rfl⟩ := r1.row.slice
      have HD := Lib.hid hd; have R1 := Lib.hid r1
      clear hd r1
      go_wp2
      go_returns
      exact ⟨rfl, _, R1.out, HD.out⟩
    | cons p r =>
      rw [hx] at ha hg
      obtain ⟨hp1, hp2⟩ := hg.2 p (by simp)
      have HA := Lib.hid ha
      have hlen := hg.1
      simp only [List.length_cons] at hlen
      clear ha h hx hg hl
      obtain ⟨pb, pt, pn⟩ := p
      simp only at hp1 hp2
      obtain ⟨n, hn⟩ : ∃ n, (⟨pb, pt, pn⟩ :: r : List Pl).length = n := ⟨_, rfl⟩
      have hn0 : r.length + 1 = n := hn
      have HN := Lib.hid hn
      show Calls _ _ _ w (Does _ q v (if pb = 1 then r else ⟨pb - 1, pt, pn⟩ :: r) (.returned (.tuple #[.bool true, .int .i64 (0 : Nat)])) w)
      by_cases hpb : pb = 1
      · subst hpb
        rw [if_pos rfl]
        clear hn
        go_enter Try.func13, Try.ntmps13
        go_wp2_with fail
        refine HA.out.mono ?_
        rintro e w' ⟨rfl, v', r1, hd⟩
        obtain ⟨c0, f0⟩ := r1.cell
        have hfar := r1.far
        have hrow := r1.row
        have R1 := Lib.hid r1
        rw [HN.out] at hrow
        rcases hrow.2 with ⟨rfl, h0⟩ | ⟨b, off, cap, cur, rfl, hgb, hcap, hcm, _⟩
        · omega
        have hqb : ¬ q = b := fun e => hfar (by rw [e]; rfl)
        have hbq : ¬ b = q := fun e => hqb e.symm
        obtain ⟨d0, d1, d2⟩ := cells_pull hrow 0 ⟨1, pt, pn⟩ rfl (by omega)
        obtain ⟨g0, g1, g2⟩ := frozen_pull hrow 0 (by omega)
        rw [Nat.zero_mul, Nat.add_zero] at d0 d1 d2 g0 g1 g2
        have hset := hrow.set 0 (by omega) (.int .i64 (1 - 1))
        rw [Nat.add_zero] at hset
        have hrest := hset.rest 1 (by omega)
        have hrl : r.length = n - 1 := by omega
        rw [show ((plsV (⟨1, pt, pn⟩ :: r)).set 0 (.int .i64 (1 - 1))).drop (1 * 3) = plsV r from rfl, ← hrl] at hrest
        have hbo : own (.slice (some ⟨b, off, none⟩) n cap) b := rfl
        have HT := Lib.hid ((Heap.Touch.refl (own (.slice (some ⟨b, off, none⟩) n cap)) w').setCell (p := ⟨b, off, none⟩) (.inl hbo) (.int .i64 (1 - 1)))
        have HD := Lib.hid hd; have HR := Lib.hid hrow
        clear hd r1 hrow hset hgb
        by_cases hc1 : cap = 1
        · rw [if_pos hc1] at hrest
          have HE := Lib.hid hrest
          clear hrest
          subst hc1
          go_wp2
          go_returns
          have hr0 : r.length = 0 := by omega
          exact Does.then HD.out.1 HD.out.2 (Does.puts R1.out HT.out (by simpa [hr0] using HE.out) (fun k hk => .inl hk))
        · rw [if_neg hc1] at hrest
          have HE := Lib.hid hrest
          clear hrest
          go_wp2
          go_returns
          exact Does.then HD.out.1 HD.out.2 (Does.puts R1.out HT.out (by simpa [hrl] using HE.out) (fun k hk => .inl hk))
      · rw [if_neg hpb]
        have hne : (pb - 1 == 0) = false := beq_eq_false_iff_ne.2 (by omega)
        go_enter Try.func13, Try.ntmps13
        go_wp2_with fail
        refine HA.out.mono ?_
        rintro e w' ⟨rfl, v', r1, hd⟩
        obtain ⟨c0, f0⟩ := r1.cell
        have hfar := r1.far
        have hrow := r1.row
        have R1 := Lib.hid r1
        rw [HN.out] at hrow
        rcases hrow.2 with ⟨rfl, h0⟩ | ⟨b, off, cap, cur, rfl, hgb, hcap, hcm, _⟩
        · omega
        have hqb : ¬ q = b := fun e => hfar (by rw [e]; rfl)
        have hbq : ¬ b = q := fun e => hqb e.symm
        obtain ⟨d0, d1, d2⟩ := cells_pull hrow 0 ⟨pb, pt, pn⟩ rfl (by omega)
        obtain ⟨g0, g1, g2⟩ := frozen_pull hrow 0 (by omega)
        rw [Nat.zero_mul, Nat.add_zero] at d0 d1 d2 g0 g1 g2
        have hset := hrow.set 0 (by omega) (.int .i64 (pb - 1))
        rw [Nat.add_zero] at hset
        have HS := Lib.hid hset
        have HD := Lib.hid hd; have HR := Lib.hid hrow
        clear hd r1 hrow hset hgb
        go_wp2
        go_returns
        rw [← HN.out] at *
        exact Does.then HD.out.1 HD.out.2 (Does.sets (b := b) (l' := ⟨pb - 1, pt, pn⟩ :: r) R1.out rfl HS.out)

set_option maxHeartbeats 2000000 in
set_option maxRecDepth 100000 in
theorem ridle_any (q : Nat) (v : Value) (l : List Pl) (now : Int) (w : World) (h : Rep 39 w q v l) (hl : l.length ≤ 1000) :
    Calls Try.prog 15 #[.pointer (some ⟨q, 0, none⟩), .int .i64 now] w
      (Does 39 q v (idleL now l).2 (.returned (.tuple #[.int .i64 ((idleL now l).1.1 : Nat), .int .i64 ((idleL now l).1.2 : Nat)])) w) := by
  have ha := rat_any q v l now w h hl
  have H := Lib.hid h
  obtain ⟨i0, hi, hz0, hz1, hz2⟩ := info_parts info_pull
  unfold idleL
  unfold atL at ha
  cases hb : bad now with
  | true =>
    rw [hb, if_pos rfl] at ha
    rw [if_pos rfl]
    have HA := Lib.hid ha
    clear ha h
    go_enter Try.func15, Try.ntmps15
    go_wp2_with fail
    refine HA.out.mono ?_
    rintro e w' ⟨rfl, hd⟩
    go_wp2
    go_returns
    exact ⟨rfl, hd⟩
  | false =>
    rw [hb, if_neg (by decide)] at ha
    rw [if_neg (by decide)]
    have hlen : (left now l).length ≤ 1000 := Nat.le_trans (List.length_filter_le _ _) hl
    have hst : (stay (left now l)).length ≤ (left now l).length := List.length_filter_le _ _
    generalize left now l = L at *
    obtain ⟨n, hn⟩ : ∃ n, L.length = n := ⟨_, rfl⟩
    have HN := Lib.hid hn
    have HA := Lib.hid ha
    clear ha h
    show Calls _ _ _ w (Does _ q v (stay L) (.returned (.tuple #[.int .i64 ((L.length - (stay L).length : Nat) : Int), .int .i64 (0 : Nat)])) w)
    rw [hn]
    go_enter Try.func15, Try.ntmps15
    go_wp2_with fail
    refine HA.out.mono ?_
    rintro e w1 ⟨rfl, v', r1, hd⟩
    obtain ⟨a0, cap, rfl⟩ := r1.row.slice
    rw [hn] at r1 hd
    have hq : q < w1.heap.size := heap_lt r1.blk
    obtain ⟨hq0, hqf⟩ := r1.cell
    have R1 := Lib.hid r1; have HD := Lib.hid hd
    clear r1 hd HA
    rw [hn] at hlen hst
    clear hn
    go_wp2_with fail
    go_loopw [7, 6] (fun iv sv wr => ∃ (i : Nat) (m : Nat), i ≤ n ∧ iv = .int .i64 i ∧ m ≤ i ∧ Hid ((stay (L.take i)).length = m) ∧ Hid (Made w1 sv (stay (L.take i)) wr)) (fun iv _ _ => n - (intOf iv).toNat)
    case atStart => exact ⟨0, 0, Nat.zero_le _, rfl, Nat.zero_le _, Lib.hid rfl, Lib.hid (Made.start w1)⟩
    case round =>
      obtain ⟨i, m, hile, rfl, hmi, HM, MD⟩ := hrel
      obtain ⟨c0, f0⟩ := (MD.out.rep R1.out).cell
      by_cases hlt : i < n
      · have hltz : (i : Int) < (n : Int) := by omega
        obtain ⟨x, hx⟩ : ∃ x, L[i]? = some x := ⟨L[i]'(by rw [HN.out]; exact hlt), List.getElem?_eq_getElem (by rw [HN.out]; exact hlt)⟩
        have htk := take_snoc hx
        have hrow := (MD.out.rep R1.out).row
        rw [HN.out] at hrow
        rcases hrow.2 with ⟨hnil, h0⟩ | ⟨b, off, cap', cur, he, _⟩
        · omega
        simp only [Value.slice.injEq] at he
        obtain ⟨rfl, _, rfl⟩ := he
        obtain ⟨d0, d1, d2⟩ := cells_pull hrow i x hx hlt
        have hstep : stay (L.take (i + 1)) = if x.nowait then stay (L.take i) else stay (L.take i) ++ [x] := by
          rw [htk]
          unfold stay
          rw [List.filter_append]
          by_cases hx : x.nowait = true <;> simp [hx]
        have HST := Lib.hid hstep
        obtain ⟨xb, xt, xn⟩ := x
        clear hstep htk hx hrow
        simp only at d0 d1 d2
        cases xn with
        | false =>
          rw [if_neg (by simp)] at HST
          have hm1 := MD.out.1
          rw [HM.out] at hm1
          go_wp2_with (at_builtin; refine wpList_append_row _ rfl (.tmp 31) (.tmp 39) 37 rfl 28 i0 _ 3 24 Try.underlying37 hi hz0 hz1 hz2 rfl (by decide) _ m _ rfl (hm1.kept (fun k _ hk => Below.heap_alloc _ _ _ hk)) ⟨wr.heap.size, 0, none⟩ 1 1 (cells ⟨xb, xt, false⟩) rfl rfl (news_alloc wr ⟨xb, xt, false⟩ _) (by simp [cells, Value.oneCell']) (by unfold maxLen; omega) (by omega) ?_)
          intro v2 w2 r2 t2 o2
          have R2 := Lib.hid r2; have T2 := Lib.hid t2; have O2 := Lib.hid o2
          clear r2 t2 o2
          go_wp2_with fail
          exact ⟨⟨i + 1, m + 1, by omega, by go_num, by omega, by rw [HST.out, List.length_append, HM.out]; exact Lib.hid rfl, by rw [HST.out]; exact Lib.hid (Made.next MD.out (by rw [HM.out]; exact R2.out) T2.out O2.out)⟩, by simp [intOf]; omega⟩
        | true =>
          rw [if_pos rfl] at HST
          go_wp2_with fail
          exact ⟨⟨i + 1, m, by omega, by go_num, by omega, by rw [HST.out]; exact HM, by rw [HST.out]; exact MD⟩, by simp [intOf]; omega⟩
      · have hltz : ¬ (i : Int) < (n : Int) := by omega
        obtain rfl : i = n := by omega
        have hfin : stay (L.take i) = stay L := by rw [List.take_of_length_le (by rw [HN.out]; omega)]
        rw [hfin] at MD HM
        obtain ⟨a1, cap1, e1⟩ := MD.out.1.slice
        rw [HM.out] at e1
        subst e1
        go_wp2
        go_returns
        rw [HM.out, show ((i - m : Nat) : Int) = (i : Int) - (m : Nat) by omega]
        exact Does.then HD.out.1 HD.out.2 (Made.does MD.out R1.out)

theorem askL_bad {now : Int} {p : Pl} {l : List Pl} (h : p.batch < 1 ∨ 50 < p.batch ∨ p.till < 0 ∨ farT < p.till ∨ bad now = true) : askL now p l = (1, l) := by
  unfold askL
  rw [if_pos h]

set_option maxHeartbeats 2000000 in
set_option maxRecDepth 100000 in
theorem rask_any (q : Nat) (v : Value) (l : List Pl) (now : Int) (p : Pl) (w : World) (h : Rep 39 w q v l) (hl : Good l) :
    Calls Try.prog 12 #[.pointer (some ⟨q, 0, none⟩), .int .i64 now, .agg #[.int .i64 p.batch, .int .i64 p.till, .bool p.nowait]] w
      (Does 39 q v (askL now p l).2 (.returned (.int .i64 ((askL now p l).1 : Nat))) w) := by
  obtain ⟨pb, pt, pn⟩ := p
  obtain ⟨i0, hi, hz0, hz1, hz2⟩ := info_parts info_pull
  have hb1 := (Below.refl w.heap.size w).alloc (Nat.le_refl _) (.cells #[.int .i64 pb, .int .i64 pt, .bool pn] 28)
  have H := Lib.hid h; have HB1 := Lib.hid hb1
  have k1 := in_any pb 1 50
  have k2 := in_any pt 0 1099511627776
  cases e1 : (decide (1 ≤ pb) && decide (pb ≤ 50)) with
  | false =>
    rw [e1] at k1
    rw [askL_bad (by simp at e1 ⊢; omega)]
    have K1 := Lib.hid k1
    clear h hb1 k1 k2
    go_enter Try.func12, Try.ntmps12
    go_wp2_with fail
    refine (K1.out _).mono ?_
    rintro e w' ⟨rfl, rfl⟩
    go_wp2
    go_returns
    exact Does.same H.out HB1.out
  | true =>
  cases e2 : (decide (0 ≤ pt) && decide (pt ≤ 1099511627776)) with
  | false =>
    rw [e1] at k1
    rw [e2] at k2
    rw [askL_bad (by simp [farT] at e2 ⊢; omega)]
    have K1 := Lib.hid k1; have K2 := Lib.hid k2
    clear h hb1 k1 k2
    go_enter Try.func12, Try.ntmps12
    go_wp2_with fail
    refine (K1.out _).mono ?_
    rintro e w' ⟨rfl, rfl⟩
    go_wp2_with fail
    refine (K2.out _).mono ?_
    rintro e w' ⟨rfl, rfl⟩
    go_wp2
    go_returns
    exact Does.same H.out HB1.out
  | true =>
  rw [e1] at k1
  rw [e2] at k2
  have K1 := Lib.hid k1; have K2 := Lib.hid k2
  clear k1 k2
  have h1 : Rep 39 (w.alloc (.cells #[.int .i64 pb, .int .i64 pt, .bool pn] 28)) q v l := h.kept (fun k _ hk => Below.heap_alloc _ _ _ hk)
  have ha := rat_any q v l now _ h1 (by have := hl.1; omega)
  unfold atL at ha
  have hpb : Heap.Touch (foot q v) w (w.alloc (.cells #[.int .i64 pb, .int .i64 pt, .bool pn] 28)) := (Heap.Touch.refl _ _).alloc _
  cases hb : bad now with
  | true =>
    rw [hb, if_pos rfl] at ha
    rw [askL_bad (.inr (.inr (.inr (.inr hb))))]
    have HA := Lib.hid ha; have HP := Lib.hid hpb
    clear ha h h1 hb1 hpb
    go_enter Try.func12, Try.ntmps12
    go_wp2_with fail
    refine (K1.out _).mono ?_
    rintro e w1 ⟨rfl, rfl⟩
    go_wp2_with fail
    refine (K2.out _).mono ?_
    rintro e w2 ⟨rfl, rfl⟩
    go_wp2_with fail
    refine HA.out.mono ?_
    rintro e w' ⟨rfl, hd⟩
    go_wp2
    go_returns
    exact Does.then HP.out (fun k hk => .inl hk) ⟨rfl, hd⟩
  | false =>
    rw [hb, if_neg (by decide)] at ha
    unfold askL
    rw [if_neg (by simp [hb, farT] at e1 e2 ⊢; omega)]
    have hlen : (left now l).length ≤ 10 := Nat.le_trans (List.length_filter_le _ _) hl.1
    generalize left now l = m at *
    obtain ⟨n, hn⟩ : ∃ n, m.length = n := ⟨_, rfl⟩
    have HA := Lib.hid ha; have HP := Lib.hid hpb; have HN := Lib.hid hn
    by_cases hten : n = 10
    · rw [if_pos (by rw [hn]; exact hten)]
      subst hten
      clear ha h h1 hb1 hpb hn
      go_enter Try.func12, Try.ntmps12
      go_wp2_with fail
      refine (K1.out _).mono ?_
      rintro e w1 ⟨rfl, rfl⟩
      go_wp2_with fail
      refine (K2.out _).mono ?_
      rintro e w2 ⟨rfl, rfl⟩
      go_wp2_with fail
      refine HA.out.mono ?_
      rintro e w' ⟨rfl, v', r1, hd⟩
      obtain ⟨c0, f0⟩ := r1.cell
      obtain ⟨a', n', rfl⟩ := r1.row.slice
      rw [HN.out] at c0 r1 hd
      have HD := Lib.hid hd; have R1 := Lib.hid r1
      clear hd r1 HA
      go_wp2
      go_returns
      exact Does.then HP.out (fun k hk => .inl hk) ⟨rfl, _, R1.out, HD.out⟩
    · rw [if_neg (by rw [hn]; exact hten)]
      have hten' : ¬ (10 : Int) ≤ n := by rw [hn] at hlen; omega
      clear h h1 hb1 hpb hn ha
      go_enter Try.func12, Try.ntmps12
      go_wp2_with fail
      refine (K1.out _).mono ?_
      rintro e w1 ⟨rfl, rfl⟩
      go_wp2_with fail
      refine (K2.out _).mono ?_
      rintro e w2 ⟨rfl, rfl⟩
      go_wp2_with fail
      refine HA.out.mono ?_
      rintro e w' ⟨rfl, v', r1, hd⟩
      obtain ⟨c0, f0⟩ := r1.cell
      have hrow := r1.row
      rw [HN.out] at hrow
      obtain ⟨a', n', rfl⟩ := hrow.slice
      have hbx : ∀ i, w'.cell? ⟨w.heap.size, i, none⟩ = (w.alloc (.cells #[.int .i64 pb, .int .i64 pt, .bool pn] 28)).cell? ⟨w.heap.size, i, none⟩ := fun i => by
        refine hd.1.cell (p := ⟨w.heap.size, i, none⟩) (by simp) (fun hk => ?_)
        have := H.out.lt _ hk
        exact absurd this (Nat.lt_irrefl _)
      have x0 := (hbx 0).trans (World.cell?_alloc_mark w _ _ (0, 0) 0)
      have x1 := (hbx 1).trans (World.cell?_alloc_mark w _ _ (0, 0) 1)
      have x2 := (hbx 2).trans (World.cell?_alloc_mark w _ _ (0, 0) 2)
      have e0 : (#[Value.int .i64 pb, .int .i64 pt, .bool pn] : Array Value)[0]? = some (.int .i64 pb) := rfl
      have e1 : (#[Value.int .i64 pb, .int .i64 pt, .bool pn] : Array Value)[1]? = some (.int .i64 pt) := rfl
      have e2 : (#[Value.int .i64 pb, .int .i64 pt, .bool pn] : Array Value)[2]? = some (.bool pn) := rfl
      rw [e0] at x0; rw [e1] at x1; rw [e2] at x2
      have HD := Lib.hid hd; have R1 := Lib.hid r1; have HR := Lib.hid hrow
      clear hd r1 HA hrow hbx e0 e1 e2
      have hn9 : n ≤ 10 := by rw [← HN.out]; exact hlen
      have hql : q < w'.heap.size := heap_lt R1.out.blk
      have hqa : ∀ o, (w'.alloc o).cell? ⟨q, 0, none⟩ = some (.slice a' n n') := fun o => (World.cell?_of_block (Below.heap_alloc _ _ _ hql)).trans c0
      go_wp2_with fail
      go_region_law ((refine step_append_row _ (by rfl) (.tmp 33) (.tmp 35) 37 (by rfl) 28 i0 _ 3 24 Try.underlying37 hi hz0 hz1 hz2 (by rfl) (by decide) _ n _ (by rfl) (HR.out.kept (fun k _ hk => Below.heap_alloc w'.drew _ _ hk)) ⟨w'.heap.size, 0, none⟩ 1 1 (cells ⟨pb, pt, pn⟩) (by rfl) (by rfl) (news_alloc w'.drew ⟨pb, pt, pn⟩ _) (by simp [cells, Value.oneCell']) (by unfold maxLen; omega) (by omega) ?_; intro v2 w2 r2 t2 o2; obtain ⟨a2, n2, rfl⟩ := r2.slice; have tt := (((Heap.Touch.refl _ w').drew).alloc _).after t2; obtain ⟨c2, f2⟩ := R1.out.cellAt tt; have TT := Lib.hid tt; have RR := Lib.hid r2; have OO := Lib.hid o2; clear tt t2 r2 o2))
      all_goals
        go_wp2
        go_returns
        exact Does.then HP.out (fun k hk => .inl hk) (Does.then HD.out.1 HD.out.2 (Does.puts (l' := m ++ [⟨pb, pt, pn⟩]) R1.out TT.out (by rw [List.length_append, HN.out, plsV_append]; exact RR.out) (fun k hk => (OO.out k hk).imp_right fun h => Nat.le_trans (by first | (show w'.heap.size ≤ (w'.alloc _).heap.size; simp) | (show w'.heap.size ≤ (w'.drew.alloc _).heap.size; simp)) h)))

end Go.Proofs.Ytglgbidcmkncgaa.Pull
