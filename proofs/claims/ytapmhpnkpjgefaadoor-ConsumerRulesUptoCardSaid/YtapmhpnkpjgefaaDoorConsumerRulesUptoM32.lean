/- Parts of the proof, joined: (*Consumer).Answer, walked. -/
import Derived.Test.YtapmhpnkpjgefaaDoorConsumerRulesUptoM8
import Derived.Test.YtapmhpnkpjgefaaDoorConsumerRulesUptoM27
import Derived.Test.YtapmhpnkpjgefaaDoorConsumerRulesUptoM31
namespace Go.Proofs.YtapmhpnkpjgefaaDoor.Con
open Go.RowKit Heap
open Subj (Tok TakerP ML errT errT_facts)
open Rec (Rc far)

section
variable {W w w1 : World} {F : Nat → Prop} {D B K k : Nat} {L : List Rc} {last : Int} {t : TakerP} {vb v : Value} {c : Cn}

def AnswerPost (W : World) (K : Nat) (t : TakerP) (vb v : Value) (w : World) (o : Cn × Nat) (e : Ending) (w' : World) : Prop :=
  e = .returned (.int .i64 (o.2 : Nat)) ∧ NextC tc tp W K t vb v w o.1 w'

theorem twoA {bx : Nat} {a0 a1 : Value} {t : TypeId} {w : World} (h : w.heap[bx]? = some (.cells #[a0, a1] t (0, 0))) : w.cell? ⟨bx, 0, none⟩ = some a0 ∧ w.cell? ⟨bx, 1, none⟩ = some a1 := by
  refine ⟨?_, ?_⟩
  · rw [cell_of_row w bx 0 _ _ _ h]; rfl
  · rw [cell_of_row w bx 1 _ _ _ h]; rfl

theorem NextC.ofTouch {v' : Value} {c' : Cn} (hc : CAt tc tp W K t vb v' c' w1) (ht : Heap.Touch (fun k => k = K ∨ own v k) w w1) (ho : ∀ k, own v' k → own v k ∨ w.heap.size ≤ k) : NextC tc tp W K t vb v w c' w1 := ⟨v', hc, ht, ho⟩

set_option maxHeartbeats 8000000 in
set_option maxRecDepth 100000 in
theorem answer_c (h : CAt tc tp W K t vb v c w) (hk : Ok k c) (hkb : k ≤ 100000) (ht : errT t = 0) (now seq sort n : Int) (hq : -9223372036854775808 ≤ seq ∧ seq ≤ 9223372036854775807) :
    Calls Tryd.prog 10 #[.pointer (some ⟨K, 0, none⟩), .int .i64 now, .int .i64 seq, .agg #[.int .i64 sort, .int .i64 n]] w (AnswerPost W K t vb v w (answerP t now seq sort n c)) := by
  have hcnt := hk.count
  have hlen := hk.len
  have hfar : far = 1099511627776 := rfl
  obtain ⟨O, hO⟩ : ∃ O, answerP t now seq sort n c = O := ⟨_, rfl⟩
  rw [hO]
  unfold answerP at hO
  obtain ⟨w1, hw1⟩ : ∃ w1, w1 = w.alloc (.cells #[.int .i64 sort, .int .i64 n] 40) := ⟨_, rfl⟩
  have hb1 : Below w.heap.size w w1 := by rw [hw1]; exact (Below.refl _ _).alloc (Nat.le_refl _) _
  have he1 : w1.heap[w.heap.size]? = some (.cells #[.int .i64 sort, .int .i64 n] 40 (0, 0)) := by rw [hw1]; exact heap_alloc_new w _
  obtain ⟨bx, hbx⟩ : ∃ bx, w.heap.size = bx := ⟨_, rfl⟩
  rw [hbx] at he1
  obtain ⟨q0, q1⟩ := twoA he1
  obtain ⟨mo, hmo⟩ : ∃ mo, mostN sort = mo := ⟨_, rfl⟩
  have hmb : 0 ≤ mo ∧ mo ≤ 100000 := by rw [← hmo]; unfold mostN; split <;> omega
  rw [hmo] at hO
  have HH := Lib.hid (h.next hb1); have HB1 := Lib.hid hb1; have HE1 := Lib.hid he1; have HBX := Lib.hid hbx; have HK := Lib.hid hk; have HT := Lib.hid ht; have HMO := Lib.hid hmo
  have HFD := Lib.hid (fun w' (hb : Below w1.heap.size w1 w') => find_c ((h.next hb1).next hb) hk (by omega) seq hq)
  have hal : c.l.length ≤ 100000 := by omega
  clear h hk hb1 he1 hbx ht hmo
  go_enter Tryd.func10, Tryd.ntmps10
  go_upto_region 1 with fail
  rw [← hw1, HBX.out]
  clear hw1
  go_upto_if 14 with fail
  go_cut [9] from 9 to 9 (fun s9 wx => s9 = .int .i64 mo ∧ w1 = wx)
  case first =>
    have hmo := HMO.out
    unfold mostN at hmo
    by_cases h2 : sort = 2
    · rw [if_pos h2] at hmo
      have h3 : (sort == 2) = true := by simpa using h2
      subst hmo
      clear h2
      go_wp2_with fail
      go_meet
      exact ⟨rfl, rfl⟩
    · rw [if_neg h2] at hmo
      have h3 : (sort == 2) = false := by simpa using h2
      subst hmo
      clear h2
      go_wp2_with fail
      go_meet
      exact ⟨rfl, rfl⟩
  case rest =>
  obtain ⟨rfl, rfl⟩ := hcut
  obtain ⟨Bd, hBd⟩ : ∃ Bd, decide (now < 0 ∨ far < now ∨ sort < 1 ∨ 4 < sort ∨ n < 0 ∨ mo < n) = Bd := ⟨_, rfl⟩
  have HBd := Lib.hid hBd
  clear hBd
  go_upto_region 4 with fail
  go_cut [41] from 15 to 41 (fun s41 wx => s41 = .bool Bd ∧ w1 = wx)
  case first =>
    have hBd := HBd.out
    rcases (show now < 0 ∨ (¬ now < 0 ∧ 1099511627776 < now) ∨ (¬ now < 0 ∧ ¬ 1099511627776 < now ∧ sort < 1) ∨ (¬ now < 0 ∧ ¬ 1099511627776 < now ∧ ¬ sort < 1 ∧ 4 < sort) ∨ (¬ now < 0 ∧ ¬ 1099511627776 < now ∧ ¬ sort < 1 ∧ ¬ 4 < sort ∧ n < 0) ∨ (¬ now < 0 ∧ ¬ 1099511627776 < now ∧ ¬ sort < 1 ∧ ¬ 4 < sort ∧ ¬ n < 0 ∧ mo < n) ∨ (¬ now < 0 ∧ ¬ 1099511627776 < now ∧ ¬ sort < 1 ∧ ¬ 4 < sort ∧ ¬ n < 0 ∧ ¬ mo < n) from by omega) with h1 | ⟨h1, h2⟩ | ⟨h1, h2, h3⟩ | ⟨h1, h2, h3, h4⟩ | ⟨h1, h2, h3, h4, h5⟩ | ⟨h1, h2, h3, h4, h5, h6⟩ | ⟨h1, h2, h3, h4, h5, h6⟩
    · obtain rfl : Bd = true := by rw [← hBd]; exact decide_eq_true (by omega)
      clear hBd
      go_wp2_with fail
      go_meet
      exact ⟨by simp, rfl⟩
    · obtain rfl : Bd = true := by rw [← hBd]; exact decide_eq_true (by omega)
      clear hBd
      go_wp2_with fail
      go_meet
      exact ⟨by simp, rfl⟩
    · obtain rfl : Bd = true := by rw [← hBd]; exact decide_eq_true (by omega)
      clear hBd
      go_wp2_with fail
      go_meet
      exact ⟨by simp, rfl⟩
    · obtain rfl : Bd = true := by rw [← hBd]; exact decide_eq_true (by omega)
      clear hBd
      go_wp2_with fail
      go_meet
      exact ⟨by simp, rfl⟩
    · obtain rfl : Bd = true := by rw [← hBd]; exact decide_eq_true (by omega)
      clear hBd
      go_wp2_with fail
      go_meet
      exact ⟨by simp, rfl⟩
    · obtain rfl : Bd = true := by rw [← hBd]; exact decide_eq_true (by omega)
      clear hBd
      go_wp2_with fail
      go_meet
      exact ⟨by simp, rfl⟩
    · obtain rfl : Bd = false := by rw [← hBd]; exact decide_eq_false (by omega)
      clear hBd
      go_wp2_with fail
      go_meet
      exact ⟨by simp, rfl⟩
  case rest =>
  obtain ⟨rfl, rfl⟩ := hcut
  have hBd := HBd.out
  cases Bd with
  | true =>
    rw [if_pos (of_decide_eq_true hBd)] at hO
    subst hO
    have HFI := Lib.hid (show NextC tc tp W K t vb v w c w1 from ⟨v, HH.out, Heap.Touch.ofBelow HB1.out, fun k hk => .inl hk⟩)
    clear hBd
    go_wp2_with fail
    go_ret
    exact ⟨rfl, HFI.out⟩
  | false =>
    have hok := of_decide_eq_false hBd
    rw [if_neg hok] at hO
    have hok2 : 0 ≤ now ∧ now ≤ 1099511627776 ∧ 1 ≤ sort ∧ sort ≤ 4 ∧ 0 ≤ n ∧ n ≤ mo := by omega
    clear hBd hok HBd
    have HF1 := Lib.hid (HFD.out w1 (Below.refl _ _))
    unfold idxI at HF1
    cases hix : idxP c.l seq with
    | none =>
      rw [hix] at hO HF1
      simp only at hO HF1
      subst hO
      clear hix
      go_wp2_with fail
      refine HF1.out.mono ?_
      rintro e w2 ⟨rfl, hb2⟩
      have HFI := Lib.hid (show NextC tc tp W K t vb v w c w2 from ⟨v, HH.out.next hb2, Heap.Touch.ofBelow (HB1.out.trans (hb2.mono HB1.out.size)), fun k hk => .inl hk⟩)
      clear hb2 HF1
      go_wp2_with fail
      go_ret
      exact ⟨rfl, HFI.out⟩
    | some i =>
      obtain ⟨p, hp, hpq⟩ := idx_some hix
      rw [hix] at hO HF1
      simp only at hO HF1
      rw [hp] at hO
      simp only at hO
      have hil := (List.getElem?_eq_some_iff.1 hp).1
      have hpi := HK.out.in_ p (List.mem_of_getElem? hp)
      have HP := Lib.hid hp; have HO := Lib.hid hO
      clear hix hp hO hpq
      go_wp2_with fail
      refine HF1.out.mono ?_
      rintro e w2 ⟨rfl, hb2⟩
      have h2 := HH.out.next hb2
      have hbw := HB1.out.trans (hb2.mono HB1.out.size)
      have he2 := (hb2.block bx (heap_lt HE1.out)).trans HE1.out
      obtain ⟨m, hm⟩ : ∃ m, c.l.length = m := ⟨_, rfl⟩
      have HM := Lib.hid hm
      have hrow := h2.row
      rw [hm] at hrow hil hal
      rcases hrow.2 with ⟨_, h0⟩ | ⟨g, off, cap, cur, rfl, _⟩
      · omega
      obtain ⟨m0, m1, m2, f1, f2⟩ := cells_pd hrow i p HP.out hil
      obtain ⟨c0, c1, c2, c3, c4, c5, c6, c7, c8, c9, _, _, c12, cf⟩ := h2.cells
      obtain ⟨q0, q1⟩ := twoA he2
      have hlt2 := heap_lt h2.cell
      have hgl := hrow.lt g (by simp [own, Value.ownBlock])
      have hiz : (i : Int) < m := by omega
      have H2 := Lib.hid h2; have HBW := Lib.hid hbw; have HRW := Lib.hid hrow; have HE2 := Lib.hid he2
      clear hb2 h2 hbw he2 hm hrow HF1
      rcases (show sort = 2 ∨ sort = 3 ∨ (sort = 1 ∧ t.ack = 1) ∨ ((sort = 1 ∧ t.ack ≠ 1) ∨ sort = 4) from by omega) with rfl | rfl | ⟨rfl, hak⟩ | hs
      · have hO := HO.out
        rw [if_pos rfl] at hO
        have HO2 := Lib.hid hO.symm
        have hmo2 : mo = 100000 := HMO.out.symm.trans (by decide)
        have hwd : IntKind.i64.wrap (now + n) = now + n := IntWalk.i64_in _ (by omega)
        have h3 := H2.out.setDue HM.out.symm HP.out (now + n)
        have HFI := Lib.hid (show NextC tc tp W K t vb (.slice (some ⟨g, off, none⟩) m cap) w ⟨c.place, c.count, c.l.set i ⟨p.seq, p.nth, now + n⟩⟩ (w2.setCell ⟨g, off + i * 3 + 2, none⟩ (.int .i64 (now + n))) from ⟨_, h3.1, (Heap.Touch.ofBelow HBW.out).after (h3.2.mono fun _ _ e => .inr e), fun k hk => .inl hk⟩)
        clear hO h3 hmo2
        go_wp2_with fail
        go_ret
        rw [HO2.out]
        exact ⟨rfl, HFI.out⟩
      · have hO := HO.out
        rw [if_neg (by decide), if_pos rfl] at hO
        have HO2 := Lib.hid hO.symm
        obtain ⟨wt, hwt⟩ : ∃ wt, waitT t p.nth = wt := ⟨_, rfl⟩
        have hwr := wait_range HT.out p.nth
        have hbk : t.back.length ≤ 1048576 := by have := (errT_facts HT.out).2.2.1; omega
        have hwc := fun w' (hb : Below w2.heap.size w2 w') => wait_c (H2.out.next hb).back hbk p.nth
        rw [hwt] at hwc hwr
        unfold takerV at hwc
        have hwd : IntKind.i64.wrap (now + wt) = now + wt := IntWalk.i64_in _ (by omega)
        have HWC := Lib.hid hwc; have HWT := Lib.hid hwt
        clear hO hwc hwt hbk
        go_wp2_with fail
        go_region_held3 (fun w' => w'.cell? ⟨K, 0, none⟩ = some (.string ⟨t.name.toArray⟩) ∧ w'.cell? ⟨K, 1, none⟩ = some (.string ⟨t.filt.toArray⟩) ∧ w'.cell? ⟨K, 2, none⟩ = some (.int .i64 t.src) ∧ w'.cell? ⟨K, 3, none⟩ = some (.int .i64 t.start) ∧ w'.cell? ⟨K, 4, none⟩ = some (.int .i64 t.ack) ∧ w'.cell? ⟨K, 5, none⟩ = some (.int .i64 t.wait) ∧ w'.cell? ⟨K, 6, none⟩ = some vb ∧ w'.cell? ⟨K, 7, none⟩ = some (.int .i64 t.most) ∧ w'.cell? ⟨K, 8, none⟩ = some (.int .i64 t.pend) ∧ w'.cell? ⟨K, 9, none⟩ = some (.bool t.push) ∧ w'.cell? ⟨g, off + i * 3 + 1, none⟩ = some (.int .i64 p.nth))
          (first | (with_reducible exact ⟨c0, c1, c2, c3, c4, c5, c6, c7, c8, c9, m1⟩) | (with_reducible exact ⟨z0, z1, z2, z3, z4, z5, z6, z7, z8, z9, y1⟩) | (with_reducible assumption) | go_keep)
          ((go_at_call 21; ((refine (HWC.out _ (Below.refl _ _).drew).mono ?_); rintro e w6 ⟨rfl, h6⟩; have hb6 : Below w2.heap.size w2 w6 := (Below.refl _ _).drew.trans h6; have hp6 := H2.out.next hb6; obtain ⟨c0, c1, c2, c3, c4, c5, c6, c7, c8, c9, _, _, _, _⟩ := hp6.cells; have hrw6 : Row w6 tp 3 (.slice (some ⟨g, off, none⟩) m cap) m (pdsV c.l) := HRW.out.kept (fun k _ hk => hb6.block k hk); obtain ⟨_, m1, m2, _, f2⟩ := cells_pd hrw6 i p HP.out hil; have h7 := hp6.setDue HM.out.symm HP.out (now + wt); obtain ⟨z0, z1, z2, z3, z4, z5, z6, z7, z8, z9, _, _, _, _⟩ := h7.1.cells; have hset : (c.l.set i ⟨p.seq, p.nth, now + wt⟩)[i]? = some ⟨p.seq, p.nth, now + wt⟩ := (by rw [List.getElem?_set_self (by rw [HM.out]; exact hil)]); have hrw7 : Row (w6.setCell ⟨g, off + i * 3 + 2, none⟩ (.int .i64 (now + wt))) tp 3 (.slice (some ⟨g, off, none⟩) m cap) m (pdsV (c.l.set i ⟨p.seq, p.nth, now + wt⟩)) := (by have := h7.1.row; simp only [List.length_set, HM.out] at this; exact this); obtain ⟨_, y1, _, _, _⟩ := cells_pd hrw7 i _ hset hil; have hgl6 : g < w6.heap.size := Nat.lt_of_lt_of_le hgl hb6.size; have HFI := Lib.hid (show NextC tc tp W K t vb (.slice (some ⟨g, off, none⟩) m cap) w ⟨c.place, c.count, c.l.set i ⟨p.seq, p.nth, now + wt⟩⟩ (w6.setCell ⟨g, off + i * 3 + 2, none⟩ (.int .i64 (now + wt))) from ⟨_, h7.1, ((Heap.Touch.ofBelow HBW.out).after (Heap.Touch.ofBelow hb6)).after (h7.2.mono fun _ _ e => .inr e), fun k hk => .inl hk⟩); clear hp6 h7 hb6 hrw6 hrw7 hset h6)))
        go_wp2_with fail
        go_ret
        rw [HO2.out, HWT.out]
        exact ⟨rfl, HFI.out⟩
      · have hO := HO.out
        rw [if_neg (by decide), if_neg (by decide), if_pos ⟨rfl, hak⟩] at hO
        have HO2 := Lib.hid hO.symm
        rw [hak] at c4
        clear hO hak
        obtain ⟨d, hd⟩ : ∃ d, m = d + (i + 1) := ⟨m - ((i + 1)), by omega⟩
        have hrw := HRW.out
        rw [hd] at hrw
        have hdel := Del.delete_any (w := w2) (m := d) (i := 0) (d := (i + 1)) (xs := pdsV c.l) g off cap (by omega) (by omega) (by omega) (by omega) hrw (pdsV_one _)
        rw [← hd] at hdel
        rw [show (((0 : Nat) : Int)) = 0 from rfl, show ((0 : Int) + ((i + 1 : Nat) : Int)) = (i : Int) + 1 by omega] at hdel
        have hpt : (pdsV c.l).take (0 * 3) ++ (pdsV c.l).drop ((0 + ((i + 1))) * 3) = pdsV (c.l.drop (i + 1)) := by
          rw [pdsV_take, pdsV_drop, ← pdsV_append]
          rw [List.take_zero, List.nil_append, Nat.zero_add]
        rw [hpt] at hdel
        have hdl : (c.l.drop (i + 1)).length = d := by rw [List.length_drop, HM.out]; omega
        have HDEL := Lib.hid hdel; have HDL := Lib.hid hdl
        clear hdel hpt hdl hd hrw
        go_wp2_with fail
        refine HDEL.out.mono ?_
        rintro e w5 ⟨rfl, r5, t5⟩
        have h6 := H2.out.setList (l := c.l.drop (i + 1)) t5 (by rw [HDL.out]; exact r5) (fun k hk => .inl (by simpa [own, Value.ownBlock] using hk))
        have hK5 : w5.heap[K]? = _ := (t5.block K hlt2 (fun e => H2.out.ne K e rfl)).trans H2.out.cell
        have k5 := heap_lt hK5
        have kf5 : ∀ j, w5.frozen? ⟨K, j, none⟩ = false := fun j => frozen_of_row w5 K j _ _ hK5
        have k12 : w5.cell? ⟨K, 12, none⟩ = some (.slice (some ⟨g, off, none⟩) m cap) := by rw [cell_of_row w5 K 12 _ _ _ hK5]; rfl
        have HFI := Lib.hid (show NextC tc tp W K t vb (.slice (some ⟨g, off, none⟩) m cap) w ⟨c.place, c.count, c.l.drop (i + 1)⟩ (w5.setCell ⟨K, 12, none⟩ (.slice (some ⟨g, off, none⟩) d cap)) from
          ⟨_, h6.1, (Heap.Touch.ofBelow HBW.out).after h6.2, fun k hk => .inl (by simpa [own, Value.ownBlock] using hk)⟩)
        clear r5 t5 h6 hK5 HDEL c0 c1 c2 c3 c4 c5 c6 c7 c8 c9 c12 cf m0 m1 m2 f1 f2
        go_wp2_with fail
        go_ret
        rw [HO2.out]
        exact ⟨rfl, HFI.out⟩
      · have hO := HO.out
        rw [if_neg (by omega), if_neg (by omega), if_neg (by omega)] at hO
        have HO2 := Lib.hid hO.symm
        clear hO
        rcases hs with ⟨rfl, hak⟩ | rfl
        · have hak1 : (t.ack == 1) = false := by simpa using hak
          clear hak
          obtain ⟨d, hd⟩ : ∃ d, m = d + 1 := ⟨m - (1), by omega⟩
          have hrw := HRW.out
          rw [hd] at hrw
          have hdel := Del.delete_any (w := w2) (m := d) (i := i) (d := 1) (xs := pdsV c.l) g off cap (by omega) (by omega) (by omega) (by omega) hrw (pdsV_one _)
          rw [← hd] at hdel
          rw [show (((1 : Nat) : Int)) = 1 from rfl] at hdel
          have hpt : (pdsV c.l).take (i * 3) ++ (pdsV c.l).drop ((i + (1)) * 3) = pdsV (c.l.eraseIdx i) := by
            rw [pdsV_take, pdsV_drop, ← pdsV_append]
            rw [← List.eraseIdx_eq_take_drop_succ]
          rw [hpt] at hdel
          have hdl : (c.l.eraseIdx i).length = d := by rw [List.length_eraseIdx, HM.out, if_pos hil]; omega
          have HDEL := Lib.hid hdel; have HDL := Lib.hid hdl
          clear hdel hpt hdl hd hrw
          go_wp2_with fail
          refine HDEL.out.mono ?_
          rintro e w5 ⟨rfl, r5, t5⟩
          have h6 := H2.out.setList (l := c.l.eraseIdx i) t5 (by rw [HDL.out]; exact r5) (fun k hk => .inl (by simpa [own, Value.ownBlock] using hk))
          have hK5 : w5.heap[K]? = _ := (t5.block K hlt2 (fun e => H2.out.ne K e rfl)).trans H2.out.cell
          have k5 := heap_lt hK5
          have kf5 : ∀ j, w5.frozen? ⟨K, j, none⟩ = false := fun j => frozen_of_row w5 K j _ _ hK5
          have k12 : w5.cell? ⟨K, 12, none⟩ = some (.slice (some ⟨g, off, none⟩) m cap) := by rw [cell_of_row w5 K 12 _ _ _ hK5]; rfl
          have HFI := Lib.hid (show NextC tc tp W K t vb (.slice (some ⟨g, off, none⟩) m cap) w ⟨c.place, c.count, c.l.eraseIdx i⟩ (w5.setCell ⟨K, 12, none⟩ (.slice (some ⟨g, off, none⟩) d cap)) from
            ⟨_, h6.1, (Heap.Touch.ofBelow HBW.out).after h6.2, fun k hk => .inl (by simpa [own, Value.ownBlock] using hk)⟩)
          clear r5 t5 h6 hK5 HDEL c0 c1 c2 c3 c4 c5 c6 c7 c8 c9 c12 cf m0 m1 m2 f1 f2
          go_wp2_with fail
          go_ret
          rw [HO2.out]
          exact ⟨rfl, HFI.out⟩
        · skip
          obtain ⟨d, hd⟩ : ∃ d, m = d + 1 := ⟨m - (1), by omega⟩
          have hrw := HRW.out
          rw [hd] at hrw
          have hdel := Del.delete_any (w := w2) (m := d) (i := i) (d := 1) (xs := pdsV c.l) g off cap (by omega) (by omega) (by omega) (by omega) hrw (pdsV_one _)
          rw [← hd] at hdel
          rw [show (((1 : Nat) : Int)) = 1 from rfl] at hdel
          have hpt : (pdsV c.l).take (i * 3) ++ (pdsV c.l).drop ((i + (1)) * 3) = pdsV (c.l.eraseIdx i) := by
            rw [pdsV_take, pdsV_drop, ← pdsV_append]
            rw [← List.eraseIdx_eq_take_drop_succ]
          rw [hpt] at hdel
          have hdl : (c.l.eraseIdx i).length = d := by rw [List.length_eraseIdx, HM.out, if_pos hil]; omega
          have HDEL := Lib.hid hdel; have HDL := Lib.hid hdl
          clear hdel hpt hdl hd hrw
          go_wp2_with fail
          refine HDEL.out.mono ?_
          rintro e w5 ⟨rfl, r5, t5⟩
          have h6 := H2.out.setList (l := c.l.eraseIdx i) t5 (by rw [HDL.out]; exact r5) (fun k hk => .inl (by simpa [own, Value.ownBlock] using hk))
          have hK5 : w5.heap[K]? = _ := (t5.block K hlt2 (fun e => H2.out.ne K e rfl)).trans H2.out.cell
          have k5 := heap_lt hK5
          have kf5 : ∀ j, w5.frozen? ⟨K, j, none⟩ = false := fun j => frozen_of_row w5 K j _ _ hK5
          have k12 : w5.cell? ⟨K, 12, none⟩ = some (.slice (some ⟨g, off, none⟩) m cap) := by rw [cell_of_row w5 K 12 _ _ _ hK5]; rfl
          have HFI := Lib.hid (show NextC tc tp W K t vb (.slice (some ⟨g, off, none⟩) m cap) w ⟨c.place, c.count, c.l.eraseIdx i⟩ (w5.setCell ⟨K, 12, none⟩ (.slice (some ⟨g, off, none⟩) d cap)) from
            ⟨_, h6.1, (Heap.Touch.ofBelow HBW.out).after h6.2, fun k hk => .inl (by simpa [own, Value.ownBlock] using hk)⟩)
          clear r5 t5 h6 hK5 HDEL c0 c1 c2 c3 c4 c5 c6 c7 c8 c9 c12 cf m0 m1 m2 f1 f2
          go_wp2_with fail
          go_ret
          rw [HO2.out]
          exact ⟨rfl, HFI.out⟩
end
end Go.Proofs.YtapmhpnkpjgefaaDoor.Con
