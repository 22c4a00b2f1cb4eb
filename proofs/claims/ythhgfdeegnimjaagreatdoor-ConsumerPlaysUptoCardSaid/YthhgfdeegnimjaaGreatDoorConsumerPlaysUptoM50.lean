/- Parts of the proof, joined: The reference's consumer: Next, walked. -/
import Derived.Test.YthhgfdeegnimjaaGreatDoorConsumerPlaysUptoM47
import Derived.Test.YthhgfdeegnimjaaGreatDoorConsumerPlaysUptoM48
namespace Go.Proofs.YthhgfdeegnimjaaGreatDoor.Hnd
open Go.RowKit Heap Con
open Subj (Tok TakerP ML errT errT_facts argsOk_facts)
open Sto (ChAt Right seekR tk recV parts sixC Parts set6 getQ get_ch GetPost)
open Rec (Rc far)
open Idx (Ents)

theorem tenK {ty : TypeId} {w : World} {K : Nat} {t : TakerP} {vb v : Value} {c : Cn} (h : w.heap[K]? = some (.cells (conC t vb v c) ty (0, 0))) :
    w.cell? ⟨K, 0, none⟩ = some (.string ⟨t.name.toArray⟩) ∧ w.cell? ⟨K, 1, none⟩ = some (.string ⟨t.filt.toArray⟩) ∧ w.cell? ⟨K, 2, none⟩ = some (.int .i64 t.src) ∧ w.cell? ⟨K, 3, none⟩ = some (.int .i64 t.start) ∧
    w.cell? ⟨K, 4, none⟩ = some (.int .i64 t.ack) ∧ w.cell? ⟨K, 5, none⟩ = some (.int .i64 t.wait) ∧ w.cell? ⟨K, 6, none⟩ = some vb ∧ w.cell? ⟨K, 7, none⟩ = some (.int .i64 t.most) ∧ w.cell? ⟨K, 8, none⟩ = some (.int .i64 t.pend) ∧ w.cell? ⟨K, 9, none⟩ = some (.bool t.push) := by
  refine ⟨?_, ?_, ?_, ?_, ?_, ?_, ?_, ?_, ?_, ?_⟩ <;> (rw [cell_of_row w K _ _ _ _ h]; rfl)

section
variable {W w w1 : World} {C K k : Nat} {vC : Value} {L : List Rc} {last : Int} {t : TakerP} {vb v : Value} {c : Cn} {I : Ents}

set_option maxHeartbeats 8000000 in
set_option maxRecDepth 100000 in
theorem next_h (h : HPair W C vC L last K t vb v c w) (hR : Right L last I) (hk : Ok k c) (hkb : k ≤ 90000) (hfew : c.l.length ≤ 900) (ht : errT t = 0) (now : Int) :
    Calls Tryz.prog 15 #[.pointer (some ⟨K, 0, none⟩), .pointer (some ⟨C, 0, none⟩), .int .i64 now] w (NextPostH W K t vb v w (nextP t L now c)) := by
  have hcnt := hk.count
  have hlen := hk.len
  have hfar : far = 1099511627776 := rfl
  have hmost := (argsOk_facts (errT_facts ht).2.2.2).2.2.2.2.2.2.2.1
  have hpend := (argsOk_facts (errT_facts ht).2.2.2).2.2.2.2.2.2.2.2.1
  obtain ⟨O, hO⟩ : ∃ O, nextP t L now c = O := ⟨_, rfl⟩
  rw [hO]
  unfold nextP at hO
  obtain ⟨wz, hwz⟩ : ∃ wz, wz = w.alloc (.cells #[.int .i64 0, .string ⟨#[]⟩, .string ⟨#[]⟩, .int .i64 0, .int .i64 0, .int .i64 0] 47) := ⟨_, rfl⟩
  have hbz : Below w.heap.size w wz := by rw [hwz]; exact (Below.refl _ _).alloc (Nat.le_refl _) _
  have hez : wz.heap[w.heap.size]? = some (.cells #[.int .i64 0, .string ⟨#[]⟩, .string ⟨#[]⟩, .int .i64 0, .int .i64 0, .int .i64 0] 47 (0, 0)) := by rw [hwz]; exact heap_alloc_new w _
  obtain ⟨rb, hrb⟩ : ∃ rb, w.heap.size = rb := ⟨_, rfl⟩
  rw [hrb] at hez
  have hKr : K < rb := by have := heap_lt h.hd.cell; omega
  have hVr : ∀ k, own v k → k < rb := fun k hk => by rw [← hrb]; exact h.hd.row.lt k hk
  have hPUT := fun (c' : Cn) (w1 : World) (hx : NxH W K t vb v w rb c' w1) => hx.put hrb h.hd.below.size hKr hVr (fun k hk => by rw [← hrb]; exact (h.hd.fb k hk).1)
  have HPUT := Lib.hid hPUT; have HH := Lib.hid h; have HZ := Lib.hid (h.next hbz); have HBZ := Lib.hid hbz; have HEZ := Lib.hid hez; have HRB := Lib.hid hrb; have HK := Lib.hid hk; have HRT := Lib.hid hR; have HT := Lib.hid ht; have HVR := Lib.hid hVr
  obtain ⟨r0, r1, r2, r3, r4, r5⟩ := sixC hez
  have rf : ∀ j, wz.frozen? ⟨rb, j, none⟩ = false := fun j => frozen_of_row wz rb j _ _ hez
  have hrl := heap_lt hez
  clear h hbz hez hrb hk hR ht hPUT hVr
  go_enter Tryz.func15, Tryz.ntmps15
  go_upto_region 1 with fail
  rw [← hwz, HRB.out]
  clear hwz
  by_cases hnow : now < 0 ∨ far < now
  · rw [if_pos hnow] at hO
    subst hO
    have HFI := Lib.hid (HPUT.out c wz ⟨v, HZ.out.hd, Heap.Touch.ofBelow HBZ.out, fun k hk => .inl hk, _, _, _, _, _, _, HEZ.out⟩ (.int .i64 0) (.string ⟨#[]⟩) (.string ⟨#[]⟩) (.int .i64 0) (.int .i64 0) (.int .i64 0))
    have HIN := Lib.hid (Drw.in_no now 0 1099511627776 wz (by omega))
    clear hnow
    go_wp2_with fail
    refine HIN.out.mono ?_
    rintro e w2 ⟨rfl, rfl⟩
    go_wp2_with fail
    refine bodyPost_ret (v := .tuple #[.agg #[.int .i64 0, .string ⟨#[]⟩, .string ⟨#[]⟩, .int .i64 0, .int .i64 0, .int .i64 0], .int .i64 1]) (res_del2 6 7 Tryz.results15 _ _ rb rfl rfl HFI.out.2) rfl ?_
    exact ⟨rfl, HFI.out.1⟩
  rw [if_neg hnow] at hO
  have hn0 : 0 ≤ now ∧ now ≤ far := by omega
  have HIN := Lib.hid (Drw.in_yes now 0 1099511627776 wz (by omega))
  have HO := Lib.hid hO
  clear hnow hO r0 r1 r2 r3 r4 r5 rf hrl
  go_wp2_with fail
  refine HIN.out.mono ?_
  rintro e w2 ⟨rfl, rfl⟩
  have H0 := Lib.hid (show AgH W C vC L last K t vb v c rb w [] c.l wz from ⟨v, HZ.out, Heap.Touch.ofBelow HBZ.out, fun k hk => .inl hk, HEZ.out⟩)
  have P0 := Lib.hid (show AgQ t L now c.l [] c.l from ⟨⟨by simp, fun p hp => hp⟩, List.Sublist.refl _⟩)
  obtain ⟨l0, hl0⟩ : ∃ l0, c.l = l0 := ⟨_, rfl⟩
  have HL0 := Lib.hid hl0
  have hlb : l0.length ≤ 900 := by rw [← hl0]; exact hfew
  clear hl0 hlen HIN
  go_wp2_with fail
  go_loopw [8] (fun i wr => ∃ (A R : List Pd), i = .int .i64 (A.length : Nat) ∧ A.length + R.length ≤ l0.length ∧ Hid (AgQ t L now c.l A R) ∧ Hid (AgH W C vC L last K t vb v c rb w A R wr)) (fun i wr => lenC K wr - (intOf i).toNat)
  case atStart => exact ⟨[], c.l, rfl, by rw [HL0.out]; simp, P0, H0⟩
  case round =>
    obtain ⟨A, R, rfl, hle, HP, HS⟩ := hrel
    clear H0 P0
    obtain ⟨v1, hp1, ht1, ho1, hr1⟩ := HS.out
    obtain ⟨a, ha⟩ : ∃ a, A.length = a := ⟨_, rfl⟩
    have HA := Lib.hid ha
    rw [ha] at hle ⊢
    obtain ⟨c0, c1, c2, c3, c4, c5, c6, c7, c8, c9, c10, c11, c12, cf⟩ := hp1.hd.cells
    have hlt := heap_lt hp1.hd.cell
    have hrow := hp1.hd.row
    have hlc := lenH hp1.hd
    obtain ⟨n, hn⟩ : ∃ n, (A ++ R).length = n := ⟨_, rfl⟩
    have hnl : n = a + R.length := by rw [← hn, List.length_append, ha]
    have hrow2 : Row wr tq 3 v1 n (pdsV (A ++ R)) := by rw [← hn]; exact hrow
    have hlc2 : lenC K wr = n := by rw [← hn]; exact hlc
    have HLC := Lib.hid hlc2; have HNL := Lib.hid hn
    have hnb : n ≤ 900 := by omega
    clear ha hrow hlc hn hlc2
    cases R with
    | nil =>
      -- fresh
      obtain rfl : n = a := by simpa using hnl
      obtain ⟨va, vc, rfl⟩ := hrow2.slice
      have hend := HP.out.1.end_
      have hO := HO.out
      rw [hend] at hO
      simp only at hO
      unfold freshP at hO
      simp only [HA.out] at hO
      have HP3 := Lib.hid (show HPair W C vC L last K t vb (.slice va n vc) ⟨c.place, c.count, A⟩ wr from by have := hp1; rw [List.append_nil] at this; exact this)
      have HT3 := Lib.hid ht1; have HO3 := Lib.hid ho1; have HR3 := Lib.hid hr1
      clear hrow2 hnl hend ht1 ho1 hr1 hp1 HNL HLC HP HS HO
      obtain ⟨Bp, hBp⟩ : ∃ Bp, decide (0 < t.pend ∧ t.pend ≤ (n : Int)) = Bp := ⟨_, rfl⟩
      have HBp := Lib.hid hBp
      have HO := Lib.hid hO
      clear hBp hO
      go_upto_region 15 with fail
      go_cut [123] from 105 to 123 (fun s123 wx => s123 = .bool Bp ∧ Hid (∃ q, wx = wr.drewN q))
      case first =>
        have hBp := HBp.out
        by_cases hp0 : t.pend = 0
        · have d1 : (t.pend != 0) = false := by rw [hp0]; rfl
          obtain rfl : Bp = false := by rw [← hBp, hp0]; simp
          clear hBp hp0
          go_quiet (fail)
          go_wp2_with fail
          go_meet
          exact ⟨by simp, Lib.hid ⟨_, rfl⟩⟩
        · have d1 : (t.pend != 0) = true := by simpa using hp0
          obtain ⟨Bq, hBq⟩ : ∃ Bq, decide (t.pend ≤ (n : Int)) = Bq := ⟨_, rfl⟩
          obtain rfl : Bp = Bq := by rw [← hBp, ← hBq]; congr 1; simp; omega
          clear hBp hp0
          go_quiet (fail)
          go_wp2_with fail
          go_meet
          exact ⟨by simp, Lib.hid ⟨_, rfl⟩⟩
      case rest =>
      obtain ⟨rfl, hcq⟩ := hcut
      obtain ⟨q, hwq⟩ := hcq.out
      generalize wc = wb at *
      have hb4 : Below wr.heap.size wr wb := by rw [hwq]; exact below_drewN (Below.refl _ _) q
      have HP4 := Lib.hid (HP3.out.next hb4)
      have HT4 := Lib.hid (HT3.out.after (Heap.Touch.ofBelow hb4))
      have HR4 := Lib.hid ((hb4.block rb (heap_lt HR3.out)).trans HR3.out)
      clear hcq hwq hb4 HP3 HT3 HR3 c0 c1 c2 c3 c4 c5 c6 c7 c8 c9 c10 c11 c12 cf hlt
      have hO := HO.out
      have hBp := HBp.out
      have hpl := HK.out.place
      obtain ⟨r0, r1, r2, r3, r4, r5⟩ := sixC HR4.out
      have rf : ∀ j, wb.frozen? ⟨rb, j, none⟩ = false := fun j => frozen_of_row wb rb j _ _ HR4.out
      have hrl := heap_lt HR4.out
      cases Bp with
      | true =>
        rw [if_pos (of_decide_eq_true hBp)] at hO
        subst hO
        have HFI := Lib.hid (HPUT.out _ wb ⟨_, HP4.out.hd, HT4.out, HO3.out, _, _, _, _, _, _, HR4.out⟩ (.int .i64 0) (.string ⟨#[]⟩) (.string ⟨#[]⟩) (.int .i64 0) (.int .i64 0) (.int .i64 0))
        clear hBp HO
        go_wp2_with fail
        refine bodyPost_ret (v := .tuple #[.agg #[.int .i64 0, .string ⟨#[]⟩, .string ⟨#[]⟩, .int .i64 0, .int .i64 0, .int .i64 0], .int .i64 11]) (res_del2 6 7 Tryz.results15 _ _ rb rfl rfl HFI.out.2) rfl ?_
        exact ⟨rfl, HFI.out.1⟩
      | false =>
        rw [if_neg (of_decide_eq_false hBp)] at hO
        obtain ⟨fo, hfo⟩ : ∃ fo, L.find? (want t c.place) = fo := ⟨_, rfl⟩
        have hpl := HK.out.place
        have hnw := fun w' (hb : Below wb.heap.size wb w') => seek_h (HP4.out.next hb).ch HRT.out HT.out c.place
        rw [hfo] at hnw
        simp only [hfo] at hO
        obtain ⟨sr, hsr⟩ : ∃ sr, seekR 0 fo = sr := ⟨_, rfl⟩
        rw [hsr] at hnw
        obtain ⟨s, hdd, d, hpp⟩ := parts sr.1
        unfold Sto.recV at hnw
        rw [hpp.s1, hpp.h1, hpp.d1] at hnw
        obtain ⟨rx, er⟩ := sr
        simp only at hnw hpp
        have HNW := Lib.hid hnw; have HFO := Lib.hid hfo; have HSR := Lib.hid hsr; have HPP := Lib.hid hpp; have HO2 := Lib.hid hO
        obtain ⟨_, c1, _, _, _, _, _, _, _, _, c10, _, _, _⟩ := HP4.out.hd.cells
        simp only at c10
        have hlt4 := heap_lt HP4.out.hd.cell
        clear hnw hfo hsr hpp hO HO hBp
        have hb4 : Below wb.heap.size wb ((wb.alloc (.cells #[.int .i64 0, .int .i64 0, .int .i64 0, .string ⟨#[]⟩, .string ⟨#[]⟩, .string ⟨#[]⟩] 33)).drew) := ((Below.refl _ _).alloc (Nat.le_refl _) _).drew
        have he4 : ((wb.alloc (.cells #[.int .i64 0, .int .i64 0, .int .i64 0, .string ⟨#[]⟩, .string ⟨#[]⟩, .string ⟨#[]⟩] 33)).drew).heap[wb.heap.size]? = some (.cells #[.int .i64 0, .int .i64 0, .int .i64 0, .string ⟨#[]⟩, .string ⟨#[]⟩, .string ⟨#[]⟩] 33 (0, 0)) := heap_alloc_new wb _
        have HB4 := Lib.hid hb4; have HE4 := Lib.hid he4
        clear hb4 he4
        go_upto_region 17 with fail
        go_cut [12, 13] from 125 to 138 (fun s12 s13 wx => ∃ bq, s12 = .pointer (some ⟨bq, 0, none⟩) ∧ s13 = .int .i64 (er : Nat) ∧ Hid (Below wb.heap.size wb wx ∧ wx.heap[bq]? = some (.cells #[.int .i64 rx.kind, .int .i64 rx.seq, .int .i64 rx.time, .string s, .string hdd, .string d] 33 (0, 0)) ∧ wb.heap.size ≤ bq))
        case first =>
          go_wp2_with fail
          go_region_held3 (fun w' => w'.cell? ⟨K, 1, none⟩ = some (.string ⟨t.filt.toArray⟩) ∧ w'.cell? ⟨K, 10, none⟩ = some (.int .i64 c.place))
            (first | (with_reducible exact ⟨c1, c10⟩) | (with_reducible exact ⟨z1, z10⟩) | (with_reducible assumption) | go_keep)
            ((go_at_call 64; first
              | ((refine (HNW.out _ HB4.out).mono ?_); rintro e w5 ⟨rfl, h5⟩; have hb5 : Below wb.heap.size wb w5 := HB4.out.trans (h5.mono HB4.out.size); obtain ⟨_, c1, _, _, _, _, _, _, _, _, c10, _, _, _⟩ := (HP4.out.next hb5).hd.cells; simp only at c10; have hlt5 := heap_lt (HP4.out.next hb5).hd.cell; have he5 := (h5.block wb.heap.size (heap_lt HE4.out)).trans HE4.out; obtain ⟨q0, q1, q2, q3, q4, q5⟩ := sixC he5; have qf : ∀ j, w5.frozen? ⟨wb.heap.size, j, none⟩ = false := (fun j => frozen_of_row w5 _ j _ _ he5); have hql := heap_lt he5; have z1 := (World.cell?_of_block (a := ⟨K, 1, none⟩) (heap_set6 w5 (show K ≠ wb.heap.size from Nat.ne_of_lt hlt4) (.int .i64 rx.kind) (.int .i64 rx.seq) (.int .i64 rx.time) (.string s) (.string hdd) (.string d))).trans c1; have z10 := (World.cell?_of_block (a := ⟨K, 10, none⟩) (heap_set6 w5 (show K ≠ wb.heap.size from Nat.ne_of_lt hlt4) (.int .i64 rx.kind) (.int .i64 rx.seq) (.int .i64 rx.time) (.string s) (.string hdd) (.string d))).trans c10; have HEND := Lib.hid (show Below wb.heap.size wb ((((((w5.setCell ⟨wb.heap.size, 0, none⟩ (.int .i64 rx.kind)).setCell ⟨wb.heap.size, 1, none⟩ (.int .i64 rx.seq)).setCell ⟨wb.heap.size, 2, none⟩ (.int .i64 rx.time)).setCell ⟨wb.heap.size, 3, none⟩ (.string s)).setCell ⟨wb.heap.size, 4, none⟩ (.string hdd)).setCell ⟨wb.heap.size, 5, none⟩ (.string d)) ∧ ((((((w5.setCell ⟨wb.heap.size, 0, none⟩ (.int .i64 rx.kind)).setCell ⟨wb.heap.size, 1, none⟩ (.int .i64 rx.seq)).setCell ⟨wb.heap.size, 2, none⟩ (.int .i64 rx.time)).setCell ⟨wb.heap.size, 3, none⟩ (.string s)).setCell ⟨wb.heap.size, 4, none⟩ (.string hdd)).setCell ⟨wb.heap.size, 5, none⟩ (.string d)).heap[wb.heap.size]? = some (.cells #[.int .i64 rx.kind, .int .i64 rx.seq, .int .i64 rx.time, .string s, .string hdd, .string d] 33 (0, 0)) ∧ wb.heap.size ≤ wb.heap.size from ⟨Sto.below6 hb5 (Nat.le_refl _) _ _ _ _ _ _, Sto.set6 _ _ _ _ _ _ he5, Nat.le_refl _⟩); clear h5 hb5 he5)
              | ((refine (HNW.out _ (Below.refl _ _).drew).mono ?_); rintro e w5 ⟨rfl, h5⟩; have hb5 : Below wb.heap.size wb w5 := (Below.refl _ _).drew.trans h5; obtain ⟨_, c1, _, _, _, _, _, _, _, _, c10, _, _, _⟩ := (HP4.out.next hb5).hd.cells; simp only at c10; have hlt5 := heap_lt (HP4.out.next hb5).hd.cell; have HEND := Lib.hid (show Below wb.heap.size wb (w5.alloc (.cells #[.int .i64 rx.kind, .int .i64 rx.seq, .int .i64 rx.time, .string s, .string hdd, .string d] 33)) ∧ (w5.alloc (.cells #[.int .i64 rx.kind, .int .i64 rx.seq, .int .i64 rx.time, .string s, .string hdd, .string d] 33)).heap[w5.heap.size]? = some (.cells #[.int .i64 rx.kind, .int .i64 rx.seq, .int .i64 rx.time, .string s, .string hdd, .string d] 33 (0, 0)) ∧ wb.heap.size ≤ w5.heap.size from ⟨hb5.trans ((Below.refl _ _).alloc hb5.size _), heap_alloc_new w5 _, hb5.size⟩); clear h5 hb5)))
          all_goals
            go_wp2_with fail
            go_meet
            exact ⟨_, rfl, rfl, HEND⟩
        case rest =>
        obtain ⟨bq, rfl, rfl, hcc⟩ := hcut
        obtain ⟨hb5, he5, hbq⟩ := hcc.out
        clear hcc hrl rf r0 r1 r2 r3 r4 r5 c1 c10 hlt4
        have HP5 := Lib.hid (HP4.out.next hb5)
        have HT5 := Lib.hid (HT4.out.after (Heap.Touch.ofBelow hb5))
        have HR5 := Lib.hid ((hb5.block rb (heap_lt HR4.out)).trans HR4.out)
        have HE5 := Lib.hid he5
        have hx := heap_lt HR4.out
        have HX := Lib.hid (show rb < bq ∧ K < bq ∧ ∀ k, own (.slice va n vc) k → k < bq from ⟨by omega, by omega, fun k hk => by have := HP4.out.hd.row.lt k hk; omega⟩)
        clear hb5 he5 hbq hx HP4 HT4 HR4 HB4 HE4 HNW
        obtain ⟨r0, r1, r2, r3, r4, r5⟩ := sixC HR5.out
        have rf : ∀ j, wc.frozen? ⟨rb, j, none⟩ = false := fun j => frozen_of_row wc rb j _ _ HR5.out
        have hrl := heap_lt HR5.out
        by_cases her : er = 0
        · subst her
          obtain rfl : fo = some rx := by
            cases fo with
            | none => have := HSR.out; rw [show seekR 0 (none : Option Rc) = (Rc.zero, 4) from rfl] at this; simp only [Prod.mk.injEq] at this; omega
            | some x =>
              have := HSR.out
              rw [show seekR 0 (some x) = (x, 0) from rfl] at this
              simp only [Prod.mk.injEq] at this
              rw [this.1]
          have hrm := List.mem_of_find?_eq_some HFO.out
          have hxs : 1 ≤ rx.seq ∧ rx.seq ≤ far := by
            exact seq_pos HRT.out rx hrm
          have hws : IntKind.i64.wrap (rx.seq + 1) = rx.seq + 1 := IntWalk.i64_in _ (by omega)
          have HXS := Lib.hid hxs
          have hO := HO2.out
          simp only at hO
          clear hrm HO2
          obtain ⟨_, _, _, _, _, _, _, _, _, _, c10, _, _, cf⟩ := HP5.out.hd.cells
          have hlt5 := heap_lt HP5.out.hd.cell
          have q1 := (sixC HE5.out).2.1
          have hbl := heap_lt HE5.out
          have hpy := setPlace_h HP5.out.hd (rx.seq + 1)
          have hpp2 := HP5.out.of hpy.1 hpy.2 fun k hk => .inl hk
          obtain ⟨wy, hwy⟩ : ∃ wy, wy = wc.setCell ⟨K, 10, none⟩ (.int .i64 (rx.seq + 1)) := ⟨_, rfl⟩
          rw [← hwy] at hpp2 hpy
          have hty := HT5.out.after ((touch_K wc K 10 (.int .i64 (rx.seq + 1))).mono (G := fun k => k = K ∨ own v k) fun _ _ e => Or.inl e)
          rw [← hwy] at hty
          have hry : wy.heap[rb]? = _ := (by rw [hwy]; exact heap_setCell_other _ _ _ _ (show rb ≠ K by omega) : wy.heap[rb]? = wc.heap[rb]?).trans HR5.out
          have hey : wy.heap[bq]? = _ := (by rw [hwy]; exact heap_setCell_other _ _ _ _ (show bq ≠ K by have := HX.out.2.1; omega) : wy.heap[bq]? = wc.heap[bq]?).trans HE5.out
          have HPY := Lib.hid hpp2; have HTY := Lib.hid hty; have HRY := Lib.hid hry; have HEY := Lib.hid hey; have HO := Lib.hid hO
          clear hpy hpp2 hty hry hey hO
          go_upto_region 21 with fail
          rw [← hwy]
          clear hwy c10 cf hlt5 q1 hbl HP5 HT5 HR5 HE5 r0 r1 r2 r3 r4 r5 rf hrl
          have hO := HO.out
          have c4 := HPY.out.hd.cells.2.2.2.2.1
          have hlt6 := heap_lt HPY.out.hd.cell
          by_cases hak : t.ack = 0
          · rw [if_pos hak] at hO
            have HOO := Lib.hid hO.symm
            rw [hak] at c4
            clear hO hak HO
            go_upto_region 23 with fail
            clear c4 hlt6
            have htl := told_h HPY.out HRT.out (by have := HXS.out; show 1 ≤ rx.seq + 1 ∧ rx.seq + 1 ≤ far + 1; omega) (by have := HK.out.count; show 0 ≤ c.count ∧ c.count ≤ _; omega) HT.out rx 1
            unfold Sto.recV at htl
            rw [HPP.out.s1, HPP.out.h1, HPP.out.d1] at htl
            obtain ⟨q0, q1, q2, q3, q4, q5⟩ := sixC HEY.out
            have hbl := heap_lt HEY.out
            obtain ⟨dl, hdl⟩ : ∃ dl, (tellP t L ⟨rx.seq + 1, c.count, A⟩ rx 1).2 = dl := ⟨_, rfl⟩
            have HDL := Lib.hid hdl
            obtain ⟨ds, hds⟩ : ∃ ds : ByteArray, (⟨dl.subj.toArray⟩ : ByteArray) = ds := ⟨_, rfl⟩
            obtain ⟨dd, hddd⟩ : ∃ dd : ByteArray, (⟨dl.data.toArray⟩ : ByteArray) = dd := ⟨_, rfl⟩
            have HDV := Lib.hid (show delV dl = .agg #[.int .i64 dl.seq, .string ds, .string dd, .int .i64 dl.count, .int .i64 dl.nth, .int .i64 dl.left] by unfold delV; rw [hds, hddd])
            have HTL := Lib.hid htl
            clear htl hdl hds hddd
            go_wp2_with fail
            refine HTL.out.mono ?_
            rintro e w8 ⟨he8, hc8, t8⟩
            rw [HDL.out, HDV.out] at he8
            subst he8
            have hr8 := (t8.block rb (heap_lt HRY.out) (fun e => by omega)).trans HRY.out
            obtain ⟨r0, r1, r2, r3, r4, r5⟩ := sixC hr8
            have rf : ∀ j, w8.frozen? ⟨rb, j, none⟩ = false := fun j => frozen_of_row w8 rb j _ _ hr8
            have hrl := heap_lt hr8
            have HFI := Lib.hid (HPUT.out ⟨rx.seq + 1, c.count + 1, A⟩ w8 ⟨_, hc8, HTY.out.after (t8.mono fun _ _ e => Or.inl e), HO3.out, _, _, _, _, _, _, hr8⟩ (.int .i64 dl.seq) (.string ds) (.string dd) (.int .i64 dl.count) (.int .i64 dl.nth) (.int .i64 dl.left))
            clear hc8 t8 hr8 HTL q0 q1 q2 q3 q4 q5 hbl
            go_wp2_with fail
            refine bodyPost_ret (v := .tuple #[.agg #[.int .i64 dl.seq, .string ds, .string dd, .int .i64 dl.count, .int .i64 dl.nth, .int .i64 dl.left], .int .i64 0]) (res_del2 6 7 Tryz.results15 _ _ rb rfl rfl HFI.out.2) rfl ?_
            rw [HOO.out]
            exact ⟨by rw [← HDV.out, ← HDL.out]; rfl, HFI.out.1⟩
          · rw [if_neg hak] at hO
            have hak0 : (t.ack != 0) = true := by simpa using hak
            obtain ⟨wt, hwt⟩ : ∃ wt, waitT t 1 = wt := ⟨_, rfl⟩
            have hwr := wait_range HT.out 1
            rw [hwt] at hwr hO
            have HOO := Lib.hid hO.symm
            have hwd : IntKind.i64.wrap (now + wt) = now + wt := IntWalk.i64_in _ (by omega)
            have hbk : t.back.length ≤ 1048576 := by have := (errT_facts HT.out).2.2.1; omega
            have hwc := fun w' (hb : Below wy.heap.size wy w') => wait_r (HPY.out.next hb).hd.back hbk 1
            rw [hwt] at hwc
            unfold takerV at hwc
            have HWC := Lib.hid hwc
            obtain ⟨i0, hi, hz0, hz1, hz2⟩ := info_parts info_held
            have HAPD := Lib.hid (fun w6 hb6 => append_held (c := ⟨rx.seq + 1, c.count, A⟩) (q := rx.seq) (d := now + wt) (w6 := w6) HPY.out HA.out HTY.out HO3.out HRY.out HEY.out HRB.out hKr (fun e => by have := HVR.out rb e; omega) HX.out.2.1 HX.out.2.2 hb6)
            clear hO hak hwt hwc hbk HO
            go_upto_region 22 with fail
            clear c4 hlt6
            obtain ⟨c0, c1, c2, c3, c4, c5, c6, c7, c8, c9, _, _, c12, cf⟩ := HPY.out.hd.cells
            have cq := (sixC HEY.out).2.1
            have hlt6 := heap_lt HPY.out.hd.cell
            go_cut [162] from 155 to 173 (fun s162 wx => s162 = .int .i64 now ∧ Hid (∃ v3, HPair W C vC L last K t vb v3 ⟨rx.seq + 1, c.count, A ++ [⟨rx.seq, 1, now + wt⟩]⟩ wx ∧ Heap.Touch (fun k => k = K ∨ own v k) w wx ∧ (∀ k, own v3 k → own v k ∨ rb < k) ∧ wx.heap[rb]? = some (.cells #[.int .i64 0, .string ⟨#[]⟩, .string ⟨#[]⟩, .int .i64 0, .int .i64 0, .int .i64 0] 47 (0, 0)) ∧ wx.heap[bq]? = some (.cells #[.int .i64 rx.kind, .int .i64 rx.seq, .int .i64 rx.time, .string s, .string hdd, .string d] 33 (0, 0))))
            case first =>
              refine wp_region_held_drew (S := (fun w' => w'.cell? ⟨K, 0, none⟩ = some (.string ⟨t.name.toArray⟩) ∧ w'.cell? ⟨K, 1, none⟩ = some (.string ⟨t.filt.toArray⟩) ∧ w'.cell? ⟨K, 2, none⟩ = some (.int .i64 t.src) ∧ w'.cell? ⟨K, 3, none⟩ = some (.int .i64 t.start) ∧ w'.cell? ⟨K, 4, none⟩ = some (.int .i64 t.ack) ∧ w'.cell? ⟨K, 5, none⟩ = some (.int .i64 t.wait) ∧ w'.cell? ⟨K, 6, none⟩ = some (vb) ∧ w'.cell? ⟨K, 7, none⟩ = some (.int .i64 t.most) ∧ w'.cell? ⟨K, 8, none⟩ = some (.int .i64 t.pend) ∧ w'.cell? ⟨K, 9, none⟩ = some (.bool t.push) ∧ w'.cell? ⟨bq, 1, none⟩ = some (.int .i64 rx.seq))) (by kernel_rfl) ⟨c0, c1, c2, c3, c4, c5, c6, c7, c8, c9, cq⟩ (fun hHeld => ?_)
              refine wpAnyH_take (i := 0) (v := ?_) rfl (by kernel_rfl) (by kernel_rfl) (by kernel_rfl) (fun _ _ _ h => h) (Or.inl ⟨by rfl, ?_⟩) (by assumption) ?_
              rotate_left
              · intro w hSw; (try dsimp only at hSw); first | (go_simp; done) | (go_simp; with_reducible rfl)
              (try simp only [Act.put, List.getElem_toArray, List.getElem_cons_zero, List.setIfInBounds_toArray, List.set_cons_zero, List.set_cons_succ])
              refine wpAnyH_take (i := 1) (v := ?_) rfl (by kernel_rfl) (by kernel_rfl) (by kernel_rfl) (fun _ _ _ h => h) (Or.inl ⟨by rfl, ?_⟩) (by assumption) ?_
              rotate_left
              · intro w hSw; (try dsimp only at hSw); first | (go_simp; done) | (go_simp; with_reducible rfl)
              (try simp only [Act.put, List.getElem_toArray, List.getElem_cons_succ, List.getElem_cons_zero, List.setIfInBounds_toArray, List.set_cons_zero, List.set_cons_succ])
              refine wpAnyH_take (i := 2) (v := ?_) rfl (by kernel_rfl) (by kernel_rfl) (by kernel_rfl) (fun _ _ _ h => h) (Or.inl ⟨by rfl, ?_⟩) (by assumption) ?_
              rotate_left
              · intro w hSw; (try dsimp only at hSw); first | (go_simp; done) | (go_simp; with_reducible rfl)
              (try simp only [Act.put, List.getElem_toArray, List.getElem_cons_succ, List.getElem_cons_zero, List.setIfInBounds_toArray, List.set_cons_zero, List.set_cons_succ])
              refine wpAnyH_take (i := 3) (v := ?_) rfl (by kernel_rfl) (by kernel_rfl) (by kernel_rfl) (fun _ _ _ h => h) (Or.inl ⟨by rfl, ?_⟩) (by assumption) ?_
              rotate_left
              · intro w hSw; (try dsimp only at hSw); first | (go_simp; done) | (go_simp; with_reducible rfl)
              (try simp only [Act.put, List.getElem_toArray, List.getElem_cons_succ, List.getElem_cons_zero, List.setIfInBounds_toArray, List.set_cons_zero, List.set_cons_succ])
              refine wpAnyH_take (i := 5) (v := ?_) rfl (by kernel_rfl) (by kernel_rfl) (by kernel_rfl) (fun _ _ _ h => h) (Or.inl ⟨by rfl, ?_⟩) (by assumption) ?_
              rotate_left
              · intro w hSw; (try dsimp only at hSw); first | (go_simp; done) | (go_simp; with_reducible rfl)
              (try simp only [Act.put, List.getElem_toArray, List.getElem_cons_succ, List.getElem_cons_zero, List.setIfInBounds_toArray, List.set_cons_zero, List.set_cons_succ])
              refine wpAnyH_take (i := 6) (v := ?_) rfl (by kernel_rfl) (by kernel_rfl) (by kernel_rfl) (fun _ _ _ h => h) (Or.inl ⟨by rfl, ?_⟩) (by assumption) ?_
              rotate_left
              · intro w hSw; (try dsimp only at hSw); first | (go_simp; done) | (go_simp; with_reducible rfl)
              (try simp only [Act.put, List.getElem_toArray, List.getElem_cons_succ, List.getElem_cons_zero, List.setIfInBounds_toArray, List.set_cons_zero, List.set_cons_succ])
              refine wpAnyH_take (i := 7) (v := ?_) rfl (by kernel_rfl) (by kernel_rfl) (by kernel_rfl) (fun _ _ _ h => h) (Or.inl ⟨by rfl, ?_⟩) (by assumption) ?_
              rotate_left
              · intro w hSw; (try dsimp only at hSw); first | (go_simp; done) | (go_simp; with_reducible rfl)
              (try simp only [Act.put, List.getElem_toArray, List.getElem_cons_succ, List.getElem_cons_zero, List.setIfInBounds_toArray, List.set_cons_zero, List.set_cons_succ])
              refine wpAnyH_take (i := 8) (v := ?_) rfl (by kernel_rfl) (by kernel_rfl) (by kernel_rfl) (fun _ _ _ h => h) (Or.inl ⟨by rfl, ?_⟩) (by assumption) ?_
              rotate_left
              · intro w hSw; (try dsimp only at hSw); first | (go_simp; done) | (go_simp; with_reducible rfl)
              (try simp only [Act.put, List.getElem_toArray, List.getElem_cons_succ, List.getElem_cons_zero, List.setIfInBounds_toArray, List.set_cons_zero, List.set_cons_succ])
              refine wpAnyH_take (i := 9) (v := ?_) rfl (by kernel_rfl) (by kernel_rfl) (by kernel_rfl) (fun _ _ _ h => h) (Or.inl ⟨by rfl, ?_⟩) (by assumption) ?_
              rotate_left
              · intro w hSw; (try dsimp only at hSw); first | (go_simp; done) | (go_simp; with_reducible rfl)
              (try simp only [Act.put, List.getElem_toArray, List.getElem_cons_succ, List.getElem_cons_zero, List.setIfInBounds_toArray, List.set_cons_zero, List.set_cons_succ])
              refine wpAnyH_take (i := 10) (v := ?_) rfl (by kernel_rfl) (by kernel_rfl) (by kernel_rfl) (fun _ _ _ h => h) (Or.inl ⟨by rfl, ?_⟩) (by assumption) ?_
              rotate_left
              · intro w hSw; (try dsimp only at hSw); first | (go_simp; done) | (go_simp; with_reducible rfl)
              (try simp only [Act.put, List.getElem_toArray, List.getElem_cons_succ, List.getElem_cons_zero, List.setIfInBounds_toArray, List.set_cons_zero, List.set_cons_succ])
              refine wpAnyH_take (i := 11) (v := ?_) rfl (by kernel_rfl) (by kernel_rfl) (by kernel_rfl) (fun _ _ _ h => h) (Or.inl ⟨by rfl, ?_⟩) (by assumption) ?_
              rotate_left
              · intro w hSw; (try dsimp only at hSw); first | (go_simp; done) | (go_simp; with_reducible rfl)
              (try simp only [Act.put, List.getElem_toArray, List.getElem_cons_succ, List.getElem_cons_zero, List.setIfInBounds_toArray, List.set_cons_zero, List.set_cons_succ])
              refine wpAnyH_ready (rs := [4, 12]) (by kernel_rfl) (by simp) ?_
              refine AllReadyH.cons rfl (fun K' hK => ?_) ?_
              · skip
                go_simp
                refine hK.out _ _ ?_ (fun hHeld1 => ?_)
                · (try dsimp only); first | (with_reducible exact hHeld) | exact hHeld
                clear hK K'
                (try simp only [Act.put, List.getElem_toArray, List.getElem_cons_succ, List.getElem_cons_zero, List.setIfInBounds_toArray, List.set_cons_zero, List.set_cons_succ])
                refine wpAnyH_ready (rs := [12]) (by kernel_rfl) (by simp) ?_
                refine AllReadyH.cons rfl (fun K' hK => ?_) AllReadyH.nil
                go_simp
                go_at_call 70
                refine (HWC.out _ (Below.refl _ _).drew).mono ?_
                rintro e w6 ⟨rfl, h6⟩
                have hb6 : Below wy.heap.size wy w6 := (Below.refl _ _).drew.trans h6
                obtain ⟨e0, e1, e2, e3, e4, e5, e6, e7, e8, e9, _, _, e12, ef⟩ := (HPY.out.next hb6).hd.cells
                have eq := (sixC ((hb6.block bq (heap_lt HEY.out)).trans HEY.out)).2.1
                have haf := HAPD.out w6 hb6
                obtain ⟨a0, a1, a2, a3, a4, a5, a6, a7, a8, a9, _, _, a12, af⟩ := haf.1.hd.cells
                have haq := (Below.heap_alloc w6 (.cells #[.int .i64 rx.seq, .int .i64 1, .int .i64 (now + wt)] 154) bq (Nat.lt_of_lt_of_le (heap_lt HEY.out) hb6.size)).trans ((hb6.block bq (heap_lt HEY.out)).trans HEY.out)
                have aq := (sixC haq).2.1
                have HAQ := Lib.hid haq
                have HAF := Lib.hid haf
                clear h6 hb6 haf haq
                go_wp2_with fail
                refine hK.out _ _ ?_ (fun hHeld2 => ?_)
                · (try dsimp only); first | (with_reducible exact ⟨e0, e1, e2, e3, e4, e5, e6, e7, e8, e9, eq⟩) | exact ⟨e0, e1, e2, e3, e4, e5, e6, e7, e8, e9, eq⟩
                clear hK K'
                (try simp only [Act.put, List.getElem_toArray, List.getElem_cons_succ, List.getElem_cons_zero, List.setIfInBounds_toArray, List.set_cons_zero, List.set_cons_succ])
                refine wpAnyH_take (i := 13) (v := ?_) rfl (by kernel_rfl) (by kernel_rfl) (by kernel_rfl) (fun _ _ _ h => h) (Or.inl ⟨by rfl, ?_⟩) (by assumption) ?_
                rotate_left
                · intro w hSw; (try dsimp only at hSw); first | (go_simp; done) | (go_simp; with_reducible rfl)
                (try simp only [Act.put, List.getElem_toArray, List.getElem_cons_succ, List.getElem_cons_zero, List.setIfInBounds_toArray, List.set_cons_zero, List.set_cons_succ])
                refine wpAnyH_take (i := 14) (v := ?_) rfl (by kernel_rfl) (by kernel_rfl) (by kernel_rfl) (fun _ _ _ h => h) (Or.inl ⟨by rfl, ?_⟩) (by assumption) ?_
                rotate_left
                · intro w hSw; (try dsimp only at hSw); first | (go_simp; done) | (go_simp; with_reducible rfl)
                (try simp only [Act.put, List.getElem_toArray, List.getElem_cons_succ, List.getElem_cons_zero, List.setIfInBounds_toArray, List.set_cons_zero, List.set_cons_succ])
                refine wpAnyH_ready (rs := [15]) (by kernel_rfl) (by simp) ?_
                refine AllReadyH.cons rfl (fun K' hK => ?_) AllReadyH.nil
                go_simp
                refine hK.out _ _ ?_ (fun hHeld3 => ?_)
                · (try dsimp only); first | (with_reducible exact ⟨a0, a1, a2, a3, a4, a5, a6, a7, a8, a9, aq⟩) | exact ⟨a0, a1, a2, a3, a4, a5, a6, a7, a8, a9, aq⟩
                clear hK K'
                (try simp only [Act.put, List.getElem_toArray, List.getElem_cons_succ, List.getElem_cons_zero, List.setIfInBounds_toArray, List.set_cons_zero, List.set_cons_succ])
                refine wpAnyH_ready (rs := [16]) (by kernel_rfl) (by simp) ?_
                refine AllReadyH.cons rfl (fun K' hK => ?_) AllReadyH.nil
                refine Heap.step_append_row _ rfl (.tmp 159) (.tmp 170) 142 rfl 154 i0 _ 3 24 Tryz.underlying142 hi hz0 hz1 hz2 rfl (by decide) (.slice va n vc) n (pdsV A) (by simp [Act.eval]) HAF.out.2.1 ⟨w6.heap.size, 0, none⟩ 1 1 [.int .i64 rx.seq, .int .i64 1, .int .i64 (now + wt)] (by simp [Act.eval]) rfl HAF.out.2.2.1 (by simp [Value.oneCell']) (by unfold maxLen; omega) (by omega) ?_
                intro v3 w7 r7 t7 o7
                have hK7 := (t7.block K (heap_lt HAF.out.1.hd.cell) (fun e => HAF.out.1.hd.ne K e rfl)).trans HAF.out.1.hd.cell
                obtain ⟨j0, j1, j2, j3, j4, j5, j6, j7, j8, j9⟩ := tenK hK7
                have jq := (sixC ((t7.block bq (heap_lt HAQ.out) (fun e => by have := HX.out.2.2 bq e; omega)).trans HAQ.out)).2.1
                obtain ⟨hap, k12, kf7, k7⟩ := HAF.out.2.2.2 v3 w7 r7 t7 o7
                obtain ⟨a3', cc3, rfl⟩ := r7.slice
                have hfin := hap
                obtain ⟨v3', hp7, _, _, _, he7⟩ := hfin
                obtain ⟨f0, f1, f2, f3, f4, f5, f6, f7, f8, f9, _, _, _, _⟩ := hp7.hd.cells
                have fq := (sixC he7).2.1
                have HAP := Lib.hid hap
                clear hap r7 t7 o7 hK7 hp7 he7
                refine hK.out _ _ ?_ (fun hHeld4 => ?_)
                · (try dsimp only); first | (with_reducible exact ⟨j0, j1, j2, j3, j4, j5, j6, j7, j8, j9, jq⟩) | exact ⟨j0, j1, j2, j3, j4, j5, j6, j7, j8, j9, jq⟩
                clear hK K'
                (try simp only [Act.put, List.getElem_toArray, List.getElem_cons_succ, List.getElem_cons_zero, List.setIfInBounds_toArray, List.set_cons_zero, List.set_cons_succ])
                refine wpAnyH_take (i := 17) (v := ?_) rfl (by kernel_rfl) (by kernel_rfl) (by kernel_rfl) (fun _ _ _ h => h) (Or.inl ⟨by rfl, ?_⟩) (by assumption) ?_
                rotate_left
                · intro w hSw; (try dsimp only at hSw); first | (go_simp; done) | (go_simp; with_reducible rfl)
                (try simp only [Act.put, List.getElem_toArray, List.getElem_cons_succ, List.getElem_cons_zero, List.setIfInBounds_toArray, List.set_cons_zero, List.set_cons_succ])
                refine wpAnyH_take (i := 18) (v := ?_) rfl (by kernel_rfl) (by kernel_rfl) (by kernel_rfl) (fun _ _ _ h => h) (Or.inl ⟨by rfl, ?_⟩) (by assumption) ?_
                rotate_left
                · intro w hSw; (try dsimp only at hSw); first | (go_simp; done) | (go_simp; with_reducible rfl)
                (try simp only [Act.put, List.getElem_toArray, List.getElem_cons_succ, List.getElem_cons_zero, List.setIfInBounds_toArray, List.set_cons_zero, List.set_cons_succ])
                refine wpAnyH_ready (rs := [19]) (by kernel_rfl) (by simp) ?_
                refine AllReadyH.cons rfl (fun K' hK => ?_) AllReadyH.nil
                go_simp
                refine hK.out _ _ ?_ (fun hHeld5 => ?_)
                · (try dsimp only); first | (with_reducible exact ⟨f0, f1, f2, f3, f4, f5, f6, f7, f8, f9, fq⟩) | exact ⟨f0, f1, f2, f3, f4, f5, f6, f7, f8, f9, fq⟩
                clear hK K'
                (try simp only [Act.put, List.getElem_toArray, List.getElem_cons_succ, List.getElem_cons_zero, List.setIfInBounds_toArray, List.set_cons_zero, List.set_cons_succ])
                refine wpAnyH_done (by kernel_rfl) ?_ _
                go_wp2_with fail
                go_meet
                exact ⟨rfl, HAP⟩
              refine AllReadyH.cons rfl (fun K' hK => ?_) AllReadyH.nil
              go_simp
              go_at_call 70
              refine (HWC.out _ (Below.refl _ _).drew).mono ?_
              rintro e w6 ⟨rfl, h6⟩
              have hb6 : Below wy.heap.size wy w6 := (Below.refl _ _).drew.trans h6
              obtain ⟨e0, e1, e2, e3, e4, e5, e6, e7, e8, e9, _, _, e12, ef⟩ := (HPY.out.next hb6).hd.cells
              have eq := (sixC ((hb6.block bq (heap_lt HEY.out)).trans HEY.out)).2.1
              have haf := HAPD.out w6 hb6
              obtain ⟨a0, a1, a2, a3, a4, a5, a6, a7, a8, a9, _, _, a12, af⟩ := haf.1.hd.cells
              have haq := (Below.heap_alloc w6 (.cells #[.int .i64 rx.seq, .int .i64 1, .int .i64 (now + wt)] 154) bq (Nat.lt_of_lt_of_le (heap_lt HEY.out) hb6.size)).trans ((hb6.block bq (heap_lt HEY.out)).trans HEY.out)
              have aq := (sixC haq).2.1
              have HAQ := Lib.hid haq
              have HAF := Lib.hid haf
              clear h6 hb6 haf haq
              go_wp2_with fail
              refine hK.out _ _ ?_ (fun hHeld6 => ?_)
              · (try dsimp only); first | (with_reducible exact ⟨e0, e1, e2, e3, e4, e5, e6, e7, e8, e9, eq⟩) | exact ⟨e0, e1, e2, e3, e4, e5, e6, e7, e8, e9, eq⟩
              clear hK K'
              (try simp only [Act.put, List.getElem_toArray, List.getElem_cons_succ, List.getElem_cons_zero, List.setIfInBounds_toArray, List.set_cons_zero, List.set_cons_succ])
              refine wpAnyH_take (i := 13) (v := ?_) rfl (by kernel_rfl) (by kernel_rfl) (by kernel_rfl) (fun _ _ _ h => h) (Or.inl ⟨by rfl, ?_⟩) (by assumption) ?_
              rotate_left
              · intro w hSw; (try dsimp only at hSw); first | (go_simp; done) | (go_simp; with_reducible rfl)
              (try simp only [Act.put, List.getElem_toArray, List.getElem_cons_succ, List.getElem_cons_zero, List.setIfInBounds_toArray, List.set_cons_zero, List.set_cons_succ])
              refine wpAnyH_take (i := 14) (v := ?_) rfl (by kernel_rfl) (by kernel_rfl) (by kernel_rfl) (fun _ _ _ h => h) (Or.inl ⟨by rfl, ?_⟩) (by assumption) ?_
              rotate_left
              · intro w hSw; (try dsimp only at hSw); first | (go_simp; done) | (go_simp; with_reducible rfl)
              (try simp only [Act.put, List.getElem_toArray, List.getElem_cons_succ, List.getElem_cons_zero, List.setIfInBounds_toArray, List.set_cons_zero, List.set_cons_succ])
              refine wpAnyH_ready (rs := [4, 15]) (by kernel_rfl) (by simp) ?_
              refine AllReadyH.cons rfl (fun K' hK => ?_) ?_
              · skip
                go_simp
                refine hK.out _ _ ?_ (fun hHeld7 => ?_)
                · (try dsimp only); first | (with_reducible exact hHeld6) | exact hHeld6
                clear hK K'
                (try simp only [Act.put, List.getElem_toArray, List.getElem_cons_succ, List.getElem_cons_zero, List.setIfInBounds_toArray, List.set_cons_zero, List.set_cons_succ])
                refine wpAnyH_ready (rs := [15]) (by kernel_rfl) (by simp) ?_
                refine AllReadyH.cons rfl (fun K' hK => ?_) AllReadyH.nil
                go_simp
                refine hK.out _ _ ?_ (fun hHeld8 => ?_)
                · (try dsimp only); first | (with_reducible exact ⟨a0, a1, a2, a3, a4, a5, a6, a7, a8, a9, aq⟩) | exact ⟨a0, a1, a2, a3, a4, a5, a6, a7, a8, a9, aq⟩
                clear hK K'
                (try simp only [Act.put, List.getElem_toArray, List.getElem_cons_succ, List.getElem_cons_zero, List.setIfInBounds_toArray, List.set_cons_zero, List.set_cons_succ])
                refine wpAnyH_ready (rs := [16]) (by kernel_rfl) (by simp) ?_
                refine AllReadyH.cons rfl (fun K' hK => ?_) AllReadyH.nil
                refine Heap.step_append_row _ rfl (.tmp 159) (.tmp 170) 142 rfl 154 i0 _ 3 24 Tryz.underlying142 hi hz0 hz1 hz2 rfl (by decide) (.slice va n vc) n (pdsV A) (by simp [Act.eval]) HAF.out.2.1 ⟨w6.heap.size, 0, none⟩ 1 1 [.int .i64 rx.seq, .int .i64 1, .int .i64 (now + wt)] (by simp [Act.eval]) rfl HAF.out.2.2.1 (by simp [Value.oneCell']) (by unfold maxLen; omega) (by omega) ?_
                intro v3 w7 r7 t7 o7
                have hK7 := (t7.block K (heap_lt HAF.out.1.hd.cell) (fun e => HAF.out.1.hd.ne K e rfl)).trans HAF.out.1.hd.cell
                obtain ⟨j0, j1, j2, j3, j4, j5, j6, j7, j8, j9⟩ := tenK hK7
                have jq := (sixC ((t7.block bq (heap_lt HAQ.out) (fun e => by have := HX.out.2.2 bq e; omega)).trans HAQ.out)).2.1
                obtain ⟨hap, k12, kf7, k7⟩ := HAF.out.2.2.2 v3 w7 r7 t7 o7
                obtain ⟨a3', cc3, rfl⟩ := r7.slice
                have hfin := hap
                obtain ⟨v3', hp7, _, _, _, he7⟩ := hfin
                obtain ⟨f0, f1, f2, f3, f4, f5, f6, f7, f8, f9, _, _, _, _⟩ := hp7.hd.cells
                have fq := (sixC he7).2.1
                have HAP := Lib.hid hap
                clear hap r7 t7 o7 hK7 hp7 he7
                refine hK.out _ _ ?_ (fun hHeld9 => ?_)
                · (try dsimp only); first | (with_reducible exact ⟨j0, j1, j2, j3, j4, j5, j6, j7, j8, j9, jq⟩) | exact ⟨j0, j1, j2, j3, j4, j5, j6, j7, j8, j9, jq⟩
                clear hK K'
                (try simp only [Act.put, List.getElem_toArray, List.getElem_cons_succ, List.getElem_cons_zero, List.setIfInBounds_toArray, List.set_cons_zero, List.set_cons_succ])
                refine wpAnyH_take (i := 17) (v := ?_) rfl (by kernel_rfl) (by kernel_rfl) (by kernel_rfl) (fun _ _ _ h => h) (Or.inl ⟨by rfl, ?_⟩) (by assumption) ?_
                rotate_left
                · intro w hSw; (try dsimp only at hSw); first | (go_simp; done) | (go_simp; with_reducible rfl)
                (try simp only [Act.put, List.getElem_toArray, List.getElem_cons_succ, List.getElem_cons_zero, List.setIfInBounds_toArray, List.set_cons_zero, List.set_cons_succ])
                refine wpAnyH_take (i := 18) (v := ?_) rfl (by kernel_rfl) (by kernel_rfl) (by kernel_rfl) (fun _ _ _ h => h) (Or.inl ⟨by rfl, ?_⟩) (by assumption) ?_
                rotate_left
                · intro w hSw; (try dsimp only at hSw); first | (go_simp; done) | (go_simp; with_reducible rfl)
                (try simp only [Act.put, List.getElem_toArray, List.getElem_cons_succ, List.getElem_cons_zero, List.setIfInBounds_toArray, List.set_cons_zero, List.set_cons_succ])
                refine wpAnyH_ready (rs := [19]) (by kernel_rfl) (by simp) ?_
                refine AllReadyH.cons rfl (fun K' hK => ?_) AllReadyH.nil
                go_simp
                refine hK.out _ _ ?_ (fun hHeld10 => ?_)
                · (try dsimp only); first | (with_reducible exact ⟨f0, f1, f2, f3, f4, f5, f6, f7, f8, f9, fq⟩) | exact ⟨f0, f1, f2, f3, f4, f5, f6, f7, f8, f9, fq⟩
                clear hK K'
                (try simp only [Act.put, List.getElem_toArray, List.getElem_cons_succ, List.getElem_cons_zero, List.setIfInBounds_toArray, List.set_cons_zero, List.set_cons_succ])
                refine wpAnyH_done (by kernel_rfl) ?_ _
                go_wp2_with fail
                go_meet
                exact ⟨rfl, HAP⟩
              refine AllReadyH.cons rfl (fun K' hK => ?_) AllReadyH.nil
              go_simp
              refine hK.out _ _ ?_ (fun hHeld11 => ?_)
              · (try dsimp only); first | (with_reducible exact ⟨a0, a1, a2, a3, a4, a5, a6, a7, a8, a9, aq⟩) | exact ⟨a0, a1, a2, a3, a4, a5, a6, a7, a8, a9, aq⟩
              clear hK K'
              (try simp only [Act.put, List.getElem_toArray, List.getElem_cons_succ, List.getElem_cons_zero, List.setIfInBounds_toArray, List.set_cons_zero, List.set_cons_succ])
              refine wpAnyH_ready (rs := [4]) (by kernel_rfl) (by simp) ?_
              refine AllReadyH.cons rfl (fun K' hK => ?_) AllReadyH.nil
              go_simp
              refine hK.out _ _ ?_ (fun hHeld12 => ?_)
              · (try dsimp only); first | (with_reducible exact hHeld11) | exact hHeld11
              clear hK K'
              (try simp only [Act.put, List.getElem_toArray, List.getElem_cons_succ, List.getElem_cons_zero, List.setIfInBounds_toArray, List.set_cons_zero, List.set_cons_succ])
              refine wpAnyH_ready (rs := [16]) (by kernel_rfl) (by simp) ?_
              refine AllReadyH.cons rfl (fun K' hK => ?_) AllReadyH.nil
              refine Heap.step_append_row _ rfl (.tmp 159) (.tmp 170) 142 rfl 154 i0 _ 3 24 Tryz.underlying142 hi hz0 hz1 hz2 rfl (by decide) (.slice va n vc) n (pdsV A) (by simp [Act.eval]) HAF.out.2.1 ⟨w6.heap.size, 0, none⟩ 1 1 [.int .i64 rx.seq, .int .i64 1, .int .i64 (now + wt)] (by simp [Act.eval]) rfl HAF.out.2.2.1 (by simp [Value.oneCell']) (by unfold maxLen; omega) (by omega) ?_
              intro v3 w7 r7 t7 o7
              have hK7 := (t7.block K (heap_lt HAF.out.1.hd.cell) (fun e => HAF.out.1.hd.ne K e rfl)).trans HAF.out.1.hd.cell
              obtain ⟨j0, j1, j2, j3, j4, j5, j6, j7, j8, j9⟩ := tenK hK7
              have jq := (sixC ((t7.block bq (heap_lt HAQ.out) (fun e => by have := HX.out.2.2 bq e; omega)).trans HAQ.out)).2.1
              obtain ⟨hap, k12, kf7, k7⟩ := HAF.out.2.2.2 v3 w7 r7 t7 o7
              obtain ⟨a3', cc3, rfl⟩ := r7.slice
              have hfin := hap
              obtain ⟨v3', hp7, _, _, _, he7⟩ := hfin
              obtain ⟨f0, f1, f2, f3, f4, f5, f6, f7, f8, f9, _, _, _, _⟩ := hp7.hd.cells
              have fq := (sixC he7).2.1
              have HAP := Lib.hid hap
              clear hap r7 t7 o7 hK7 hp7 he7
              refine hK.out _ _ ?_ (fun hHeld13 => ?_)
              · (try dsimp only); first | (with_reducible exact ⟨j0, j1, j2, j3, j4, j5, j6, j7, j8, j9, jq⟩) | exact ⟨j0, j1, j2, j3, j4, j5, j6, j7, j8, j9, jq⟩
              clear hK K'
              (try simp only [Act.put, List.getElem_toArray, List.getElem_cons_succ, List.getElem_cons_zero, List.setIfInBounds_toArray, List.set_cons_zero, List.set_cons_succ])
              refine wpAnyH_take (i := 17) (v := ?_) rfl (by kernel_rfl) (by kernel_rfl) (by kernel_rfl) (fun _ _ _ h => h) (Or.inl ⟨by rfl, ?_⟩) (by assumption) ?_
              rotate_left
              · intro w hSw; (try dsimp only at hSw); first | (go_simp; done) | (go_simp; with_reducible rfl)
              (try simp only [Act.put, List.getElem_toArray, List.getElem_cons_succ, List.getElem_cons_zero, List.setIfInBounds_toArray, List.set_cons_zero, List.set_cons_succ])
              refine wpAnyH_take (i := 18) (v := ?_) rfl (by kernel_rfl) (by kernel_rfl) (by kernel_rfl) (fun _ _ _ h => h) (Or.inl ⟨by rfl, ?_⟩) (by assumption) ?_
              rotate_left
              · intro w hSw; (try dsimp only at hSw); first | (go_simp; done) | (go_simp; with_reducible rfl)
              (try simp only [Act.put, List.getElem_toArray, List.getElem_cons_succ, List.getElem_cons_zero, List.setIfInBounds_toArray, List.set_cons_zero, List.set_cons_succ])
              refine wpAnyH_ready (rs := [19]) (by kernel_rfl) (by simp) ?_
              refine AllReadyH.cons rfl (fun K' hK => ?_) AllReadyH.nil
              go_simp
              refine hK.out _ _ ?_ (fun hHeld14 => ?_)
              · (try dsimp only); first | (with_reducible exact ⟨f0, f1, f2, f3, f4, f5, f6, f7, f8, f9, fq⟩) | exact ⟨f0, f1, f2, f3, f4, f5, f6, f7, f8, f9, fq⟩
              clear hK K'
              (try simp only [Act.put, List.getElem_toArray, List.getElem_cons_succ, List.getElem_cons_zero, List.setIfInBounds_toArray, List.set_cons_zero, List.set_cons_succ])
              refine wpAnyH_done (by kernel_rfl) ?_ _
              go_wp2_with fail
              go_meet
              exact ⟨rfl, HAP⟩
            case rest =>
            obtain ⟨rfl, hcc⟩ := hcut
            obtain ⟨v3, hp6, ht6, ho6, hr6, he6⟩ := hcc.out
            clear hcc c0 c1 c2 c3 c4 c5 c6 c7 c8 c9 c12 cf cq hlt6 HWC HAPD hi hz0 hz1 hz2 HPY HTY HRY HEY HO3
            have HPPP := Lib.hid hp6; have HTTT := Lib.hid ht6; have HOOO := Lib.hid ho6; have HRRR := Lib.hid hr6; have HEEE := Lib.hid he6
            clear hp6 ht6 ho6 hr6 he6
            have htl := told_h HPPP.out HRT.out (by have := HXS.out; show 1 ≤ rx.seq + 1 ∧ rx.seq + 1 ≤ far + 1; omega) (by have := HK.out.count; show 0 ≤ c.count ∧ c.count ≤ _; omega) HT.out rx 1
            unfold Sto.recV at htl
            rw [HPP.out.s1, HPP.out.h1, HPP.out.d1] at htl
            obtain ⟨q0, q1, q2, q3, q4, q5⟩ := sixC HEEE.out
            have hbl := heap_lt HEEE.out
            obtain ⟨dl, hdl⟩ : ∃ dl, (tellP t L ⟨rx.seq + 1, c.count, (A ++ [⟨rx.seq, 1, now + wt⟩])⟩ rx 1).2 = dl := ⟨_, rfl⟩
            have HDL := Lib.hid hdl
            obtain ⟨ds, hds⟩ : ∃ ds : ByteArray, (⟨dl.subj.toArray⟩ : ByteArray) = ds := ⟨_, rfl⟩
            obtain ⟨dd, hddd⟩ : ∃ dd : ByteArray, (⟨dl.data.toArray⟩ : ByteArray) = dd := ⟨_, rfl⟩
            have HDV := Lib.hid (show delV dl = .agg #[.int .i64 dl.seq, .string ds, .string dd, .int .i64 dl.count, .int .i64 dl.nth, .int .i64 dl.left] by unfold delV; rw [hds, hddd])
            have HTL := Lib.hid htl
            clear htl hdl hds hddd
            go_wp2_with fail
            refine HTL.out.mono ?_
            rintro e w8 ⟨he8, hc8, t8⟩
            rw [HDL.out, HDV.out] at he8
            subst he8
            have hr8 := (t8.block rb (heap_lt HRRR.out) (fun e => by omega)).trans HRRR.out
            obtain ⟨r0, r1, r2, r3, r4, r5⟩ := sixC hr8
            have rf : ∀ j, w8.frozen? ⟨rb, j, none⟩ = false := fun j => frozen_of_row w8 rb j _ _ hr8
            have hrl := heap_lt hr8
            have HFI := Lib.hid (HPUT.out ⟨rx.seq + 1, c.count + 1, (A ++ [⟨rx.seq, 1, now + wt⟩])⟩ w8 ⟨_, hc8, HTTT.out.after (t8.mono fun _ _ e => Or.inl e), HOOO.out, _, _, _, _, _, _, hr8⟩ (.int .i64 dl.seq) (.string ds) (.string dd) (.int .i64 dl.count) (.int .i64 dl.nth) (.int .i64 dl.left))
            clear hc8 t8 hr8 HTL q0 q1 q2 q3 q4 q5 hbl
            go_wp2_with fail
            refine bodyPost_ret (v := .tuple #[.agg #[.int .i64 dl.seq, .string ds, .string dd, .int .i64 dl.count, .int .i64 dl.nth, .int .i64 dl.left], .int .i64 0]) (res_del2 6 7 Tryz.results15 _ _ rb rfl rfl HFI.out.2) rfl ?_
            rw [HOO.out]
            exact ⟨by rw [← HDV.out, ← HDL.out]; rfl, HFI.out.1⟩
        · have he0 : ((er : Int) != 0) = true := by simpa using her
          obtain rfl : fo = none := by
            cases fo with
            | none => rfl
            | some x => have := HSR.out; rw [show seekR 0 (some x) = (x, 0) from rfl] at this; simp only [Prod.mk.injEq] at this; exact absurd this.2.symm her
          have her4 : er = 4 := by have := HSR.out; rw [show seekR 0 (none : Option Rc) = (Rc.zero, 4) from rfl] at this; simp only [Prod.mk.injEq] at this; exact this.2.symm
          have hO := HO2.out
          simp only at hO
          subst hO
          have HFI := Lib.hid (HPUT.out _ wc ⟨_, HP5.out.hd, HT5.out, HO3.out, _, _, _, _, _, _, HR5.out⟩ (.int .i64 0) (.string ⟨#[]⟩) (.string ⟨#[]⟩) (.int .i64 0) (.int .i64 0) (.int .i64 0))
          have HE4 := Lib.hid her4
          clear her her4 HO2
          go_wp2_with fail
          refine bodyPost_ret (v := .tuple #[.agg #[.int .i64 0, .string ⟨#[]⟩, .string ⟨#[]⟩, .int .i64 0, .int .i64 0, .int .i64 0], .int .i64 (er : Nat)]) (res_del2 6 7 Tryz.results15 _ _ rb rfl rfl HFI.out.2) rfl ?_
          exact ⟨by rw [HE4.out]; rfl, HFI.out.1⟩
      -- end of fresh
    | cons p R =>
      simp only [List.length_cons] at hnl hle
      have hcur : (A ++ p :: R)[a]? = some p := by rw [← HA.out, List.getElem?_append_right (Nat.le_refl _), Nat.sub_self]; rfl
      have hpm := HP.out.1.2 p (by simp)
      obtain ⟨hps, hpn, hpd⟩ := HK.out.in_ p hpm
      have hpl := HK.out.place
      have hkz : (a : Int) < n := by omega
      have hka : a < n := by omega
      rcases hrow2.2 with ⟨_, h0⟩ | ⟨g, off, cap, cur, rfl, hg, _⟩
      · omega
      have HN1 := Lib.hid hnl
      obtain ⟨m0, m1, m2, f1, f2⟩ := cells_pd hrow2 a p hcur hka
      have hgl := heap_lt hg
      have HCUR := Lib.hid hcur; have HRW := Lib.hid hrow2
      clear hg hrow2 hcur hpm hcnt hnl
      obtain ⟨wp, hwp⟩ : ∃ wp, wp = wr.alloc (.cells #[.int .i64 p.seq, .int .i64 p.nth, .int .i64 p.due] 154) := ⟨_, rfl⟩
      have hbp : Below wr.heap.size wr wp := by rw [hwp]; exact (Below.refl _ _).alloc (Nat.le_refl _) _
      have hep : wp.heap[wr.heap.size]? = some (.cells #[.int .i64 p.seq, .int .i64 p.nth, .int .i64 p.due] 154 (0, 0)) := by rw [hwp]; exact heap_alloc_new wr _
      obtain ⟨bp, hbpe⟩ : ∃ bp, wr.heap.size = bp := ⟨_, rfl⟩
      rw [hbpe] at hep
      obtain ⟨p0, p1, p2⟩ := threeC hep
      have hpl2 := heap_lt hep
      have HBP := Lib.hid hbpe; have HEP := Lib.hid hep; have HBB := Lib.hid hbp
      clear hbp hep hbpe
      have HP1 := Lib.hid hp1; have HT1 := Lib.hid ht1; have HO1 := Lib.hid ho1; have HR1 := Lib.hid hr1
      clear hp1 ht1 ho1 hr1
      go_upto_region 7 with fail
      rw [← hwp, HBP.out]
      clear hwp c0 c1 c2 c3 c4 c5 c6 c7 c8 c9 c10 c11 c12 cf m0 m1 m2 f1 f2 hlt hgl
      by_cases hd : now < p.due
      · have HN := Lib.hid (HP.out.keep hd)
        have HS2 := Lib.hid (show AgH W C vC L last K t vb v c rb w (A ++ [p]) R wp from
          ⟨_, by rw [List.append_assoc]; exact HP1.out.next HBB.out, HT1.out.after (Heap.Touch.ofBelow HBB.out), HO1.out, (HBB.out.block rb (heap_lt HR1.out)).trans HR1.out⟩)
        have hlw : lenC K wp = n := by
          have := lenH (HP1.out.next HBB.out).hd
          rw [this]; exact HNL.out
        have HLW := Lib.hid hlw
        clear hlw
        go_wp2_with fail
        exact ⟨⟨A ++ [p], R, by rw [List.length_append, HA.out]; go_num, by rw [List.length_append, HA.out]; simp; omega, HN, HS2⟩, by rw [HLW.out, HLC.out]; simp [intOf]; omega⟩
      · have hd1 : p.due ≤ now := by omega
        have hgt := get_ch (HP1.out.next HBB.out).ch HRT.out p.seq
        unfold GetPost at hgt
        obtain ⟨o, ho⟩ : ∃ o, getQ L p.seq = o := ⟨_, rfl⟩
        rw [ho] at hgt
        obtain ⟨sr, hsr⟩ : ∃ sr, seekR 0 o = sr := ⟨_, rfl⟩
        rw [hsr] at hgt
        obtain ⟨s, hdd, d, hpp⟩ := parts sr.1
        unfold Sto.recV at hgt
        rw [hpp.s1, hpp.h1, hpp.d1] at hgt
        obtain ⟨rx, er⟩ := sr
        simp only at hgt hpp
        have HGT := Lib.hid hgt; have HGO := Lib.hid ho; have HSR := Lib.hid hsr; have HPP := Lib.hid hpp; have HD := Lib.hid hd
        clear hgt ho hsr hpp hd
        go_wp2_with fail
        refine HGT.out.mono ?_
        rintro e w2 ⟨rfl, hb2⟩
        obtain ⟨w3, hw3⟩ : ∃ w3, w3 = w2.alloc (.cells #[.int .i64 rx.kind, .int .i64 rx.seq, .int .i64 rx.time, .string s, .string hdd, .string d] 33) := ⟨_, rfl⟩
        have hb3 : Below w2.heap.size w2 w3 := by rw [hw3]; exact (Below.refl _ _).alloc (Nat.le_refl _) _
        have he3 : w3.heap[w2.heap.size]? = some (.cells #[.int .i64 rx.kind, .int .i64 rx.seq, .int .i64 rx.time, .string s, .string hdd, .string d] 33 (0, 0)) := by rw [hw3]; exact heap_alloc_new w2 _
        obtain ⟨bx, hbx⟩ : ∃ bx, w2.heap.size = bx := ⟨_, rfl⟩
        rw [hbx] at he3
        have hbb : Below wp.heap.size wp w3 := hb2.trans (hb3.mono hb2.size)
        have hbw : Below wr.heap.size wr w3 := HBB.out.trans (hbb.mono HBB.out.size)
        have hxb : wp.heap.size ≤ bx := by rw [← hbx]; exact hb2.size
        have hbpl := heap_lt HEP.out
        have hrbl := heap_lt HR1.out
        have hgr := HRW.out.lt g (by simp [own, Value.ownBlock])
        have hKl := heap_lt HP1.out.hd.cell
        have HP3 := Lib.hid (HP1.out.next hbw); have HT3 := Lib.hid (HT1.out.after (Heap.Touch.ofBelow hbw)); have HR3 := Lib.hid ((hbw.block rb hrbl).trans HR1.out)
        have HRW3 := Lib.hid (show Row w3 tq 3 (.slice (some ⟨g, off, none⟩) n cap) n (pdsV (A ++ p :: R)) from HRW.out.kept fun k _ hk => hbw.block k hk)
        have HE3 := Lib.hid he3; have HBX := Lib.hid hbx
        have HEP3 := Lib.hid ((hbb.block bp hbpl).trans HEP.out)
        have HX := Lib.hid (show (K < bp ∧ rb < bp ∧ g < bp) ∧ bp < bx from ⟨by have := HBP.out; exact ⟨by omega, by omega, by omega⟩, by omega⟩)
        clear hb2 hb3 he3 hbx hbb hbw hxb hbpl hrbl hgr hKl HGT p0 p1 p2 hpl2
        obtain ⟨c0, c1, c2, c3, c4, c5, c6, c7, c8, c9, c10, c11, c12, cf⟩ := HP3.out.hd.cells
        obtain ⟨p0, p1, p2⟩ := threeC HEP3.out
        have hlt3 := heap_lt HP3.out.hd.cell
        have hpl3 := heap_lt HEP3.out
        go_upto_region 9 with fail
        rw [← hw3, HBX.out]
        clear hw3
        go_cut [64] from 45 to 64 (fun s64 wx => s64 = .bool ((er == 0) && ((t.most == 0) || decide (p.nth < t.most))) ∧ Hid (∃ q, wx = w3.drewN q))
        case first =>
          by_cases he : er = 0
          · have he1 : ((er : Int) == 0) = true := by rw [he]; rfl
            have he2 : (er == 0) = true := by rw [he]; rfl
            clear he
            by_cases hm1 : t.most = 0
            · have hm2 : (t.most == 0) = true := by rw [hm1]; rfl
              clear hm1
              go_quiet (fail)
              go_wp2_with fail
              go_meet
              exact ⟨by simp [he2, hm2], Lib.hid ⟨_, rfl⟩⟩
            · have hm2 : (t.most == 0) = false := by simpa using hm1
              clear hm1
              go_quiet (fail)
              go_wp2_with fail
              go_meet
              exact ⟨by simp [he2, hm2], Lib.hid ⟨_, rfl⟩⟩
          · have he1 : ((er : Int) == 0) = false := by simpa using he
            have he2 : (er == 0) = false := by simpa using he
            clear he
            go_quiet (fail)
            go_wp2_with fail
            go_meet
            exact ⟨by simp [he2], Lib.hid ⟨_, rfl⟩⟩
        case rest =>
        obtain ⟨rfl, hcq⟩ := hcut
        obtain ⟨q, hwq⟩ := hcq.out
        clear hcq c0 c1 c2 c3 c4 c5 c6 c7 c8 c9 c10 c11 c12 cf p0 p1 p2 hpl3 hlt3
        have hb4 : Below w3.heap.size w3 wc := by rw [hwq]; exact below_drewN (Below.refl _ _) q
        have HP4 := Lib.hid (HP3.out.next hb4)
        have HT4 := Lib.hid (HT3.out.after (Heap.Touch.ofBelow hb4))
        have HR4 := Lib.hid ((hb4.block rb (heap_lt HR3.out)).trans HR3.out)
        have HE4 := Lib.hid ((hb4.block bx (heap_lt HE3.out)).trans HE3.out)
        have HEP4 := Lib.hid ((hb4.block bp (heap_lt HEP3.out)).trans HEP3.out)
        have HRW4 := Lib.hid (HRW3.out.kept (w' := wc) fun k _ hk => hb4.block k hk)
        have hgrb : g ≠ rb := fun e => by
          rcases HO1.out g (by simp [own, Value.ownBlock]) with h | h
          · have := HVR.out g h; omega
          · omega
        have hgK : g ≠ K := HP4.out.hd.ne g (by simp [own, Value.ownBlock])
        have HG := Lib.hid (show g ≠ rb ∧ g ≠ K from ⟨hgrb, hgK⟩)
        clear hwq hb4 HP3 HT3 HR3 HE3 HRW3 HEP3 hgrb hgK
        obtain ⟨Bd, hBd⟩ : ∃ Bd, ((er == 0) && ((t.most == 0) || decide (p.nth < t.most))) = Bd := ⟨_, rfl⟩
        rw [hBd]
        cases Bd with
        | false =>
          have hdrop : getQ L p.seq = none ∨ (0 < t.most ∧ t.most ≤ p.nth) := by
            cases ho : o with
            | none => exact .inl (by rw [HGO.out, ho])
            | some x =>
              have h1 := HSR.out
              rw [ho, show seekR 0 (some x) = (x, 0) from rfl] at h1
              simp only [Prod.mk.injEq] at h1
              rw [← h1.2] at hBd
              simp at hBd
              exact .inr ⟨by omega, by omega⟩
          have HN := Lib.hid (HP.out.drop (by have := HD.out; omega) hdrop)
          have hol := HP.out.out HK.out.rise
          have hout := out_h HP4.out.hd (by show (A ++ p :: R).length ≤ 1000; rw [HNL.out]; omega) p.seq
          simp only [hol] at hout
          have HOUT := Lib.hid hout
          obtain ⟨p0, p1, p2⟩ := threeC HEP4.out
          have hpl4 := heap_lt HEP4.out
          have hwa : IntKind.i64.wrap ((a : Int) - 1) = a - 1 := IntWalk.i64_in _ (by omega)
          have hwb : IntKind.i64.wrap ((a : Int) - 1 + 1) = a := by rw [show (a : Int) - 1 + 1 = a by omega]; exact IntWalk.i64_in _ (by omega)
          clear hBd hdrop hol hout
          go_wp2_with fail
          refine HOUT.out.mono ?_
          rintro e w5 ⟨rfl, v5, h5, t5, o5⟩
          have hsz := HT4.out.size
          have HS6 := Lib.hid (show AgH W C vC L last K t vb v c rb w A R w5 from by
            refine ⟨v5, HP4.out.of h5 t5 o5, HT4.out.trans t5 (fun k hk e => ?_), fun k hk => ?_, ?_⟩
            · rcases e with e | e
              · exact .inl e
              · rcases HO1.out k e with e | e
                · exact .inr e
                · have := HRB.out; omega
            · rcases o5 k hk with e | e
              · exact HO1.out k e
              · have := heap_lt HR4.out; omega
            · exact (t5.block rb (heap_lt HR4.out) (fun e => by
                rcases e with e | e
                · omega
                · have : rb = g := by simp [own, Value.ownBlock] at e; exact e.symm
                  exact HG.out.1 this.symm)).trans HR4.out)
          have hl5 : lenC K w5 = a + R.length := by rw [lenH h5, List.length_append, HA.out]
          have HL5 := Lib.hid hl5
          clear h5 t5 o5 HOUT p0 p1 p2 hpl4 hl5 hsz
          go_wp2_with fail
          exact ⟨⟨A, R, by rw [HA.out], by rw [HA.out]; omega, HN, HS6⟩, by rw [HL5.out, HLC.out]; have := HN1.out; simp [intOf]; omega⟩
        | true =>
          have h0er : er = 0 := by
            by_cases h : er = 0
            · exact h
            · simp [h] at hBd
          subst h0er
          have hmo : ¬ (0 < t.most ∧ t.most ≤ p.nth) := by simp at hBd; omega
          have hox : o = some rx := by
            have h1 := HSR.out
            cases o with
            | none => cases h1
            | some x =>
              rw [show seekR 0 (some x) = (x, 0) from rfl] at h1
              simp only [Prod.mk.injEq] at h1
              rw [h1.1]
          have hhit := HP.out.1.hit (by have := HD.out; omega) (HGO.out.trans hox) hmo
          obtain ⟨wt, hwt⟩ : ∃ wt, waitT t (p.nth + 1) = wt := ⟨_, rfl⟩
          have hwr := wait_range HT.out (p.nth + 1)
          rw [hwt] at hwr hhit
          have hOO := HO.out
          rw [hhit] at hOO
          simp only at hOO
          have HOO := Lib.hid hOO.symm
          have hbk : t.back.length ≤ 1048576 := by have := (errT_facts HT.out).2.2.1; omega
          obtain ⟨x4, hx4⟩ : ∃ x4, x4 = wc.drew := ⟨_, rfl⟩
          have hb4 : Below wc.heap.size wc x4 := by rw [hx4]; exact (Below.refl _ _).drew
          have hp4 := HP4.out.next hb4
          have hnl4 : (A ++ p :: R).length = n := HNL.out
          have h5 := setNth_h hp4.hd hnl4.symm HCUR.out (p.nth + 1)
          have hp5 := hp4.of h5.1 (h5.2.mono fun _ _ e => .inr e) fun k hk => .inl hk
          obtain ⟨w5, hw5⟩ : ∃ w5, w5 = x4.setCell ⟨g, off + a * 3 + 1, none⟩ (.int .i64 (p.nth + 1)) := ⟨_, rfl⟩
          rw [← hw5] at h5 hp5
          have hset1 : (A ++ p :: R).set a ⟨p.seq, p.nth + 1, p.due⟩ = A ++ ⟨p.seq, p.nth + 1, p.due⟩ :: R := by
            rw [← HA.out, List.set_append_right _ _ (Nat.le_refl _), Nat.sub_self]; rfl
          simp only [hset1] at hp5
          have hcur5 : (A ++ (⟨p.seq, p.nth + 1, p.due⟩ : Pd) :: R)[a]? = some ⟨p.seq, p.nth + 1, p.due⟩ := by rw [← HA.out, List.getElem?_append_right (Nat.le_refl _), Nat.sub_self]; rfl
          have hlen5 : (A ++ (⟨p.seq, p.nth + 1, p.due⟩ : Pd) :: R).length = n := by
            rw [List.length_append, List.length_cons] at hnl4 ⊢; exact hnl4
          have hwc := fun w' (hb : Below w5.heap.size w5 w') => wait_r (hp5.next hb).hd.back hbk (p.nth + 1)
          rw [hwt] at hwc
          unfold takerV at hwc
          have hwn : IntKind.i64.wrap (p.nth + 1) = p.nth + 1 := IntWalk.i64_in _ (by omega)
          have hwd : IntKind.i64.wrap (now + wt) = now + wt := IntWalk.i64_in _ (by omega)
          have hX := HX.out
          have hr5 := (h5.2.block rb (heap_lt ((hb4.block rb (heap_lt HR4.out)).trans HR4.out)) (fun e => by simp [own, Value.ownBlock] at e; exact HG.out.1 e)).trans ((hb4.block rb (heap_lt HR4.out)).trans HR4.out)
          have hx5 := (h5.2.block bx (heap_lt ((hb4.block bx (heap_lt HE4.out)).trans HE4.out)) (fun e => by simp [own, Value.ownBlock] at e; omega)).trans ((hb4.block bx (heap_lt HE4.out)).trans HE4.out)
          have hy5 := (h5.2.block bp (heap_lt ((hb4.block bp (heap_lt HEP4.out)).trans HEP4.out)) (fun e => by simp [own, Value.ownBlock] at e; omega)).trans ((hb4.block bp (heap_lt HEP4.out)).trans HEP4.out)
          have ht4 := HT4.out.after (Heap.Touch.ofBelow hb4)
          have ht5 := ht4.trans (h5.2.mono (G := fun k => k = K ∨ own (.slice (some ⟨g, off, none⟩) n cap) k) fun _ _ e => .inr e) (fun k hk e => by
            rcases e with e | e
            · exact .inl e
            · rcases HO1.out k e with e | e
              · exact .inr e
              · have := HRB.out; omega)
          have c12 := hp4.hd.cells.2.2.2.2.2.2.2.2.2.2.2.2.1
          have hlt4 := heap_lt hp4.hd.cell
          have hlt0 := heap_lt HP4.out.hd.cell
          have p1 := (threeC ((hb4.block bp (heap_lt HEP4.out)).trans HEP4.out)).2.1
          have d12 := HP4.out.hd.cells.2.2.2.2.2.2.2.2.2.2.2.2.1
          have e1 := (threeC HEP4.out).2.1
          have hpl4 := heap_lt HEP4.out
          obtain ⟨_, m1, _, f1, _⟩ := cells_pd (HRW4.out.kept (w' := x4) fun k _ hk => hb4.block k hk) a p HCUR.out hka
          have hgl4 : g < x4.heap.size := hp4.hd.row.lt g (by simp [own, Value.ownBlock])
          have HWC := Lib.hid hwc; have HP5 := Lib.hid hp5; have HT5 := Lib.hid ht5; have HR5 := Lib.hid hr5; have HX5 := Lib.hid hx5; have HY5 := Lib.hid hy5; have HCUR5 := Lib.hid hcur5; have HLEN5 := Lib.hid hlen5; have HMO := Lib.hid hmo; have HWT := Lib.hid hwt
          clear hhit hwc h5 hp5 hr5 hx5 hy5 ht5 hcur5 hlen5 hset1 hmo hBd hwt hOO hox hp4 hb4 ht4 hX hbk hnl4 HP4 HT4 HR4 HE4 HEP4 HRW4
          go_upto_region 10 with fail
          go_wp2_with fail
          go_still_tail 10, (by kernel_rfl)
          change wpList _ _ _ _ _ wc.drew
          rw [← hx4]
          clear hx4 d12 e1 hpl4 hlt0
          go_upto_region 11 with fail
          rw [← hw5]
          clear hw5 c12 p1 hlt4 m1 f1 hgl4
          obtain ⟨c0, c1, c2, c3, c4, c5, c6, c7, c8, c9, _, _, c12, _⟩ := HP5.out.hd.cells
          have p1 := (threeC HY5.out).2.1
          have hgl5 : g < w5.heap.size := HP5.out.hd.row.lt g (by simp [own, Value.ownBlock])
          have hpl5 := heap_lt HY5.out
          go_region_held3 (fun w' => w'.cell? ⟨K, 0, none⟩ = some (.string ⟨t.name.toArray⟩) ∧ w'.cell? ⟨K, 1, none⟩ = some (.string ⟨t.filt.toArray⟩) ∧ w'.cell? ⟨K, 2, none⟩ = some (.int .i64 t.src) ∧ w'.cell? ⟨K, 3, none⟩ = some (.int .i64 t.start) ∧ w'.cell? ⟨K, 4, none⟩ = some (.int .i64 t.ack) ∧ w'.cell? ⟨K, 5, none⟩ = some (.int .i64 t.wait) ∧ w'.cell? ⟨K, 6, none⟩ = some vb ∧ w'.cell? ⟨K, 7, none⟩ = some (.int .i64 t.most) ∧ w'.cell? ⟨K, 8, none⟩ = some (.int .i64 t.pend) ∧ w'.cell? ⟨K, 9, none⟩ = some (.bool t.push) ∧ w'.cell? ⟨K, 12, none⟩ = some (.slice (some ⟨g, off, none⟩) n cap) ∧ w'.cell? ⟨bp, 1, none⟩ = some (.int .i64 p.nth))
            (first | (with_reducible exact ⟨c0, c1, c2, c3, c4, c5, c6, c7, c8, c9, c12, p1⟩) | (with_reducible exact ⟨z0, z1, z2, z3, z4, z5, z6, z7, z8, z9, z12, y1⟩) | (with_reducible assumption) | go_keep)
            ((go_at_call 70; ((refine (HWC.out _ (Below.refl _ _).drew).mono ?_); rintro e w6 ⟨rfl, h6⟩; have hb6 : Below w5.heap.size w5 w6 := (Below.refl _ _).drew.trans h6; have hp6 := HP5.out.next hb6; obtain ⟨c0, c1, c2, c3, c4, c5, c6, c7, c8, c9, _, _, c12, _⟩ := hp6.hd.cells; have hrw6 : Row w6 tq 3 (.slice (some ⟨g, off, none⟩) n cap) n (pdsV (A ++ ⟨p.seq, p.nth + 1, p.due⟩ :: R)) := (by have := hp6.hd.row; simp only [HLEN5.out] at this; exact this); obtain ⟨_, _, m2, _, f2⟩ := cells_pd hrw6 a _ HCUR5.out hka; have h7 := setDue_h hp6.hd (by show n = (A ++ (⟨p.seq, p.nth + 1, p.due⟩ : Pd) :: R).length; rw [HLEN5.out]) HCUR5.out (now + wt); have hset2 : (A ++ (⟨p.seq, p.nth + 1, p.due⟩ : Pd) :: R).set a ⟨p.seq, p.nth + 1, now + wt⟩ = A ++ ⟨p.seq, p.nth + 1, now + wt⟩ :: R := (by rw [← HA.out, List.set_append_right _ _ (Nat.le_refl _), Nat.sub_self]; rfl); simp only [hset2] at h7; obtain ⟨z0, z1, z2, z3, z4, z5, z6, z7, z8, z9, _, _, z12, _⟩ := h7.1.cells; have hy6 := (hb6.block bp (heap_lt HY5.out)).trans HY5.out; have p1 := (threeC hy6).2.1; have hy7 := (h7.2.block bp (heap_lt hy6) (fun e => by simp [own, Value.ownBlock] at e; have := HX.out.1.2.2; omega)).trans hy6; have y1 := (threeC hy7).2.1; have hgl6 : g < w6.heap.size := Nat.lt_of_lt_of_le hgl5 hb6.size; have HP6 := Lib.hid hp6; have H7 := Lib.hid h7; have HB6 := Lib.hid hb6; have HY7 := Lib.hid hy7; clear hp6 h7 hb6 hrw6 hset2 hy6 hy7 h6)))
          obtain ⟨w7, hw7⟩ : ∃ w7, w7 = w6.setCell ⟨g, off + a * 3 + 2, none⟩ (.int .i64 (now + wt)) := ⟨_, rfl⟩
          have h7 := H7.out
          have hy7 := HY7.out
          rw [← hw7] at h7 hy7 ⊢
          have hp7 := HP6.out.of h7.1 (h7.2.mono fun _ _ e => .inr e) fun k hk => .inl hk
          have ht7 : Heap.Touch (fun k => k = K ∨ own v k) w w7 := (HT5.out.after (Heap.Touch.ofBelow HB6.out)).trans (h7.2.mono (G := fun k => k = K ∨ own (.slice (some ⟨g, off, none⟩) n cap) k) fun _ _ e => .inr e) (fun k hk e => by
            rcases e with e | e
            · exact .inl e
            · rcases HO1.out k e with e | e
              · exact .inr e
              · have := HRB.out; omega)
          have hr6 := (HB6.out.block rb (heap_lt HR5.out)).trans HR5.out
          have hx6 := (HB6.out.block bx (heap_lt HX5.out)).trans HX5.out
          have hr7 := (h7.2.block rb (heap_lt hr6) (fun e => by simp [own, Value.ownBlock] at e; exact HG.out.1 e)).trans hr6
          have hx7 := (h7.2.block bx (heap_lt hx6) (fun e => by simp [own, Value.ownBlock] at e; have := HX.out; omega)).trans hx6
          have htl := told_h hp7 HRT.out hpl (by have := HK.out.count; show 0 ≤ c.count ∧ c.count ≤ _; omega) HT.out rx (p.nth + 1)
          unfold Sto.recV at htl
          rw [HPP.out.s1, HPP.out.h1, HPP.out.d1] at htl
          have HTL := Lib.hid htl; have HP7 := Lib.hid hp7; have HT7 := Lib.hid ht7; have HR7 := Lib.hid hr7
          clear c0 c1 c2 c3 c4 c5 c6 c7 c8 c9 c12 p1 z0 z1 z2 z3 z4 z5 z6 z7 z8 z9 z12 y1 m2 f2 hgl5 hgl6 hpl5
          have q1 := (threeC hy7).2.1
          have hql := heap_lt hy7
          obtain ⟨q6, q7, q8, q9, q10, q11⟩ := sixC hx7
          have hxl := heap_lt hx7
          obtain ⟨dl, hdl⟩ : ∃ dl, (tellP t L ⟨c.place, c.count, A ++ ⟨p.seq, p.nth + 1, now + wt⟩ :: R⟩ rx (p.nth + 1)).2 = dl := ⟨_, rfl⟩
          have HDL := Lib.hid hdl
          obtain ⟨ds, hds⟩ : ∃ ds : ByteArray, (⟨dl.subj.toArray⟩ : ByteArray) = ds := ⟨_, rfl⟩
          obtain ⟨dd, hddd⟩ : ∃ dd : ByteArray, (⟨dl.data.toArray⟩ : ByteArray) = dd := ⟨_, rfl⟩
          have HDV := Lib.hid (show delV dl = .agg #[.int .i64 dl.seq, .string ds, .string dd, .int .i64 dl.count, .int .i64 dl.nth, .int .i64 dl.left] by unfold delV; rw [hds, hddd])
          clear htl hp7 ht7 hr6 hx6 hr7 hx7 hy7 hw7 h7 hdl hds hddd
          go_wp2_with fail
          refine HTL.out.mono ?_
          rintro e w8 ⟨he8, hc8, t8⟩
          rw [HDL.out, HDV.out] at he8
          subst he8
          have hr8 := (t8.block rb (heap_lt HR7.out) (fun e => by omega)).trans HR7.out
          obtain ⟨r0, r1, r2, r3, r4, r5⟩ := sixC hr8
          have rf : ∀ j, w8.frozen? ⟨rb, j, none⟩ = false := fun j => frozen_of_row w8 rb j _ _ hr8
          have hrl := heap_lt hr8
          have HFI := Lib.hid (HPUT.out ⟨c.place, c.count + 1, A ++ ⟨p.seq, p.nth + 1, now + wt⟩ :: R⟩ w8 ⟨_, hc8, HT7.out.after (t8.mono fun _ _ e => Or.inl e), HO1.out, _, _, _, _, _, _, hr8⟩ (.int .i64 dl.seq) (.string ds) (.string dd) (.int .i64 dl.count) (.int .i64 dl.nth) (.int .i64 dl.left))
          clear hc8 t8 hr8 HTL q1 hql q6 q7 q8 q9 q10 q11 hxl
          go_wp2_with fail
          refine bodyPost_ret (v := .tuple #[.agg #[.int .i64 dl.seq, .string ds, .string dd, .int .i64 dl.count, .int .i64 dl.nth, .int .i64 dl.left], .int .i64 0]) (res_del2 6 7 Tryz.results15 _ _ rb rfl rfl HFI.out.2) rfl ?_
          rw [HOO.out]
          exact ⟨by rw [← HDV.out, ← HDL.out]; rfl, HFI.out.1⟩
end
end Go.Proofs.YthhgfdeegnimjaaGreatDoor.Hnd
