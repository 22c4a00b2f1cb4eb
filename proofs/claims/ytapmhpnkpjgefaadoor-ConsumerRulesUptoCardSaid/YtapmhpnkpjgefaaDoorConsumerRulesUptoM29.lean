/- Parts of the proof, joined: (*Consumer).again, walked: the walk. -/
import Derived.Test.YtapmhpnkpjgefaaDoorConsumerRulesUptoM27
namespace Go.Proofs.YtapmhpnkpjgefaaDoor.Con
open Go.RowKit Heap
open Subj (Tok TakerP ML errT errT_facts)
open Sto (StoreAt Right seekR tk recV parts sixC Parts set6 getQ get_any GetPost)
open Rec (Rc far)

/-- How long the list is, as its cell tells. -/
def lenC (K : Nat) (w : World) : Nat := match w.cell? ⟨K, 12, none⟩ with
  | some (.slice _ n _) => n
  | _ => 0

section
variable {W w w1 : World} {F : Nat → Prop} {D B K k : Nat} {L : List Rc} {last : Int} {t : TakerP} {vb v : Value} {c : Cn}

theorem CAt.lenC (h : CAt tc tp W K t vb v c w) : Con.lenC K w = c.l.length := by
  obtain ⟨a, cc, hv⟩ := h.row.slice
  have := h.cells.2.2.2.2.2.2.2.2.2.2.2.2.1
  unfold Con.lenC
  rw [this, hv]

set_option maxHeartbeats 8000000 in
set_option maxRecDepth 100000 in
theorem again_c (h : PairAt W F D B L last K t vb v c w) (hk : Ok k c) (hkb : k ≤ 100000) (hm : ML W) (ht : errT t = 0) (now : Int) (hnow : 0 ≤ now ∧ now ≤ far) :
    Calls Tryd.prog 19 #[.pointer (some ⟨K, 0, none⟩), .pointer (some ⟨D, 0, none⟩), .int .i64 now] w (AgainPost W K t vb v L c w (againP t L now c.l)) := by
  have hcnt := hk.count
  have hlen := hk.len
  have hfar : far = 1099511627776 := rfl
  obtain ⟨O, hO⟩ : ∃ O, againP t L now c.l = O := ⟨_, rfl⟩
  rw [hO]
  obtain ⟨wz, hwz⟩ : ∃ wz, wz = w.alloc (.cells #[.int .i64 0, .string ⟨#[]⟩, .string ⟨#[]⟩, .int .i64 0, .int .i64 0, .int .i64 0] 49) := ⟨_, rfl⟩
  have hbz : Below w.heap.size w wz := by rw [hwz]; exact (Below.refl _ _).alloc (Nat.le_refl _) _
  have hez : wz.heap[w.heap.size]? = some (.cells #[.int .i64 0, .string ⟨#[]⟩, .string ⟨#[]⟩, .int .i64 0, .int .i64 0, .int .i64 0] 49 (0, 0)) := by rw [hwz]; exact heap_alloc_new w _
  obtain ⟨rb, hrb⟩ : ∃ rb, w.heap.size = rb := ⟨_, rfl⟩
  rw [hrb] at hez
  have hKr : K < rb := by have := heap_lt h.con.cell; omega
  have hVr : ∀ k, own v k → k < rb := fun k hk => by rw [← hrb]; exact h.con.row.lt k hk
  have H0 := Lib.hid (show AgS W F D B L last K t vb v c now rb w [] c.l wz from ⟨v, h.next hbz, Heap.Touch.ofBelow hbz, fun k hk => .inl hk, hez⟩)
  have P0 := Lib.hid (show AgP t L now c.l [] c.l from ⟨by simp, fun p hp => hp⟩)
  have HO := Lib.hid hO; have HK := Lib.hid hk; have HML := Lib.hid hm; have HT := Lib.hid ht; have HRB := Lib.hid hrb; have HVR := Lib.hid hVr; have HH := Lib.hid h
  obtain ⟨l0, hl0⟩ : ∃ l0, c.l = l0 := ⟨_, rfl⟩
  have HL0 := Lib.hid hl0
  have hlb : l0.length ≤ 100000 := by rw [← hl0]; omega
  clear h hk hbz hez hrb hO hm ht hlen hVr hl0
  go_enter Tryd.func19, Tryd.ntmps19
  go_upto_region 1 with fail
  rw [← hwz, HRB.out]
  clear hwz
  go_wp2_with fail
  go_loopw [8] (fun i wr => ∃ (A R : List Pd), i = .int .i64 (A.length : Nat) ∧ A.length + R.length ≤ l0.length ∧ Hid (AgP t L now c.l A R) ∧ Hid (AgS W F D B L last K t vb v c now rb w A R wr)) (fun i wr => lenC K wr - (intOf i).toNat)
  case atStart => exact ⟨[], c.l, rfl, by rw [HL0.out]; simp, P0, H0⟩
  case round =>
    obtain ⟨A, R, rfl, hle, HP, HS⟩ := hrel
    clear H0 P0
    obtain ⟨v1, hp1, ht1, ho1, hr1⟩ := HS.out
    obtain ⟨a, ha⟩ : ∃ a, A.length = a := ⟨_, rfl⟩
    have HA := Lib.hid ha
    rw [ha] at hle ⊢
    obtain ⟨c0, c1, c2, c3, c4, c5, c6, c7, c8, c9, c10, c11, c12, cf⟩ := hp1.con.cells
    have hlt := heap_lt hp1.con.cell
    have hrow := hp1.con.row
    have hlc := hp1.con.lenC
    obtain ⟨n, hn⟩ : ∃ n, (A ++ R).length = n := ⟨_, rfl⟩
    have hnl : n = a + R.length := by rw [← hn, List.length_append, ha]
    have hrow2 : Row wr tp 3 v1 n (pdsV (A ++ R)) := by rw [← hn]; exact hrow
    have hlc2 : lenC K wr = n := by rw [← hn]; exact hlc
    have HLC := Lib.hid hlc2; have HNL := Lib.hid hn
    have hnb : n ≤ 100000 := by omega
    clear ha hrow hlc hn hlc2
    cases R with
    | nil =>
      obtain rfl : n = a := by simpa using hnl
      obtain ⟨va, vc, rfl⟩ := hrow2.slice
      clear hnl
      obtain rfl : O = (A, none) := by rw [← HO.out]; exact HP.out.end_
      obtain ⟨r0, r1, r2, r3, r4, r5⟩ := sixC hr1
      have rf : ∀ j, wr.frozen? ⟨rb, j, none⟩ = false := fun j => frozen_of_row wr rb j _ _ hr1
      have hrl := heap_lt hr1
      have HFI := Lib.hid (show NextC tc tp W K t vb v w ⟨c.place, c.count, A⟩ ((((((wr.setCell ⟨rb, 0, none⟩ (.int .i64 0)).setCell ⟨rb, 1, none⟩ (.string ⟨#[]⟩)).setCell ⟨rb, 2, none⟩ (.string ⟨#[]⟩)).setCell ⟨rb, 3, none⟩ (.int .i64 0)).setCell ⟨rb, 4, none⟩ (.int .i64 0)).setCell ⟨rb, 5, none⟩ (.int .i64 0)) from by
        have hc := hp1.con
        rw [List.append_nil] at hc
        refine ⟨_, hc.touch (F := fun k => k = rb) (touch_set6 (F := fun k => k = rb) (R := rb) (Heap.Touch.refl _ wr) (.inl rfl) _ _ _ _ _ _) (fun k hk => ?_) (fun e => ?_) (fun k hk e => ?_) (fun k hk e => ?_), touch_set6 ht1 (.inr (by have := HRB.out; omega)) _ _ _ _ _ _, fun k hk => (ho1 k hk).imp id fun h => by have := HRB.out; omega⟩
        · have := HRB.out; have := HH.out.below.size; omega
        · omega
        · rcases ho1 k hk with h | h
          · have := HVR.out k h; omega
          · omega
        · have := (HH.out.con.fb k hk).1; have := HRB.out; omega)
      have HR6 := Lib.hid (set6 (.int .i64 0) (.string ⟨#[]⟩) (.string ⟨#[]⟩) (.int .i64 0) (.int .i64 0) (.int .i64 0) hr1)
      clear hp1 ht1 ho1 hr1 hrow2
      go_wp2_with fail
      refine bodyPost_ret (v := .tuple #[.agg #[.int .i64 0, .string ⟨#[]⟩, .string ⟨#[]⟩, .int .i64 0, .int .i64 0, .int .i64 0], .bool false]) (res_del2 6 7 Tryd.results19 _ _ rb rfl rfl HR6.out) rfl ?_
      exact ⟨rfl, HFI.out⟩
    | cons p R =>
      simp only [List.length_cons] at hnl hle
      have hcur : (A ++ p :: R)[a]? = some p := by rw [← HA.out, List.getElem?_append_right (Nat.le_refl _), Nat.sub_self]; rfl
      have hpm := HP.out.2 p (by simp)
      obtain ⟨hps, hpn, hpd⟩ := HK.out.in_ p hpm
      have hpl := HK.out.place
      have hkz : (a : Int) < n := by omega
      have hka : a < n := by omega
      rcases hrow2.2 with ⟨_, h0⟩ | ⟨g, off, cap, cur, rfl, hg, _⟩
      · omega
      have HN1 := Lib.hid hnl
      clear hnl
      obtain ⟨m0, m1, m2, f1, f2⟩ := cells_pd hrow2 a p hcur hka
      have hgl := heap_lt hg
      have HCUR := Lib.hid hcur; have HRW := Lib.hid hrow2
      clear hg hrow2 hcur hpm hcnt
      by_cases hd : now < p.due
      · have HN := Lib.hid (HP.out.keep hd)
        have HS2 := Lib.hid (show AgS W F D B L last K t vb v c now rb w (A ++ [p]) R wr from by
          obtain ⟨v1, hp1, ht1, ho1, hr1⟩ := HS.out
          exact ⟨v1, by rw [List.append_assoc]; exact hp1, ht1, ho1, hr1⟩)
        clear hp1 ht1 ho1 hr1
        go_wp2_with fail
        exact ⟨⟨A ++ [p], R, by rw [List.length_append, HA.out]; go_num, by rw [List.length_append, HA.out]; simp; omega, HN, HS2⟩, by rw [HLC.out]; simp [intOf]; omega⟩
      · have hd0 : decide (now < p.due) = false := decide_eq_false hd
        have hd1 : p.due ≤ now := by omega
        have hgt := get_any hp1.st p.seq (by omega)
        unfold GetPost at hgt
        obtain ⟨o, ho⟩ : ∃ o, getQ L p.seq = o := ⟨_, rfl⟩
        rw [ho] at hgt
        obtain ⟨sr, hsr⟩ : ∃ sr, seekR 0 o = sr := ⟨_, rfl⟩
        rw [hsr] at hgt
        obtain ⟨s, hdd, d, hpp⟩ := parts sr.1
        unfold Sto.recV at hgt
        rw [hpp.s1, hpp.h1, hpp.d1] at hgt
        obtain ⟨rx, er⟩ := sr
        simp only at hgt hpp
        have HGT := Lib.hid hgt; have HGO := Lib.hid ho; have HSR := Lib.hid hsr; have HPP := Lib.hid hpp
        clear hgt ho hsr hpp hd
        go_wp2_with fail
        refine HGT.out.mono ?_
        rintro e w2 ⟨rfl, hb2⟩
        obtain ⟨w3, hw3⟩ : ∃ w3, w3 = w2.alloc (.cells #[.int .i64 rx.kind, .int .i64 rx.seq, .int .i64 rx.time, .string s, .string hdd, .string d] 42) := ⟨_, rfl⟩
        have hb3 : Below w2.heap.size w2 w3 := by rw [hw3]; exact (Below.refl _ _).alloc (Nat.le_refl _) _
        have he3 : w3.heap[w2.heap.size]? = some (.cells #[.int .i64 rx.kind, .int .i64 rx.seq, .int .i64 rx.time, .string s, .string hdd, .string d] 42 (0, 0)) := by rw [hw3]; exact heap_alloc_new w2 _
        obtain ⟨bx, hbx⟩ : ∃ bx, w2.heap.size = bx := ⟨_, rfl⟩
        rw [hbx] at he3
        have hbb := hb2.trans (hb3.mono hb2.size)
        have hp3 := hp1.next hbb
        have ht3 := ht1.after (Heap.Touch.ofBelow hbb)
        have hr3 := (hbb.block rb (heap_lt hr1)).trans hr1
        have hrw3 : Row w3 tp 3 (.slice (some ⟨g, off, none⟩) n cap) n (pdsV (A ++ p :: R)) := HRW.out.kept fun k _ hk => hbb.block k hk
        have hxb : wr.heap.size ≤ bx := by rw [← hbx]; exact hb2.size
        have HP3 := Lib.hid hp3; have HT3 := Lib.hid ht3; have HO1 := Lib.hid ho1; have HR3 := Lib.hid hr3; have HRW3 := Lib.hid hrw3; have HE3 := Lib.hid he3; have HBX := Lib.hid hbx
        have hgr := HRW.out.lt g (by simp [own, Value.ownBlock])
        have HX := Lib.hid (show K < bx ∧ rb < bx ∧ g < bx from ⟨by omega, by have := heap_lt hr1; omega, by omega⟩)
        clear hb2 hb3 he3 hbx hbb hp1 ht1 ho1 hr1 hp3 ht3 hr3 hrw3 HGT c0 c1 c2 c3 c4 c5 c6 c7 c8 c9 c10 c11 c12 cf m0 m1 m2 f1 f2
        obtain ⟨c0, c1, c2, c3, c4, c5, c6, c7, c8, c9, c10, c11, c12, cf⟩ := HP3.out.con.cells
        obtain ⟨m0, m1, m2, f1, f2⟩ := cells_pd HRW3.out a p HCUR.out hka
        have hlt3 := heap_lt HP3.out.con.cell
        have hgl3 : g < w3.heap.size := HRW3.out.lt g (by simp [own, Value.ownBlock])
        go_upto_region 7 with fail
        rw [← hw3, HBX.out]
        clear hw3
        go_cut [63] from 42 to 63 (fun s63 wx => s63 = .bool ((er != 0) || (decide (0 < t.most) && decide (t.most ≤ p.nth))) ∧ Hid (∃ q, wx = w3.drewN q))
        case first =>
          by_cases he : er = 0
          · have he1 : ((er : Int) != 0) = false := by rw [he]; rfl
            have he2 : (er != 0) = false := by rw [he]; rfl
            clear he
            by_cases hm1 : 0 < t.most
            · have hm2 : decide ((0 : Int) < t.most) = true := decide_eq_true hm1
              go_quiet (fail)
              go_wp2_with fail
              go_meet
              exact ⟨by first | (simp [he2, hm1]; done) | (simp [he2]; omega), Lib.hid ⟨_, rfl⟩⟩
            · have hm2 : decide ((0 : Int) < t.most) = false := decide_eq_false hm1
              go_quiet (fail)
              go_wp2_with fail
              go_meet
              exact ⟨by first | (simp [he2]; done) | (simp [he2]; omega), Lib.hid ⟨_, rfl⟩⟩
          · have he1 : ((er : Int) != 0) = true := by simpa using he
            have he2 : (er != 0) = true := by simpa using he
            clear he
            go_quiet (fail)
            go_wp2_with fail
            go_meet
            exact ⟨by simp [he2], Lib.hid ⟨_, rfl⟩⟩
        case rest =>
        obtain ⟨rfl, hcq⟩ := hcut
        obtain ⟨q, hwq⟩ := hcq.out
        clear hcq c0 c1 c2 c3 c4 c5 c6 c7 c8 c9 c10 c11 c12 cf m0 m1 m2 f1 f2 hlt3 hgl3
        have hb4 : Below w3.heap.size w3 wc := by rw [hwq]; exact below_drewN (Below.refl _ _) q
        have HP4 := Lib.hid (HP3.out.next hb4)
        have HT4 := Lib.hid (HT3.out.after (Heap.Touch.ofBelow hb4))
        have HR4 := Lib.hid ((hb4.block rb (heap_lt HR3.out)).trans HR3.out)
        have HE4 := Lib.hid ((hb4.block bx (heap_lt HE3.out)).trans HE3.out)
        have HRW4 := Lib.hid (HRW3.out.kept (w' := wc) fun k _ hk => hb4.block k hk)
        have hgb : ∀ k, own (.slice (some ⟨g, off, none⟩) n cap) k → k = g := fun k hk => by simp [own, Value.ownBlock] at hk; exact hk.symm
        have hgrb : g ≠ rb := fun e => by
          rcases HO1.out g (by simp [own, Value.ownBlock]) with h | h
          · have := HVR.out g h; omega
          · omega
        have hgK : g ≠ K := HP4.out.con.ne g (by simp [own, Value.ownBlock])
        have HG := Lib.hid (show g ≠ rb ∧ g ≠ K from ⟨hgrb, hgK⟩)
        clear hwq hb4 HP3 HT3 HR3 HE3 HRW3 hgrb hgK hgb
        obtain ⟨c0, c1, c2, c3, c4, c5, c6, c7, c8, c9, c10, c11, c12, cf⟩ := HP4.out.con.cells
        obtain ⟨m0, m1, m2, f1, f2⟩ := cells_pd HRW4.out a p HCUR.out hka
        have hlt4 := heap_lt HP4.out.con.cell
        have hgl4 : g < wc.heap.size := HRW4.out.lt g (by simp [own, Value.ownBlock])
        obtain ⟨Bd, hBd⟩ : ∃ Bd, ((er != 0) || (decide (0 < t.most) && decide (t.most ≤ p.nth))) = Bd := ⟨_, rfl⟩
        rw [hBd]
        obtain ⟨m, rfl⟩ : ∃ m, n = m + 1 := ⟨n - 1, by omega⟩
        cases Bd with
        | true =>
          have hdrop : getQ L p.seq = none ∨ (0 < t.most ∧ t.most ≤ p.nth) := by
            cases ho : o with
            | none => exact .inl (by rw [HGO.out, ho])
            | some x =>
              have h1 := HSR.out
              rw [ho, show seekR 0 (some x) = (x, 0) from rfl] at h1
              simp only [Prod.mk.injEq] at h1
              rw [← h1.2] at hBd
              simp at hBd
              exact .inr hBd
          have HN := Lib.hid (HP.out.drop (by omega) hdrop)
          have hdel := Del.delete_any (w := wc) (m := m) (i := a) (d := 1) (xs := pdsV (A ++ p :: R)) g off cap (by omega) (by omega) (by omega) (by omega) HRW4.out (pdsV_one _)
          rw [show (((1 : Nat) : Int)) = 1 from rfl] at hdel
          have hpt : (pdsV (A ++ p :: R)).take (a * 3) ++ (pdsV (A ++ p :: R)).drop ((a + 1) * 3) = pdsV (A ++ R) := by
            rw [pdsV_take, pdsV_drop, ← pdsV_append, List.take_append_of_le_length (by rw [HA.out]; exact Nat.le_refl _), List.take_of_length_le (by rw [HA.out]; exact Nat.le_refl _), List.drop_append, HA.out, List.drop_of_length_le (by rw [HA.out]; omega), List.nil_append, show a + 1 - a = 1 by omega]
            rfl
          rw [hpt] at hdel
          have hml : (A ++ R).length = m := by rw [List.length_append, HA.out]; have := HN1.out; omega
          have HDEL := Lib.hid hdel; have HML2 := Lib.hid hml
          clear hdel hpt hml hBd hdrop
          go_wp2_with fail
          refine HDEL.out.mono ?_
          rintro e w5 ⟨rfl, r5, t5⟩
          have hr5 : Row w5 tp 3 (.slice (some ⟨g, off, none⟩) m cap) (A ++ R).length (pdsV (A ++ R)) := by rw [HML2.out]; exact r5
          have h6 := HP4.out.con.setList (l := A ++ R) t5 hr5 (fun k hk => .inl (by simpa [own, Value.ownBlock] using hk))
          have hK5 : w5.heap[K]? = _ := (t5.block K hlt4 (fun e => HP4.out.con.ne K e rfl)).trans HP4.out.con.cell
          have k5 := heap_lt hK5
          have kf5 : ∀ j, w5.frozen? ⟨K, j, none⟩ = false := fun j => frozen_of_row w5 K j _ _ hK5
          have k12 : w5.cell? ⟨K, 12, none⟩ = some (.slice (some ⟨g, off, none⟩) (m + 1 : Nat) cap) := by rw [cell_of_row w5 K 12 _ _ _ hK5]; rfl
          have HS6 := Lib.hid (show AgS W F D B L last K t vb v c now rb w A R (w5.setCell ⟨K, 12, none⟩ (.slice (some ⟨g, off, none⟩) m cap)) ∧ lenC K (w5.setCell ⟨K, 12, none⟩ (.slice (some ⟨g, off, none⟩) m cap)) = m from by
            refine ⟨⟨_, HP4.out.of h6.1 h6.2 (fun k hk => .inl (by simpa [own, Value.ownBlock] using hk)), HT4.out.trans h6.2 (fun k hk e => ?_), fun k hk => HO1.out k (by simpa [own, Value.ownBlock] using hk), ?_⟩, h6.1.lenC.trans HML2.out⟩
            · rcases e with e | e
              · exact .inl e
              · rcases HO1.out k e with e | e
                · exact .inr e
                · have := HRB.out; omega
            · exact (h6.2.block rb (heap_lt HR4.out) (fun e => by
                rcases e with e | e
                · omega
                · have : rb = g := by simp [own, Value.ownBlock] at e; exact e.symm
                  exact HG.out.1 this.symm)).trans HR4.out)
          clear r5 t5 hr5 h6 hK5 HDEL c0 c1 c2 c3 c4 c5 c6 c7 c8 c9 c10 c11 c12 cf m0 m1 m2 f1 f2
          go_wp2_with fail
          exact ⟨⟨A, R, by rw [HA.out], by rw [HA.out]; omega, HN, Lib.hid HS6.out.1⟩, by rw [HS6.out.2, HLC.out]; simp [intOf]; omega⟩
        | false =>
          obtain rfl : er = 0 := by
            by_cases h : er = 0
            · exact h
            · simp [h] at hBd
          have hmo : ¬ (0 < t.most ∧ t.most ≤ p.nth) := by simpa using hBd
          obtain rfl : o = some rx := by
            have h1 := HSR.out
            cases o with
            | none => cases h1
            | some x =>
              rw [show seekR 0 (some x) = (x, 0) from rfl] at h1
              simp only [Prod.mk.injEq] at h1
              rw [h1.1]
          have hhit := HP.out.hit (by omega) HGO.out hmo
          rw [HO.out] at hhit
          obtain ⟨wt, hwt⟩ : ∃ wt, waitT t (p.nth + 1) = wt := ⟨_, rfl⟩
          have hwr := wait_range HT.out (p.nth + 1)
          rw [hwt] at hwr hhit
          have hbk : t.back.length ≤ 1048576 := by have := (errT_facts HT.out).2.2.1; omega
          have h5 := HP4.out.con.setNth (by show m + 1 = (A ++ p :: R).length; rw [HNL.out]) HCUR.out (p.nth + 1)
          have hp5 := HP4.out.of h5.1 (h5.2.mono fun _ _ e => .inr e) fun k hk => .inl hk
          obtain ⟨w5, hw5⟩ : ∃ w5, w5 = wc.setCell ⟨g, off + a * 3 + 1, none⟩ (.int .i64 (p.nth + 1)) := ⟨_, rfl⟩
          rw [← hw5] at h5 hp5
          have hset1 : (A ++ p :: R).set a ⟨p.seq, p.nth + 1, p.due⟩ = A ++ ⟨p.seq, p.nth + 1, p.due⟩ :: R := by
            rw [← HA.out, List.set_append_right _ _ (Nat.le_refl _), Nat.sub_self]; rfl
          simp only [hset1] at hp5
          have hcur5 : (A ++ (⟨p.seq, p.nth + 1, p.due⟩ : Pd) :: R)[a]? = some ⟨p.seq, p.nth + 1, p.due⟩ := by rw [← HA.out, List.getElem?_append_right (Nat.le_refl _), Nat.sub_self]; rfl
          have hlen5 : (A ++ (⟨p.seq, p.nth + 1, p.due⟩ : Pd) :: R).length = m + 1 := by
            have := HNL.out; rw [List.length_append, List.length_cons] at this ⊢; exact this
          have hwc := fun w' (hb : Below w5.heap.size w5 w') => wait_c (hp5.next hb).con.back hbk (p.nth + 1)
          rw [hwt] at hwc
          unfold takerV at hwc
          have hwn : IntKind.i64.wrap (p.nth + 1) = p.nth + 1 := IntWalk.i64_in _ (by omega)
          have hwd : IntKind.i64.wrap (now + wt) = now + wt := IntWalk.i64_in _ (by omega)
          have hr5 := (h5.2.block rb (heap_lt HR4.out) (fun e => by simp [own, Value.ownBlock] at e; exact HG.out.1 e)).trans HR4.out
          have hx5 := (h5.2.block bx (heap_lt HE4.out) (fun e => by simp [own, Value.ownBlock] at e; have := HX.out.2.2; omega)).trans HE4.out
          have ht5 := HT4.out.trans (h5.2.mono (G := fun k => k = K ∨ own (.slice (some ⟨g, off, none⟩) (m + 1 : Nat) cap) k) fun _ _ e => .inr e) (fun k hk e => by
            rcases e with e | e
            · exact .inl e
            · rcases HO1.out k e with e | e
              · exact .inr e
              · have := HRB.out; omega)
          have hHIT := Lib.hid hhit; have HWC := Lib.hid hwc; have HP5 := Lib.hid hp5; have HT5 := Lib.hid ht5; have HR5 := Lib.hid hr5; have HX5 := Lib.hid hx5; have HCUR5 := Lib.hid hcur5; have HLEN5 := Lib.hid hlen5; have HMO := Lib.hid hmo; have HWT := Lib.hid hwt
          clear hhit hwc h5 hp5 hr5 hx5 ht5 hcur5 hlen5 hset1 hmo hBd hwt
          go_upto_region 10 with fail
          rw [← hw5]
          clear hw5 c0 c1 c2 c3 c4 c5 c6 c7 c8 c9 c10 c11 c12 cf m0 m1 m2 f1 f2 hlt4 hgl4
          obtain ⟨c0, c1, c2, c3, c4, c5, c6, c7, c8, c9, _, _, _, _⟩ := HP5.out.con.cells
          have hrw5 : Row w5 tp 3 (.slice (some ⟨g, off, none⟩) (m + 1 : Nat) cap) (m + 1) (pdsV (A ++ ⟨p.seq, p.nth + 1, p.due⟩ :: R)) := by have := HP5.out.con.row; rw [HLEN5.out] at this; exact this
          obtain ⟨m0, m1, m2, f1, f2⟩ := cells_pd hrw5 a _ HCUR5.out hka
          simp only at m1 m2
          clear hrw5
          have hgl5 : g < w5.heap.size := HP5.out.con.row.lt g (by simp [own, Value.ownBlock])
          go_region_held3 (fun w' => w'.cell? ⟨K, 0, none⟩ = some (.string ⟨t.name.toArray⟩) ∧ w'.cell? ⟨K, 1, none⟩ = some (.string ⟨t.filt.toArray⟩) ∧ w'.cell? ⟨K, 2, none⟩ = some (.int .i64 t.src) ∧ w'.cell? ⟨K, 3, none⟩ = some (.int .i64 t.start) ∧ w'.cell? ⟨K, 4, none⟩ = some (.int .i64 t.ack) ∧ w'.cell? ⟨K, 5, none⟩ = some (.int .i64 t.wait) ∧ w'.cell? ⟨K, 6, none⟩ = some vb ∧ w'.cell? ⟨K, 7, none⟩ = some (.int .i64 t.most) ∧ w'.cell? ⟨K, 8, none⟩ = some (.int .i64 t.pend) ∧ w'.cell? ⟨K, 9, none⟩ = some (.bool t.push) ∧ w'.cell? ⟨g, off + a * 3 + 1, none⟩ = some (.int .i64 (p.nth + 1)))
            (first | (with_reducible exact ⟨c0, c1, c2, c3, c4, c5, c6, c7, c8, c9, m1⟩) | (with_reducible exact ⟨z0, z1, z2, z3, z4, z5, z6, z7, z8, z9, y1⟩) | (with_reducible assumption) | go_keep)
            ((go_at_call 21; ((refine (HWC.out _ (Below.refl _ _).drew).mono ?_); rintro e w6 ⟨rfl, h6⟩; have hb6 : Below w5.heap.size w5 w6 := (Below.refl _ _).drew.trans h6; have hp6 := HP5.out.next hb6; obtain ⟨c0, c1, c2, c3, c4, c5, c6, c7, c8, c9, _, _, _, _⟩ := hp6.con.cells; have hrw6 : Row w6 tp 3 (.slice (some ⟨g, off, none⟩) (m + 1 : Nat) cap) (m + 1) (pdsV (A ++ ⟨p.seq, p.nth + 1, p.due⟩ :: R)) := (by have := hp6.con.row; rw [HLEN5.out] at this; exact this); obtain ⟨_, m1, m2, _, f2⟩ := cells_pd hrw6 a _ HCUR5.out hka; have h7 := hp6.con.setDue (by show m + 1 = (A ++ (⟨p.seq, p.nth + 1, p.due⟩ : Pd) :: R).length; rw [HLEN5.out]) HCUR5.out (now + wt); have hset2 : (A ++ (⟨p.seq, p.nth + 1, p.due⟩ : Pd) :: R).set a ⟨p.seq, p.nth + 1, now + wt⟩ = A ++ ⟨p.seq, p.nth + 1, now + wt⟩ :: R := (by rw [← HA.out, List.set_append_right _ _ (Nat.le_refl _), Nat.sub_self]; rfl); simp only [hset2] at h7; obtain ⟨z0, z1, z2, z3, z4, z5, z6, z7, z8, z9, _, _, _, _⟩ := h7.1.cells; have hlen7 : (A ++ (⟨p.seq, p.nth + 1, now + wt⟩ : Pd) :: R).length = m + 1 := (by have := HLEN5.out; rw [List.length_append, List.length_cons] at this ⊢; exact this); have hcur7 : (A ++ (⟨p.seq, p.nth + 1, now + wt⟩ : Pd) :: R)[a]? = some ⟨p.seq, p.nth + 1, now + wt⟩ := (by rw [← HA.out, List.getElem?_append_right (Nat.le_refl _), Nat.sub_self]; rfl); have hrw7 : Row (w6.setCell ⟨g, off + a * 3 + 2, none⟩ (.int .i64 (now + wt))) tp 3 (.slice (some ⟨g, off, none⟩) (m + 1 : Nat) cap) (m + 1) (pdsV (A ++ ⟨p.seq, p.nth + 1, now + wt⟩ :: R)) := (by have := h7.1.row; simp only [hlen7] at this; exact this); obtain ⟨_, y1, _, _, _⟩ := cells_pd hrw7 a _ hcur7 hka; have hgl6 : g < w6.heap.size := Nat.lt_of_lt_of_le hgl5 hb6.size; have HP6 := Lib.hid hp6; have H7 := Lib.hid h7; have HB6 := Lib.hid hb6; clear hp6 h7 hb6 hrw6 hrw7 hset2 hlen7 hcur7 h6)))
          obtain ⟨w7, hw7⟩ : ∃ w7, w7 = w6.setCell ⟨g, off + a * 3 + 2, none⟩ (.int .i64 (now + wt)) := ⟨_, rfl⟩
          have h7 := H7.out
          rw [← hw7] at h7 ⊢
          have hp7 := HP6.out.of h7.1 (h7.2.mono fun _ _ e => .inr e) fun k hk => .inl hk
          have ht7 : Heap.Touch (fun k => k = K ∨ own v k) w w7 := (HT5.out.after (Heap.Touch.ofBelow HB6.out)).trans (h7.2.mono (G := fun k => k = K ∨ own (.slice (some ⟨g, off, none⟩) (m + 1 : Nat) cap) k) fun _ _ e => .inr e) (fun k hk e => by
            rcases e with e | e
            · exact .inl e
            · rcases HO1.out k e with e | e
              · exact .inr e
              · have := HRB.out; omega)
          have hr6 := (HB6.out.block rb (heap_lt HR5.out)).trans HR5.out
          have hx6 := (HB6.out.block bx (heap_lt HX5.out)).trans HX5.out
          have hr7 := (h7.2.block rb (heap_lt hr6) (fun e => by simp [own, Value.ownBlock] at e; exact HG.out.1 e)).trans hr6
          have hx7 := (h7.2.block bx (heap_lt hx6) (fun e => by simp [own, Value.ownBlock] at e; have := HX.out.2.2; omega)).trans hx6
          have hlen7 : (A ++ (⟨p.seq, p.nth + 1, now + wt⟩ : Pd) :: R).length = m + 1 := by have := HLEN5.out; rw [List.length_append, List.length_cons] at this ⊢; exact this
          have hcur7 : (A ++ (⟨p.seq, p.nth + 1, now + wt⟩ : Pd) :: R)[a]? = some ⟨p.seq, p.nth + 1, now + wt⟩ := by rw [← HA.out, List.getElem?_append_right (Nat.le_refl _), Nat.sub_self]; rfl
          have hrw7 : Row w7 tp 3 (.slice (some ⟨g, off, none⟩) (m + 1 : Nat) cap) (m + 1) (pdsV (A ++ ⟨p.seq, p.nth + 1, now + wt⟩ :: R)) := by have := h7.1.row; simp only [hlen7] at this; exact this
          have htl := fun w' (hb : Below w7.heap.size w7 w') => told_c (hp7.next hb) hpl (by have := HK.out.count; show 0 ≤ c.count ∧ c.count ≤ _; omega) HML.out HT.out rx (p.nth + 1)
          unfold Sto.recV at htl
          rw [HPP.out.s1, HPP.out.h1, HPP.out.d1] at htl
          have HTL := Lib.hid htl; have HP7 := Lib.hid hp7; have HT7 := Lib.hid ht7; have HR7 := Lib.hid hr7; have HX7 := Lib.hid hx7
          clear c0 c1 c2 c3 c4 c5 c6 c7 c8 c9 m0 m1 m2 f1 f2 z0 z1 z2 z3 z4 z5 z6 z7 z8 z9 y1 hgl5 hgl6
          obtain ⟨_, m1, m2, _, _⟩ := cells_pd hrw7 a _ hcur7 hka
          simp only at m1
          have hgl7 : g < w7.heap.size := hrw7.lt g (by simp [own, Value.ownBlock])
          obtain ⟨q0, q1, q2, q3, q4, q5⟩ := sixC hx7
          obtain ⟨dl, hdl⟩ : ∃ dl, (tellP t L ⟨c.place, c.count, A ++ ⟨p.seq, p.nth + 1, now + wt⟩ :: R⟩ rx (p.nth + 1)).2 = dl := ⟨_, rfl⟩
          have HDL := Lib.hid hdl
          obtain ⟨ds, hds⟩ : ∃ ds : ByteArray, (⟨dl.subj.toArray⟩ : ByteArray) = ds := ⟨_, rfl⟩
          obtain ⟨dd, hddd⟩ : ∃ dd : ByteArray, (⟨dl.data.toArray⟩ : ByteArray) = dd := ⟨_, rfl⟩
          have HDV := Lib.hid (show delV dl = .agg #[.int .i64 dl.seq, .string ds, .string dd, .int .i64 dl.count, .int .i64 dl.nth, .int .i64 dl.left] by unfold delV; rw [hds, hddd])
          clear htl hp7 ht7 hr6 hx6 hr7 hx7 hw7 h7 hlen7 hcur7 hrw7 hdl hds hddd
          go_wp2_with fail
          go_region_held3 (fun w' => w'.cell? ⟨bx, 0, none⟩ = some (.int .i64 rx.kind) ∧ w'.cell? ⟨bx, 1, none⟩ = some (.int .i64 rx.seq) ∧ w'.cell? ⟨bx, 2, none⟩ = some (.int .i64 rx.time) ∧ w'.cell? ⟨bx, 3, none⟩ = some (.string s) ∧ w'.cell? ⟨bx, 4, none⟩ = some (.string hdd) ∧ w'.cell? ⟨bx, 5, none⟩ = some (.string d) ∧ w'.cell? ⟨g, off + a * 3 + 1, none⟩ = some (.int .i64 (p.nth + 1)))
            (first | (with_reducible exact ⟨q0, q1, q2, q3, q4, q5, m1⟩) | (with_reducible exact ⟨z0, z1, z2, z3, z4, z5, y1⟩) | (with_reducible assumption) | go_keep)
            ((go_at_call 22; ((refine (HTL.out _ (Below.refl _ _).drew).mono ?_); rintro e w8 ⟨he8, hc8, t8⟩; rw [HDL.out, HDV.out] at he8; subst he8; have hx8 := (t8.block bx (heap_lt HX7.out) (fun e => by have := HX.out.1; omega)).trans HX7.out; have hr8 := (t8.block rb (heap_lt HR7.out) (fun e => by omega)).trans HR7.out; have m18 := (World.cell?_of_block (a := ⟨g, off + a * 3 + 1, none⟩) (t8.block g hgl7 HG.out.2)).trans m1; obtain ⟨q0, q1, q2, q3, q4, q5⟩ := sixC hx8; obtain ⟨z0, z1, z2, z3, z4, z5⟩ := sixC ((heap_set6 w8 (show bx ≠ rb from by have := HX.out.2.1; omega) (.int .i64 dl.seq) (.string ds) (.string dd) (.int .i64 dl.count) (.int .i64 dl.nth) (.int .i64 dl.left)).trans hx8); have y1 := (World.cell?_of_block (a := ⟨g, off + a * 3 + 1, none⟩) (heap_set6 w8 HG.out.1 (.int .i64 dl.seq) (.string ds) (.string dd) (.int .i64 dl.count) (.int .i64 dl.nth) (.int .i64 dl.left))).trans m18; have m1 := m18; obtain ⟨r0, r1, r2, r3, r4, r5⟩ := sixC hr8; have rf : ∀ j, w8.frozen? ⟨rb, j, none⟩ = false := (fun j => frozen_of_row w8 rb j _ _ hr8); have hrl := heap_lt hr8; have HC8 := Lib.hid hc8; have T8 := Lib.hid t8; have HR8 := Lib.hid hr8; clear hc8 t8 hx8 hr8 m18)))
          have HFI := Lib.hid (show NextC tc tp W K t vb v w ⟨c.place, c.count + 1, A ++ ⟨p.seq, p.nth + 1, now + wt⟩ :: R⟩ ((((((w8.setCell ⟨rb, 0, none⟩ (.int .i64 dl.seq)).setCell ⟨rb, 1, none⟩ (.string ds)).setCell ⟨rb, 2, none⟩ (.string dd)).setCell ⟨rb, 3, none⟩ (.int .i64 dl.count)).setCell ⟨rb, 4, none⟩ (.int .i64 dl.nth)).setCell ⟨rb, 5, none⟩ (.int .i64 dl.left)) from by
            have ht8 : Heap.Touch (fun k => k = K ∨ own v k) w w8 := HT7.out.after ((Heap.Touch.ofBelow (Below.refl _ _).drew).after (T8.out.mono (G := fun k => k = K ∨ own v k) fun _ _ e => Or.inl e))
            refine ⟨_, HC8.out.touch (F := fun k => k = rb) (touch_set6 (F := fun k => k = rb) (R := rb) (Heap.Touch.refl _ w8) (.inl rfl) _ _ _ _ _ _) (fun k hk => ?_) (fun e => ?_) (fun k hk e => ?_) (fun k hk e => ?_), touch_set6 ht8 (.inr (by have := HRB.out; omega)) _ _ _ _ _ _, fun k hk => (HO1.out k hk).imp id fun h => by have := HRB.out; omega⟩
            · have := HRB.out; have := HH.out.below.size; omega
            · omega
            · rcases HO1.out k hk with h | h
              · have := HVR.out k h; omega
              · omega
            · have := (HH.out.con.fb k hk).1; have := HRB.out; omega)
          have HR6 := Lib.hid (set6 (.int .i64 dl.seq) (.string ds) (.string dd) (.int .i64 dl.count) (.int .i64 dl.nth) (.int .i64 dl.left) HR8.out)
          clear q0 q1 q2 q3 q4 q5 z0 z1 z2 z3 z4 z5 y1 m1 r0 r1 r2 r3 r4 r5
          go_wp2_with fail
          refine bodyPost_ret (v := .tuple #[.agg #[.int .i64 dl.seq, .string ds, .string dd, .int .i64 dl.count, .int .i64 dl.nth, .int .i64 dl.left], .bool true]) (res_del2 6 7 Tryd.results19 _ _ rb rfl rfl HR6.out) rfl ?_
          rw [hHIT.out]
          exact ⟨by rw [HDL.out, HDV.out], HFI.out⟩
end
end Go.Proofs.YtapmhpnkpjgefaaDoor.Con
