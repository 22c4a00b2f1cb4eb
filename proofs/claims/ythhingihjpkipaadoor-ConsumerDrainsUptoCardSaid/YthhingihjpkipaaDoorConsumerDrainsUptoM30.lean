/- Parts of the proof, joined: The law ConsumerDrains, walked: it returns true.; The frame of a law's row, whatever its parameters: a call that returns true and turns nothing below the heap's old size meets the row's post; and what a reading of an argument tells of the argument's cells. Over any program.; What the cards of this seat share: a world whose tables are laid; the bound of a text; the length's cell. -/
import Derived.Test.YthhingihjpkipaaDoorConsumerDrainsUptoM29
import Derived.Test.YthhingihjpkipaaDoorRows
import Derived.Carry
import Derived.WideKeyArgs
import Derived.SizedLaws
import Derived.OpenShut
import Derived.Test.YthhingihjpkipaaDoorTie
import Derived.Test.YthhingihjpkipaaDoorCards
import Derived.Deep.DeepHandedRow
import Derived.Lib.LaidTab
namespace Go.Proofs.YthhingihjpkipaaDoor.Con
open Go.RowKit Heap
open Subj (Tok TakerP ML errT errT_facts Ints matchR isB)
open Sto (StoreAt Right seekR tk seqsV seqsV_len RecsAt Fits filled_any all_any row_recs sixC parts OutI info_int matchP match_all equal_ints runS want_step)
open Rec (Rc far)

theorem fldI1 : ∀ (w : World) (a b c d : Int), (Instr.field 53 (.agg #[.int .i64 a, .int .i64 b, .int .i64 c, .int .i64 d]) 1).run Tryd.prog w = .ok (.int .i64 b) w := fun _ _ _ _ _ => by kernel_rfl
theorem fldI3 : ∀ (w : World) (a b c d : Int), (Instr.field 53 (.agg #[.int .i64 a, .int .i64 b, .int .i64 c, .int .i64 d]) 3).run Tryd.prog w = .ok (.int .i64 d) w := fun _ _ _ _ _ => by kernel_rfl

section
variable {w : World}

set_option maxHeartbeats 8000000 in
set_option maxRecDepth 100000 in
theorem consumerDrains_walk (hm : ML w) (t : TakerP) {vb : Value} (hB : Ints w vb t.back) (hnm : t.name.length ≤ 1048576) (hfl : t.filt.length ≤ 1048576) {v : Value} {l : List Rc} (hl : RecsAt w v l) (hf : ∀ r ∈ l, Fits r) (now : Int) :
    Calls Tryd.prog 5 #[takerV t vb, v, .int .i64 now] w fun e w' => e = .returned (.bool true) ∧ Below w.heap.size w w' := by
  have hfar : far = 1099511627776 := rfl
  obtain ⟨n, hnL⟩ : ∃ n, l.length = n := ⟨_, rfl⟩
  have HN := Lib.hid hnL
  obtain ⟨ao, cap, rfl, ha⟩ := hl
  have HL := Lib.hid (show RecsAt w (.slice ao l.length cap) l from ⟨ao, cap, rfl, ha⟩); have HF := Lib.hid hf
  rw [hnL] at HL ⊢
  obtain ⟨nm, hnme⟩ : ∃ nm : ByteArray, (⟨t.name.toArray⟩ : ByteArray) = nm := ⟨_, rfl⟩
  obtain ⟨fl, hfle⟩ : ∃ fl : ByteArray, (⟨t.filt.toArray⟩ : ByteArray) = fl := ⟨_, rfl⟩
  have hfls : fl.size ≤ 1048576 := by rw [← hfle]; show t.filt.toArray.size ≤ _; simpa using hfl
  have hfl2 : fl.data.toList = t.filt := by rw [← hfle]
  unfold takerV
  rw [hnme, hfle]
  obtain ⟨avb, cvb, hvb, hcvb, hatb⟩ := hB
  have hB : Ints w vb t.back := ⟨avb, cvb, hvb, hcvb, hatb⟩
  subst hvb
  obtain ⟨w0, hw0⟩ : ∃ w0, w0 = w.alloc (.cells #[.string nm, .string fl, .int .i64 t.src, .int .i64 t.start, .int .i64 t.ack, .int .i64 t.wait, .slice avb t.back.length cvb, .int .i64 t.most, .int .i64 t.pend, .bool t.push] 36) := ⟨_, rfl⟩
  have hb0 : Below w.heap.size w w0 := by rw [hw0]; exact (Below.refl _ _).alloc (Nat.le_refl _) _
  have he0 : w0.heap[w.heap.size]? = some (.cells #[.string nm, .string fl, .int .i64 t.src, .int .i64 t.start, .int .i64 t.ack, .int .i64 t.wait, .slice avb t.back.length cvb, .int .i64 t.most, .int .i64 t.pend, .bool t.push] 36 (0, 0)) := by rw [hw0]; exact heap_alloc_new w _
  obtain ⟨bt, hbt⟩ : ∃ bt, w.heap.size = bt := ⟨_, rfl⟩
  rw [hbt] at he0
  have HB0 := Lib.hid hb0; have HE0 := Lib.hid he0; have HBT := Lib.hid hbt; have HNM := Lib.hid hnme; have HFL := Lib.hid hfle; have HF2 := Lib.hid hfl2
  have HML := Lib.hid (hm.below hb0); have HBK := Lib.hid (hB.below hb0); have HNMs := Lib.hid hnm; have HFLs := Lib.hid hfl
  clear ha hf hm hnL hnme hfle hB hcvb hatb hb0 he0 hbt hnm hfl hfl2
  go_enter Tryd.func5, Tryd.ntmps5
  go_upto_region 1 with fail
  rw [← hw0, HBT.out]
  clear hw0
  go_wp2_with fail
  refine (ready_any HML.out).mono ?_
  rintro e w1 ⟨rfl, hb1⟩
  have B1 := Lib.hid hb1
  clear hb1
  obtain ⟨Bd, hBd⟩ : ∃ Bd, decide (150 < n ∨ now < 0 ∨ far < now) = Bd := ⟨_, rfl⟩
  have HBd := Lib.hid hBd
  clear hBd
  go_upto_region 3 with fail
  go_cut [29] from 19 to 29 (fun s29 wx => s29 = .bool Bd ∧ w1 = wx)
  case first =>
    have hBd := HBd.out
    rcases (show 150 < n ∨ (¬ 150 < n ∧ now < 0) ∨ (¬ 150 < n ∧ ¬ now < 0 ∧ 1099511627776 < now) ∨ (¬ 150 < n ∧ ¬ now < 0 ∧ ¬ 1099511627776 < now) from by omega) with h1 | ⟨h1, h2⟩ | ⟨h1, h2, h3⟩ | ⟨h1, h2, h3⟩
    · obtain rfl : Bd = true := by rw [← hBd]; exact decide_eq_true (by omega)
      have h1z : (150 : Int) < n := by omega
      clear hBd
      go_wp2_with fail
      go_meet
      exact ⟨by simp, rfl⟩
    · obtain rfl : Bd = true := by rw [← hBd]; exact decide_eq_true (by omega)
      have h1z : ¬ (150 : Int) < n := by omega
      clear hBd
      go_wp2_with fail
      go_meet
      exact ⟨by simp, rfl⟩
    · obtain rfl : Bd = true := by rw [← hBd]; exact decide_eq_true (by omega)
      have h1z : ¬ (150 : Int) < n := by omega
      clear hBd
      go_wp2_with fail
      go_meet
      exact ⟨by simp, rfl⟩
    · obtain rfl : Bd = false := by rw [← hBd]; exact decide_eq_false (by omega)
      have h1z : ¬ (150 : Int) < n := by omega
      clear hBd
      go_wp2_with fail
      go_meet
      exact ⟨by simp, rfl⟩
  case rest =>
  obtain ⟨rfl, rfl⟩ := hcut
  cases Bd with
  | true =>
    have HFI := Lib.hid (HB0.out.trans (B1.out.mono HB0.out.size))
    go_wp2_with fail
    go_ret
    exact ⟨rfl, HFI.out⟩
  | false =>
  have hok := of_decide_eq_false HBd.out
  have hn150 : n ≤ 150 := by omega
  have hno : ¬ (now < 0 ∨ far < now) := by omega
  have HNO := Lib.hid hno
  clear hok hno HBd
  go_wp2_with fail
  have hfil := filled_any (W := w0) B1.out HML.out (by rw [← HN.out] at HL; exact HL.out.below (HB0.out.trans (B1.out.mono HB0.out.size)) (Nat.le_refl _)) (by rw [HN.out]; omega) HF.out
  rw [HN.out] at hfil
  refine hfil.mono ?_
  clear hfil
  rintro e w2 ⟨D, F, rfl, hS, hF, hb2⟩
  rw [HN.out] at hS
  obtain ⟨L, hLe⟩ : ∃ L, (runS l).1 = L := ⟨_, rfl⟩
  obtain ⟨last, hlast⟩ : ∃ last, (runS l).2 = last := ⟨_, rfl⟩
  rw [hLe, hlast] at hS
  have B2 := Lib.hid (B1.out.trans (hb2.mono B1.out.size))
  obtain ⟨I, hR⟩ := hS.right
  have HR := Lib.hid hR
  have HBF := Lib.hid hS.bF
  have hnew := new_c (t := t) hS HML.out (HBK.out.below B2.out) HNMs.out HFLs.out
  unfold takerV at hnew
  rw [HNM.out, HFL.out] at hnew
  obtain ⟨er, her⟩ : ∃ er, errT t = er := ⟨_, rfl⟩
  rw [her] at hnew
  have HER := Lib.hid her; have HNEW := Lib.hid hnew; have HS := Lib.hid hS
  have he2 := (B2.out.block bt (heap_lt HE0.out)).trans HE0.out
  obtain ⟨t0, t1, t2, t3, t4, t5, t6, t7, t8, t9, _⟩ := tenC he2
  clear hS hF hb2 hLe hlast hR hnew her he2 B1
  go_wp2_with fail
  refine HNEW.out.mono ?_
  intro e w3 hp3
  rcases hp3 with ⟨h0, rfl, hb3⟩ | ⟨rfl, K, vb3, rfl, hc3, hK3, hvb3, hb3⟩
  · have hz0 : ((er : Int) != 0) = true := by simpa using h0
    have HFI := Lib.hid (HB0.out.trans ((B2.out.trans (hb3.mono B2.out.size)).mono HB0.out.size))
    clear h0 hb3 HNEW t0 t1 t2 t3 t4 t5 t6 t7 t8 t9
    go_wp2_with fail
    go_ret
    exact ⟨by simp, HFI.out⟩
  · obtain ⟨p0, hp0⟩ : ∃ p0, startP t L last = p0 := ⟨_, rfl⟩
    obtain ⟨G, hG⟩ : ∃ G, L.filter (want t p0) = G := ⟨_, rfl⟩
    have hok0 := new_ok HER.out HR.out
    have hc0 : newP t L last = cQ p0 G 0 := by unfold newP cQ; rw [hp0]; rfl
    rw [hc0] at hc3 hok0
    have hpl : 1 ≤ p0 ∧ p0 ≤ far + 1 := hok0.place
    have hgs : ∀ r ∈ G, 1 ≤ r.seq ∧ r.seq ≤ far := fun r hr => by
      rw [← hG] at hr
      exact seq_pos HR.out r (List.mem_filter.1 hr).1
    have hg200 : G.length ≤ 200 := by rw [← hG]; exact Nat.le_trans (List.length_filter_le _ _) HR.out.few
    have hP3 : PairAt w0 F D (16 * n) L last K t vb3 (.slice none 0 0) (cQ p0 G 0) w3 := ⟨HS.out.next hb3, hc3, fun hk => by have := HBF.out K hk; omega, fun k hk => by simp [own, Value.ownBlock] at hk, fun k hk hF => by have := HBF.out k hF; have := hvb3 k hk; omega⟩
    have HIN := Lib.hid (info_c hP3.con hok0 (by omega))
    have HOKQ := Lib.hid (fun j => ok_q hpl hgs j)
    have HP3 := Lib.hid hP3; have HG := Lib.hid hG; have HGS := Lib.hid hgs
    unfold infoV at HIN
    rw [show (cQ p0 G 0).place = p0 from rfl] at HIN
    have hpp : p0 - 1 + 1 = p0 := by omega
    have hfd := fldI1
    clear hp0 hG hok0 hc0 hgs hP3 hc3 hK3 hvb3 hb3 HNEW HS t0 t1 t2 t3 t4 t5 t6 t7 t8 t9
    go_wp2_with fail
    refine HIN.out.mono ?_
    rintro e w4 ⟨rfl, hb4⟩
    have HD4 := Lib.hid (show ∃ v', DrAt w0 F D (16 * n) L last K t vb3 v' (cQ p0 G 0) (.slice none 0 0) (G.take 0) w4 from ⟨_, HP3.out.next hb4, Row.nil _ _ _, fun k hk => by simp [own, Value.ownBlock] at hk⟩)
    clear hb4 HIN HP3 B2
    go_upto_region 11 with fail
    clear hpp hfd
    go_wp2_with fail
    obtain ⟨i0, hi, hz0, hz1, hz2⟩ := info_parts info_int
    go_loopw [11, 46] (fun got i wr => ∃ j : Nat, j ≤ G.length ∧ i = .int .i64 j ∧ Hid (∃ v', DrAt w0 F D (16 * n) L last K t vb3 v' (cQ p0 G j) got (G.take j) wr)) (fun _ i _ => G.length - (intOf i).toNat)
    case atStart => exact ⟨0, Nat.zero_le _, rfl, HD4⟩
    case round =>
      obtain ⟨j, hj, rfl, HD⟩ := hrel
      clear HD4
      obtain ⟨v1, hd1⟩ := HD.out
      have hkl : (G.take j).length = j := by rw [List.length_take]; omega
      obtain ⟨ga, gc, hv⟩ := hd1.row.slice
      rw [hkl] at hv
      subst hv
      have hnx := next_c hd1.pair (HOKQ.out j) (by omega) HML.out HER.out now
      have hj2 : (j : Int) < 300 := by omega
      have HD1 := Lib.hid hd1
      by_cases hjl : j < G.length
      · obtain ⟨x, hx⟩ : ∃ x, G[j]? = some x := ⟨_, List.getElem?_eq_getElem hjl⟩
        obtain ⟨o1, o2, o3⟩ := next_hit HR.out.rise HG.out hx HNO.out
        obtain ⟨dl, hdl⟩ : ∃ dl, (nextP t L now (cQ p0 G j)).2.1 = dl := ⟨_, rfl⟩
        rw [hdl] at o2
        unfold NextPost at hnx
        rw [o1, o3, hdl] at hnx
        obtain ⟨s, hs⟩ : ∃ s : ByteArray, (⟨dl.subj.toArray⟩ : ByteArray) = s := ⟨_, rfl⟩
        obtain ⟨z, hz⟩ : ∃ s : ByteArray, (⟨dl.data.toArray⟩ : ByteArray) = s := ⟨_, rfl⟩
        have hdv : delV dl = .agg #[.int .i64 x.seq, .string s, .string z, .int .i64 dl.count, .int .i64 dl.nth, .int .i64 dl.left] := by unfold delV; rw [hs, hz, o2]
        rw [hdv] at hnx
        have HNX := Lib.hid hnx
        have hxs := HGS.out x (List.mem_of_getElem? hx)
        have htk := seqs_take hx
        have HX := Lib.hid hx; have HTK := Lib.hid htk
        clear hnx hdl o1 o2 o3 hs hz hdv hx htk hd1
        go_wp2_with fail
        refine HNX.out.mono ?_
        rintro e y ⟨rfl, hn⟩
        obtain ⟨v2, hd2⟩ := HD1.out.turn hn
        obtain ⟨x1, hx1⟩ : ∃ x1, x1 = y.alloc (.cells #[.int .i64 x.seq, .string s, .string z, .int .i64 dl.count, .int .i64 dl.nth, .int .i64 dl.left] 56) := ⟨_, rfl⟩
        have hbx1 : Below y.heap.size y x1 := by rw [hx1]; exact (Below.refl _ _).alloc (Nat.le_refl _) _
        have he1 : x1.heap[y.heap.size]? = some (.cells #[.int .i64 x.seq, .string s, .string z, .int .i64 dl.count, .int .i64 dl.nth, .int .i64 dl.left] 56 (0, 0)) := by rw [hx1]; exact heap_alloc_new y _
        obtain ⟨b, hbe⟩ : ∃ b, y.heap.size = b := ⟨_, rfl⟩
        rw [hbe] at he1
        have hd3 := hd2.next hbx1
        have hgb : ∀ k, own (.slice ga j gc) k → k < b := fun k hk => by rw [← hbe]; exact hd2.row.lt k hk
        have HD3 := Lib.hid hd3; have HE1 := Lib.hid he1; have HBE := Lib.hid hbe; have HGB := Lib.hid hgb
        have hKb : K < b := by rw [← hbe]; exact heap_lt hd2.pair.con.cell
        have hvb' : ¬ own v2 b := fun e => by have := hd2.pair.con.row.lt b e; omega
        have HKB := Lib.hid (show K < b ∧ ¬ own v2 b from ⟨hKb, hvb'⟩)
        clear hn hd2 hbx1 he1 hbe hd3 hgb hKb hvb' HNX
        go_upto_region 14 with fail
        rw [← hx1, HBE.out]
        clear hx1
        obtain ⟨q0, _, _, _, _, _⟩ := sixC HE1.out
        have hr1 : Row (x1.alloc (.cells #[.int .i64 x.seq] 3)) 3 1 (.slice ga j gc) j (seqsV (G.take j)) := by
          have := HD3.out.row
          rw [hkl] at this
          exact this.kept fun k _ hk => Below.heap_alloc _ _ _ hk
        have hnews : ∀ k u, ([.int .i64 x.seq] : List Value)[k]? = some u → (x1.alloc (.cells #[.int .i64 x.seq] 3)).cell? ((⟨x1.heap.size, 0, none⟩ : Addr).add k) = some u := fun k u hk => by
          rw [Addr.add_lit, cell_of_row _ x1.heap.size (0 + k) _ _ _ (heap_alloc_new x1 _), Nat.zero_add]
          rcases k with _ | k
          · simpa using hk
          · simp at hk
        have HRW := Lib.hid hr1; have HNW := Lib.hid hnews
        clear hr1 hnews
        go_wp2_with (at_builtin; refine Heap.wpList_append_row _ rfl (.tmp 57) (.tmp 60) 34 rfl 3 i0 _ 1 8 Tryd.underlying34 hi hz0 hz1 hz2 rfl (by decide) _ j _ rfl HRW.out ⟨x1.heap.size, 0, none⟩ 1 1 [.int .i64 x.seq] rfl rfl HNW.out (by simp [Value.oneCell']) (by unfold maxLen; omega) (by omega) ?_)
        intro got2 w7 r7 t7 o7
        have hba : Below x1.heap.size x1 (x1.alloc (.cells #[.int .i64 x.seq] 3)) := (Below.refl _ _).alloc (Nat.le_refl _) _
        have hjl1 : (G.take (j + 1)).length = j + 1 := by rw [List.length_take]; omega
        have hd7 := (HD3.out.next hba).more (G2 := G.take (j + 1)) (by rw [HTK.out, hjl1]; exact r7) t7 (fun k hk => (o7 k hk).imp id fun h => by simpa using h)
        have he7 := (t7.block b (Nat.lt_of_lt_of_le (heap_lt HE1.out) hba.size) (fun e => by have := HGB.out b e; omega)).trans ((hba.block b (heap_lt HE1.out)).trans HE1.out)
        have hw7 : Below w0.heap.size w0 w7 := hd7.pair.below
        have ht7 := (hw7.block bt (heap_lt HE0.out)).trans HE0.out
        have HD7 := Lib.hid hd7; have HE7 := Lib.hid he7; have HT7 := Lib.hid ht7
        clear r7 t7 o7 hba hd7 he7 hw7 ht7 q0 HRW HNW HD3 HE1
        obtain ⟨q0, _, _, _, _, _⟩ := sixC HE7.out
        obtain ⟨_, _, _, _, t4, _, _, _, _, _, _⟩ := tenC HT7.out
        by_cases hak : t.ack = 0
        · have HN1 := Lib.hid (none_hit (p0 := p0) (now := now) HX.out hak)
          rw [hak] at t4
          clear hak
          go_wp2_with fail
          exact ⟨⟨j + 1, by omega, by go_num, Lib.hid ⟨v2, by rw [← HN1.out]; exact HD7.out⟩⟩, by simp [intOf]; omega⟩
        · have hak0 : (t.ack != 0) = true := by simpa using hak
          have hokn : Ok (j + 1) (cN t p0 G now j x) := by
            obtain ⟨a1, _, _⟩ := next_hit HR.out.rise HG.out HX.out HNO.out
            rw [← a1]
            exact next_ok HER.out HR.out (HOKQ.out j)
          have han := answer_c HD7.out.pair.con hokn (by omega) HER.out now x.seq 1 0 (by omega)
          rw [answer_hit HX.out HNO.out hak] at han
          have HAN := Lib.hid han
          clear hak hokn han
          go_wp2_with fail
          refine HAN.out.mono ?_
          rintro e w8 ⟨rfl, hn8⟩
          obtain ⟨v4, hd8⟩ := HD7.out.turn hn8
          have HD8 := Lib.hid hd8
          clear hn8 hd8 HAN
          go_wp2_with fail
          exact ⟨⟨j + 1, by omega, by go_num, Lib.hid ⟨v4, HD8.out⟩⟩, by simp [intOf]; omega⟩
      · obtain rfl : j = G.length := by omega
        rw [next_end HR.out.rise HG.out HNO.out] at hnx
        unfold NextPost at hnx
        rw [show delV Dl.zero = .agg #[.int .i64 0, .string ⟨#[]⟩, .string ⟨#[]⟩, .int .i64 0, .int .i64 0, .int .i64 0] from rfl] at hnx
        have HNX := Lib.hid hnx
        have htg : G.take G.length = G := List.take_of_length_le (Nat.le_refl _)
        obtain ⟨gl, hgl⟩ : ∃ gl, G.length = gl := ⟨_, rfl⟩
        have HTG := Lib.hid htg; have HGL := Lib.hid hgl
        have hgle : gl ≤ 200 := by rw [← hgl]; exact hg200
        rw [hgl]
        clear hnx hd1 hkl hj hj2 hjl hg200 htg
        have hj2 : (gl : Int) < 300 := by omega
        go_wp2_with fail
        refine HNX.out.mono ?_
        rintro e y ⟨rfl, hn⟩
        obtain ⟨v2, hd2⟩ := HD1.out.turn hn
        rw [HTG.out] at hd2
        obtain ⟨x1, hx1⟩ : ∃ x1, x1 = y.alloc (.cells #[.int .i64 0, .string ⟨#[]⟩, .string ⟨#[]⟩, .int .i64 0, .int .i64 0, .int .i64 0] 56) := ⟨_, rfl⟩
        have hbx1 : Below y.heap.size y x1 := by rw [hx1]; exact (Below.refl _ _).alloc (Nat.le_refl _) _
        have hd3 := hd2.next hbx1
        have HD3 := Lib.hid hd3
        have HALL := Lib.hid (all_any hd3.pair.st)
        obtain ⟨m, hmL⟩ : ∃ m, L.length = m := ⟨_, rfl⟩
        have HM := Lib.hid hmL
        have hm200 : m ≤ 200 := by rw [← hmL]; exact HR.out.few
        clear hn hd2 hbx1 hd3 HNX HD1 HD hmL
        go_upto_region 14 with fail
        rw [← hx1]
        clear hx1
        go_wp2_with fail
        refine HALL.out.mono ?_
        rintro e w10 ⟨v10, rfl, hr10, hb10, ho10⟩
        have HR10 := Lib.hid (row_recs hr10)
        have HD10 := Lib.hid (HD3.out.next hb10)
        obtain ⟨a6, c6, hv6, _⟩ := HR10.out
        rw [HM.out] at hv6
        subst hv6
        clear hr10 hb10 ho10 HALL HD3
        go_wp2_with fail
        go_loopw [12, 78] (fun wv i wr => ∃ k : Nat, k ≤ m ∧ i = .int .i64 k ∧ Hid (OutI w10 wr wv ((L.take k).filter (want t p0))) ∧ Hid (Below w10.heap.size w10 wr)) (fun _ i _ => m - (intOf i).toNat)
        case atStart => exact ⟨0, Nat.zero_le _, rfl, Lib.hid ⟨Row.nil _ _ _, fun k hk => by simp [own, Value.ownBlock] at hk⟩, Lib.hid (Below.refl _ _)⟩
        case round =>
          obtain ⟨k, hk, rfl, HOw, HWw⟩ := hrel
          have hwr : Below w0.heap.size w0 wr := HD10.out.pair.below.trans (HWw.out.mono HD10.out.pair.below.size)
          by_cases hlt : k < m
          · have hltz : (k : Int) < m := by omega
            obtain ⟨p, hp⟩ : ∃ p, L[k]? = some p := ⟨_, List.getElem?_eq_getElem (by rw [HM.out]; exact hlt)⟩
            obtain ⟨a', c', hv, ha⟩ := HR10.out.below HWw.out (Nat.le_refl _)
            simp only [Value.slice.injEq] at hv
            obtain ⟨rfl, hv0, rfl⟩ := hv
            clear hv0
            obtain ⟨g, off, rfl, hcs⟩ := ha (fun e => by rw [e] at hp; simp at hp)
            obtain ⟨m0, m1, m2, m3, m4, m5⟩ := hcs k p hp
            obtain ⟨s, h, d, hpp⟩ := parts p
            rw [hpp.s1] at m3
            rw [hpp.h1] at m4
            rw [hpp.d1] at m5
            have hgp := HR.out.good p (List.mem_of_getElem? hp)
            have hpg := Sto.good_parts hgp.1 hgp.2
            obtain ⟨B, hB⟩ : ∃ B, want t p0 p = B := ⟨_, rfl⟩
            have hst := want_step hp B hB
            have hism : isB (matchR fl.data.toList s.data.toList) = tk t.filt p := by
              rw [HF2.out, hpp.s2]
              exact Sto.isB_eq (errT_facts HER.out).2.1 hpg.1
            have hKl : ((L.take k).filter (want t p0)).length ≤ 200 := Nat.le_trans (List.length_filter_le _ _) (by rw [List.length_take]; omega)
            obtain ⟨K2, hK2⟩ : ∃ K2, (L.take k).filter (want t p0) = K2 := ⟨_, rfl⟩
            rw [hK2] at hst hKl HOw
            obtain ⟨kd, hkd⟩ : ∃ kd, p.kind = kd := ⟨_, rfl⟩
            obtain ⟨sq, hsq⟩ : ∃ sq, p.seq = sq := ⟨_, rfl⟩
            obtain ⟨tm, htm⟩ : ∃ tm, p.time = tm := ⟨_, rfl⟩
            rw [hkd] at m0
            rw [hsq] at m1
            rw [htm] at m2
            have hwt : (decide (p0 ≤ sq) && tk t.filt p) = B := by rw [← hB, ← hsq]; rfl
            obtain ⟨wd, hwd⟩ : ∃ wd, wd = wr.alloc (.cells #[.int .i64 kd, .int .i64 sq, .int .i64 tm, .string s, .string h, .string d] 29) := ⟨_, rfl⟩
            have hba : Below wr.heap.size wr wd := by rw [hwd]; exact (Below.refl _ _).alloc (Nat.le_refl _) _
            have hea : wd.heap[wr.heap.size]? = some (.cells #[.int .i64 kd, .int .i64 sq, .int .i64 tm, .string s, .string h, .string d] 29 (0, 0)) := by rw [hwd]; exact heap_alloc_new wr _
            obtain ⟨bz, hbz⟩ : ∃ bz, wr.heap.size = bz := ⟨_, rfl⟩
            rw [hbz] at hea
            have hWd := HWw.out.trans (hba.mono HWw.out.size)
            have hbase : Below w0.heap.size w0 wd := hwr.trans (hba.mono hwr.size)
            have hIS := Subj.is_match fl s wd hfls (by rw [hpp.s3]; omega) (HML.out.below hbase)
            rw [hism] at hIS
            obtain ⟨tb, htb⟩ : ∃ tb, tk t.filt p = tb := ⟨_, rfl⟩
            rw [htb] at hIS hwt
            have HIS := Lib.hid hIS; have HSTEP := Lib.hid hst; have HEA := Lib.hid hea; have HBZ := Lib.hid hbz; have HWd := Lib.hid hWd
            have HOd := Lib.hid (show OutI w10 wd u12 K2 from ⟨HOw.out.1.kept fun k _ hk => hba.block k hk, HOw.out.2⟩)
            have HSQ := Lib.hid hsq; have HWT := Lib.hid hwt
            have htd := (hbase.block bt (heap_lt HE0.out)).trans HE0.out
            obtain ⟨_, t1, _, _, _, _, _, _, _, _, _⟩ := tenC htd
            obtain ⟨q0, q1, q2, q3, q4, q5⟩ := sixC hea
            have hbzl := heap_lt hea
            clear ha hcs hp hpp hpg hgp hB hst hism hK2 hkd hsq htm hba hea hbz hWd hbase hIS htb hwt htd HOw HWw hwr
            go_upto_region 22 with fail
            rw [← hwd, HBZ.out]
            clear hwd m0 m1 m2 m3 m4 m5
            go_cut [92] from 82 to 92 (fun s92 wx => s92 = .bool B ∧ Hid (Below wd.heap.size wd wx))
            case first =>
              by_cases hge : p0 ≤ sq
              · have d1 : decide (p0 ≤ sq) = true := decide_eq_true hge
                obtain rfl : tb = B := by rw [← HWT.out, d1, Bool.true_and]
                go_wp2_with fail
                refine HIS.out.mono ?_
                rintro e w11 ⟨rfl, hb11⟩
                have HB11 := Lib.hid hb11
                clear hb11
                go_wp2_with fail
                go_meet
                exact ⟨by simp, HB11⟩
              · have d1 : decide (p0 ≤ sq) = false := decide_eq_false hge
                obtain rfl : B = false := by rw [← HWT.out, d1, Bool.false_and]
                go_wp2_with fail
                go_meet
                exact ⟨by simp, Lib.hid (Below.refl _ _)⟩
            case rest =>
            obtain ⟨rfl, hcq⟩ := hcut
            have hb11 := hcq.out
            have hea11 := (hb11.block bz hbzl).trans HEA.out
            clear hcq q0 q1 q2 q3 q4 q5 t1
            obtain ⟨q0, q1, q2, q3, q4, q5⟩ := sixC hea11
            have hbzl11 := heap_lt hea11
            have HW11 := Lib.hid (HWd.out.trans (hb11.mono HWd.out.size))
            have HO11 := Lib.hid (show OutI w10 wc u12 K2 from ⟨HOd.out.1.kept fun k _ hk => hb11.block k hk, HOd.out.2⟩)
            clear hb11 hea11 HIS HOd HWd
            cases B with
            | false =>
              go_wp2_with fail
              exact ⟨⟨k + 1, by omega, by go_num, Lib.hid (by rw [HSTEP.out]; simpa using HO11.out), HW11⟩, by simp [intOf]; omega⟩
            | true =>
              have hr1 : Row (wc.alloc (.cells #[.int .i64 sq] 3)) 3 1 u12 K2.length (seqsV K2) := HO11.out.1.kept fun k _ hk => Below.heap_alloc _ _ _ hk
              have hnews : ∀ k u, ([.int .i64 sq] : List Value)[k]? = some u → (wc.alloc (.cells #[.int .i64 sq] 3)).cell? ((⟨wc.heap.size, 0, none⟩ : Addr).add k) = some u := fun k u hk => by
                rw [Addr.add_lit, cell_of_row _ wc.heap.size (0 + k) _ _ _ (heap_alloc_new wc _), Nat.zero_add]
                rcases k with _ | k
                · simpa using hk
                · simp at hk
              have HRW := Lib.hid hr1; have HNW := Lib.hid hnews
              clear hr1 hnews
              go_wp2_with (at_builtin; refine Heap.wpList_append_row _ rfl (.tmp 93) (.tmp 96) 34 rfl 3 i0 _ 1 8 Tryd.underlying34 hi hz0 hz1 hz2 rfl (by decide) _ K2.length _ rfl HRW.out ⟨wc.heap.size, 0, none⟩ 1 1 [.int .i64 sq] rfl rfl HNW.out (by simp [Value.oneCell']) (by unfold maxLen; omega) (by omega) ?_)
              intro v2 w12 r12 t12 o12
              have HF2 := Lib.hid (show Below w10.heap.size w10 w12 ∧ OutI w10 w12 v2 (K2 ++ [p]) from by
                have hb3 : Below w10.heap.size w10 (wc.alloc (.cells #[.int .i64 sq] 3)) := HW11.out.alloc HW11.out.size _
                refine ⟨hb3.trans (t12.below hb3.size fun k hk => HO11.out.2 k hk), ?_, fun k hk => ?_⟩
                · rw [List.length_append, show seqsV (K2 ++ [p]) = seqsV K2 ++ [.int .i64 sq] from by rw [← HSQ.out]; simp [seqsV]]; exact r12
                · rcases o12 k hk with h | h
                  · exact HO11.out.2 k h
                  · have h9 := HW11.out.size; omega)
              clear r12 t12 o12 HRW HNW HO11 HW11 q0 q1 q2 q3 q4 q5
              go_wp2_with fail
              exact ⟨⟨k + 1, by omega, by go_num, Lib.hid (by rw [HSTEP.out]; exact HF2.out.2), Lib.hid HF2.out.1⟩, by simp [intOf]; omega⟩
          · have hltz : ¬ (k : Int) < m := by omega
            obtain rfl : k = m := by omega
            have hWK : OutI w10 wr u12 G := by
              have h5 := HOw.out
              rw [List.take_of_length_le (by rw [HM.out]; exact Nat.le_refl _), HG.out] at h5
              exact h5
            obtain ⟨ua, uc, hu⟩ := hWK.1.slice
            rw [HGL.out] at hu
            subst hu
            have hdr := HD10.out.next HWw.out
            have hr1 := hdr.row
            have HDR := Lib.hid hdr
            have HEQ := Lib.hid (equal_ints hr1 hWK.1 (by rw [HGL.out]; omega))
            rw [HGL.out] at HEQ
            have hfd := fldI3
            clear hWK hdr hr1 HOw
            go_wp2_with fail
            refine HEQ.out.mono ?_
            rintro e w14 ⟨rfl, qq, rfl⟩
            have hdq := HDR.out.next (below_drewN (Below.refl _ _) qq)
            have hin := info_c hdq.pair.con (HOKQ.out G.length) (by rw [HGL.out]; omega)
            unfold infoV at hin
            rw [show (((cQ p0 G G.length).l.length : Nat) : Int) = 0 from rfl] at hin
            generalize floorP (cQ p0 G G.length) = z0 at hin
            generalize (cQ p0 G G.length).place - 1 = z1 at hin
            generalize (cQ p0 G G.length).count = z2 at hin
            have HIN := Lib.hid hin
            have HBQ := Lib.hid hdq.pair.below
            clear hdq hin HEQ
            go_wp2_with fail
            refine HIN.out.mono ?_
            rintro e w15 ⟨rfl, hb15⟩
            have HFI := Lib.hid (HB0.out.trans ((HBQ.out.trans (hb15.mono HBQ.out.size)).mono HB0.out.size))
            clear hb15 HIN
            go_wp2_with fail
            go_ret
            exact ⟨by simp, HFI.out⟩
end
end Go.Proofs.YthhingihjpkipaaDoor.Con

namespace Go.Proofs.YthhingihjpkipaaDoor
open Go.RowKit

section
open Go.WideShapes Go.ChangeShapes
variable {H : Type} {enc : TypeId × Value → H} {P : Program}

theorem trodAll_stays (hl : laidOutB P = true) {W W' : World} (hb : Below W.heap.size W W') {sp : Nat → Bool} :
    ∀ (ts : List TypeId) (vs : List Value) (ds : List (DataW H)) (ps : List MemPlace), (∀ t ∈ ts, P.readableRec t = true ∧ t < P.types.size) →
      DataW.TrodAll enc P W 0 (fun _ => true) true ts vs ds ps → (∀ x ∈ ps, x.block < W.heap.size) → (∀ x ∈ ps, sp x.block = true) →
      DataW.TrodAll enc P W' 0 sp true ts vs ds ps
  | [], [], [], _, _, h, _, _ => h
  | t :: ts, v :: vs, d :: ds, ps, hr, h, hlt, hsp => by
    obtain ⟨p, q, h1, h2, rfl⟩ := h
    obtain ⟨r1, r2⟩ := hr t (by simp)
    refine ⟨p, q, WideElems.Trod_stays hl r1 r2 h1 (fun x hx => hb.same (hlt x (by simp [hx]))) (fun x hx => hsp x (by simp [hx])), ?_, rfl⟩
    exact trodAll_stays hl hb ts vs ds q (fun t ht => hr t (by simp [ht])) h2 (fun x hx => hlt x (by simp [hx])) (fun x hx => hsp x (by simp [hx]))
  | [], [], _ :: _, _, _, h, _, _ => by cases h
  | [], _ :: _, _, _, _, h, _, _ => by cases h
  | _ :: _, [], _, _, _, h, _, _ => by cases h
  | _ :: _, _ :: _, [], _, _, h, _, _ => by cases h

/-- The law's post: it returned true, its arguments read as they did. -/
theorem post_true {f : Func} {s : ChangeSpec} {apart fresh handsOn again : Bool} {W W' : World} {args : Array Value} {ds gs : List (DataW H)} {before : List MemPlace} {tb : TypeId}
    (hl : laidOutB P = true) (hr : ∀ t ∈ f.params.toList, P.readableRec t = true ∧ t < P.types.size)
    (hres : f.resultTypes = #[tb]) (htb : P.underlying tb = some .bool) (hvars : s.vars = [])
    (hW : DataW.Whole enc P f.params.toList s.vars apart W args.toList ds gs before)
    (hs1 : (s.fn H (ds ++ gs)).results = [.lit (.bool true)]) (hs2 : (s.fn H (ds ++ gs)).args = ds) (hs3 : (s.fn H (ds ++ gs)).vars = [])
    (hb : Below W.heap.size W W') : s.post enc P f apart fresh handsOn again W args (.bool true) W' := by
  have hW0 := hW
  obtain ⟨p, q, hA, hV, rfl, hz, hn⟩ := hW
  rw [hvars] at hV
  obtain ⟨rfl, rfl⟩ := trodVars_none hV
  have hlt : ∀ x ∈ p, x.block < W.heap.size := fun x hx => hW0.lt x (by simp [hx])
  refine post_of_below (pa := p) (pv := []) hW0 (fun _ _ _ => ?_) (fun sp hsp => ?_) (fun _ _ => ?_) rfl hb ?_
  · rw [hs1, hres]
    exact trodAll_cons_mk (shut_bool htb _) trodAll_mk0
  · rw [hs2]
    exact trodAll_stays hl hb _ _ _ _ hr hA hlt (fun x hx => hsp x (by simp [hx]))
  · rw [hs3, hvars]; rfl
  · intro j t r h1 h2
    rw [hres] at h1 h2
    have hj : j = 0 := by
      have := (Array.getElem?_eq_some_iff.1 h1).1
      simpa using this
    subst hj
    simp at h1
    subst h1
    simp [Value.resultList] at h2
    subst h2
    exact okWide_bool_mk htb _
end

/-! ### What a reading tells -/
section
open Go.WideShapes Go.ChangeShapes
variable {H : Type} {enc : TypeId × Value → H} {P : Program} {w : World} {base : Nat} {spare : Nat → Bool} {held : Bool}

theorem rd_int {t : TypeId} {k : IntKind} {fuel : Nat} {cs : List Value} {y : DataW H × List MemPlace} (ht : P.underlying t = some (.int k)) (h : DataW.trod enc P w base spare held fuel t cs = some y) :
    ∃ n, cs = [.int k n] ∧ (Lit.int k n).wf = true := by
  cases fuel with
  | zero => simp [DataW.trod] at h
  | succ n =>
    unfold DataW.trod at h
    rw [ht] at h
    split at h <;> simp_all

theorem rd_string {t : TypeId} {fuel : Nat} {cs : List Value} {y : DataW H × List MemPlace} (ht : P.underlying t = some .string) (h : DataW.trod enc P w base spare held fuel t cs = some y) :
    ∃ s, cs = [.string s] ∧ s.size ≤ maxLen ∧ y.1 = .lit (.string s.data.toList) := by
  cases fuel with
  | zero => simp [DataW.trod] at h
  | succ n =>
    unfold DataW.trod at h
    rw [ht] at h
    split at h <;> simp_all
    obtain ⟨_, rfl⟩ := h
    simp

theorem rd_bool {t : TypeId} {fuel : Nat} {cs : List Value} {y : DataW H × List MemPlace} (ht : P.underlying t = some .bool) (h : DataW.trod enc P w base spare held fuel t cs = some y) :
    ∃ b, cs = [.bool b] := by
  cases fuel with
  | zero => simp [DataW.trod] at h
  | succ n =>
    unfold DataW.trod at h
    rw [ht] at h
    split at h <;> simp_all

/-- A struct, field by field. -/
theorem rd_struct {t : TypeId} {fs : Array Field} {fuel : Nat} {cs : List Value} {y : DataW H × List MemPlace} (ht : P.underlying t = some (.struct fs)) (h : DataW.trod enc P w base spare held fuel t cs = some y) :
    ∃ n, cs.length = P.cellsOf t ∧ ∃ xs : List (DataW H × List MemPlace), y.1 = .agg (xs.map (·.1)) ∧ fs.toList.mapM (fun f => DataW.trod enc P w base spare held n f.type ((cs.drop f.offset).take (P.cellsOf f.type))) = some xs := by
  cases fuel with
  | zero => simp [DataW.trod] at h
  | succ n =>
    unfold DataW.trod at h
    rw [ht] at h
    split at h <;> simp_all
    obtain ⟨xs, h1, h2⟩ := h.2
    exact ⟨n, xs, by rw [← h2], h1⟩

theorem mapM_get {α β : Type} {f : α → Option β} : ∀ {l : List α} {ys : List β}, l.mapM f = some ys → ys.length = l.length ∧ ∀ (i : Nat) (a : α), l[i]? = some a → ∃ y, ys[i]? = some y ∧ f a = some y
  | [], ys, h => by
    simp at h; subst h; simp
  | a :: l, ys, h => by
    rw [List.mapM_cons] at h
    cases ha : f a with
    | none => rw [ha] at h; cases h
    | some b =>
      rw [ha] at h
      cases hl : l.mapM f with
      | none => rw [hl] at h; cases h
      | some bs =>
        rw [hl] at h
        have e : b :: bs = ys := by simpa using h
        subst e
        obtain ⟨h1, h2⟩ := mapM_get hl
        refine ⟨by simp [h1], fun i x hx => ?_⟩
        cases i with
        | zero => simp at hx; subst hx; exact ⟨b, rfl, ha⟩
        | succ i => exact h2 i x (by simpa using hx)

/-- A slice: nil, or its elements up to the capacity. -/
theorem rd_slice {t e : TypeId} {fuel : Nat} {cs : List Value} {y : DataW H × List MemPlace} (ht : P.underlying t = some (.slice e)) (h : DataW.trod enc P w base (fun _ => true) held fuel t cs = some y) :
    (cs = [.slice none 0 0] ∧ y.1 = .nil) ∨ ∃ a len cap n, cs = [.slice (some a) len cap] ∧ len ≤ cap ∧ cap ≤ maxLen ∧ ∃ elems rest : List (DataW H × List MemPlace), y.1 = .slice (elems.map (·.1)) (rest.map (·.1)) ∧ elems.length = len ∧ rest.length = cap - len ∧
      (∀ i, i < len → ∃ z, elems[i]? = some z ∧ (w.cells? base (a.add (i * P.cellsOf e)) (P.cellsOf e)).bind (DataW.trod enc P w base (fun _ => true) held n e) = some z) ∧
      (∀ i, i < cap - len → ∃ z, rest[i]? = some z ∧ (w.cells? base (a.add ((len + i) * P.cellsOf e)) (P.cellsOf e)).bind (DataW.trod enc P w base (fun _ => true) held n e) = some z) := by
  cases fuel with
  | zero => simp [DataW.trod] at h
  | succ n =>
    unfold DataW.trod at h
    rw [ht] at h
    split at h <;> first | (exfalso; simp_all; done) | simp_all
    · rw [← h]
    · obtain ⟨⟨hb, hlc, hcm⟩, hh⟩ := h
      rw [Option.bind_eq_some_iff] at hh
      obtain ⟨elems, he, hr'⟩ := hh
      rw [Option.map_eq_some_iff] at hr'
      obtain ⟨rest, hr, hy⟩ := hr'
      obtain ⟨l1, g1⟩ := mapM_get he
      obtain ⟨l2, g2⟩ := mapM_get hr
      refine ⟨_, _, _, ⟨rfl, rfl, rfl⟩, hlc, hcm, n, elems, rest, by rw [← hy], by simpa using l1, by simpa using l2, fun i hi => ?_, fun i hi => ?_⟩
      · obtain ⟨y, h1, h2⟩ := g1 i i (by simp [hi])
        exact ⟨y.1, y.2, h1, h2⟩
      · obtain ⟨y, h1, h2⟩ := g2 i i (by simp [hi])
        exact ⟨y.1, y.2, h1, h2⟩
end

end Go.Proofs.YthhingihjpkipaaDoor

namespace Go.Proofs.YthhingihjpkipaaDoor
open Go.ChangeShapes Go.WideShapes Go.ChangeAt Go.RowKit

def laidList : List (String × DataW Unit) := [("unicode/utf8.acceptRanges", Rows.laid_unicode_utf8_acceptRanges), ("unicode/utf8.first", Rows.laid_unicode_utf8_first)]

def acceptZ : List Nat := [128, 191, 160, 191, 128, 159, 144, 191, 128, 143] ++ List.replicate 22 0

/-- A world for the witness: the settled one, the tables holding what their initialisers lay. -/
noncomputable def laidWorld (os : Os) : World :=
  { World.holding Tryd.prog os ⟨#[], #[], []⟩ with heap := (((World.holding Tryd.prog os ⟨#[], #[], []⟩).heap.modify 1 (fun
      | .cells _ t frozen => .cells (Go.Pinned.utf8FirstZ.map fun (z : Nat) => Value.int .u8 z).toArray t frozen
      | o => o)).modify 2 (fun
      | .cells _ t frozen => .cells (acceptZ.map fun (z : Nat) => Value.int .u8 z).toArray t frozen
      | o => o)) }

set_option maxRecDepth 100000 in
theorem laid_met (os : Os) (args : Array Value) : laidMet Tryd.prog laidList ((laidWorld os).forCall (fun _ _ => 0) ⟨#[], args, []⟩).memory :=
  laidMet_of_run' 8 (by kernel_rfl) (by kernel_rfl)

theorem ml_shaped {W : World} (h : W.ShapedOpen Tryd.prog) : Subj.ML W := Tryd.laysM146.s1_3 W h

/-- A part's bulk is at most the whole's. -/
theorem bulk_part {H : Type} {d : DataW H} : ∀ {l : List (DataW H)}, d ∈ l → Rows.uptoBulk d ≤ Rows.uptoBulkAll l
  | [], h => by cases h
  | x :: r, h => by
    simp only [Rows.uptoBulkAll]
    cases List.mem_cons.1 h with
    | inl e => subst e; omega
    | inr e => have := bulk_part e; omega

theorem bulk_bound {H : Type} {l : List (DataW H)} (hk : Rows.uptoSmall H l = true) : Rows.uptoBulkAll l ≤ 1048576 := of_decide_eq_true hk

/-- A text that is a part of what came in: at most so long. -/
theorem text_bound {H : Type} {l : List (DataW H)} {s : ByteArray} (hk : Rows.uptoSmall H l = true) (h : DataW.lit (.string s.data.toList) ∈ l) : s.size ≤ 1048576 := by
  have h1 := bulk_bound hk
  have h2 := bulk_part h
  have h3 : Rows.uptoBulk (DataW.lit (H := H) (.string s.data.toList)) = s.size + 1 := by simp only [Rows.uptoBulk, Array.length_toList]; rfl
  omega

end Go.Proofs.YthhingihjpkipaaDoor
