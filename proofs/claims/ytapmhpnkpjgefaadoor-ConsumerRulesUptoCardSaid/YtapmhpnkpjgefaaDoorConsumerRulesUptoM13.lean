/- Parts of the proof, joined: (*Index).Put, walked. -/
import Derived.Test.YtapmhpnkpjgefaaDoorConsumerRulesUptoM11
namespace Go.Proofs.YtapmhpnkpjgefaaDoor.Idx
open Go.RowKit Heap
open Subj (Tok ML pieces StrsAt strAt)

/-- What 'Put' does. -/
def PutPost (W : World) (M : Nat → Prop) (x N : Nat) (H : Hp) (cnt : Nat) (er : Nat) (ts : List Subj.Tok) (v : Int) (w : World) (e : Ending) (w' : World) : Prop :=
  ∃ (H' : Hp) (cnt' r : Nat), e = .returned (.int .i64 r) ∧ Next W M x (N + 8) cnt' w H' w' ∧
    ((er ≠ 0 ∧ r = er ∧ cnt' = cnt ∧ SameDen H H' x) ∨
     (er = 0 ∧ (∀ m, ¬ Den H x ts m) ∧ cnt = 100 ∧ r = 8 ∧ cnt' = cnt ∧ SameDen H H' x) ∨
     (er = 0 ∧ ((∃ m, Den H x ts m) ∧ cnt' = cnt ∨ (∀ m, ¬ Den H x ts m) ∧ cnt ≠ 100 ∧ cnt' = cnt + 1) ∧ r = 0 ∧ ∀ us m, Den H' x us m ↔ (us = ts ∧ m = v) ∨ (us ≠ ts ∧ Den H x us m)))

/-- A round of the loop begins. -/
structure PSt (W : World) (M : Nat → Prop) (x N : Nat) (H : Hp) (cnt : Nat) (l : List Subj.Tok) (k c : Nat) (w wr : World) : Prop where
  ex : ∃ H' M' vf', Next W M x (N + k) cnt w H' wr ∧ IdxAt W M' x H' vf' cnt wr ∧ (∀ j, M' j → M j ∨ w.heap.size ≤ j) ∧ Go H' x (l.take k) c ∧ (∃ nd, H' c = some nd) ∧ SameDen H H' x

section
variable {W w : World} {M : Nat → Prop} {x : Nat} {H : Hp} {vf : Nat → Value} {cnt N : Nat}

theorem Next.mono {H' : Hp} {w' : World} {N2 : Nat} (h : Next W M x N cnt w H' w') (hN : N ≤ N2) : Next W M x N2 cnt w H' w' := { h with good := h.good.mono hN }

theorem touch_strs {l : List Subj.Tok} {g : Nat} {w' : World} (h : StrsAt w g 0 l) (ht : Heap.Touch M w w') (hg : ¬ M g) : StrsAt w' g 0 l := fun i hi => by
  have h1 := h i hi
  have hlt := World.block_lt_of_cell? w _ h1
  rw [ht.cell (p := ⟨g, 0 + i, none⟩) hlt hg]; exact h1

set_option maxHeartbeats 4000000 in
set_option maxRecDepth 100000 in
theorem put_any (hG : Good N H x) (hM : IdxAt W M x H vf cnt w) (hN : N ≤ 90000) (hm : ML W) (s : ByteArray) (hs : s.size ≤ 1048576) (v : Int) (hc : cnt ≤ 100) :
    Calls Tryd.prog 50 #[ptrV x, .string s, .int .i64 v] w (PutPost W M x N H cnt (Subj.err false s.data.toList) (pieces s.data.toList) v w) := by
  have hmw := hm.below hM.below
  have HSU := Lib.hid (Subj.subject_any s w hs hmw)
  have hfind := fun w1 (hb : Below w.heap.size w w1) => find_any hG (hM.next hb) (by omega) (hm.below (hM.next hb).below) s hs
  obtain ⟨er, her⟩ : ∃ er, Subj.err false s.data.toList = er := ⟨_, rfl⟩
  rw [her] at HSU ⊢
  have hprop := err_toks (l := s.data.toList)
  rw [her] at hprop
  have hspl := fun w1 hm1 => split_dot s w1 hs hm1
  have hpl := Subj.pieces_size s hs
  clear her hmw
  generalize pieces s.data.toList = l at *
  obtain ⟨n, hn⟩ : ∃ n, l.length = n := ⟨_, rfl⟩
  rw [hn] at hspl hpl hprop
  obtain ⟨rd, hrd, hrp⟩ := hG.root
  have HL := Lib.hid hn; have HG := Lib.hid hG; have HM := Lib.hid hM; have HML := Lib.hid hm; have HRD := Lib.hid hrd; have HFI := Lib.hid hfind; have HSP := Lib.hid hspl; have HPR := Lib.hid hprop
  have hxlt := hM.lt hrd
  clear hn hG hM hm hrd hrp hfind hspl hprop hs
  go_enter Tryd.func50, Tryd.ntmps50
  go_wp2_with fail
  refine HSU.out.mono ?_
  rintro e w1 ⟨rfl, hb1⟩
  have HB1 := Lib.hid hb1
  clear hb1 HSU
  by_cases he : er = 0
  · have HP := Lib.hid (HPR.out he)
    subst he
    clear HPR
    go_wp2_with fail
    refine (HFI.out w1 HB1.out).mono ?_
    rintro e w2 ⟨hfd, hb2⟩
    have HB2 := Lib.hid (HB1.out.trans (hb2.mono HB1.out.size))
    have HM2 := Lib.hid (HM.out.next HB2.out)
    clear hb2 HFI HB1
    -- what is there
    have hroot := root_of (HM2.out.node x rd HRD.out)
    obtain ⟨r0, r1, r2, r3, rf⟩ := node_of (HM2.out.node x rd HRD.out)
    have hx2 := HM2.out.lt HRD.out
    clear r0 r1 r2 r3
    obtain ⟨cnt', hcnt'⟩ : ∃ cnt' : Nat, ((∃ m, Den H x l m) ∧ cnt' = cnt ∨ (∀ m, ¬ Den H x l m) ∧ cnt' = cnt + 1) := by
      by_cases hex : ∃ m, Den H x l m
      · exact ⟨cnt, .inl ⟨hex, rfl⟩⟩
      · exact ⟨cnt + 1, .inr ⟨fun m h => hex ⟨m, h⟩, rfl⟩⟩
    -- the case in which it is full ends here
    by_cases hfull : (∀ m, ¬ Den H x l m) ∧ cnt = 100
    · obtain ⟨hno, rfl⟩ := hfull
      have HF := Lib.hid (show PutPost W M x N H 100 0 l v w (.returned (.int .i64 8)) w2 from ⟨H, 100, 8, rfl, (Next.mono ((Next.refl HG.out HM.out).below' HB2.out) (by omega)), .inr (.inl ⟨rfl, hno, rfl, rfl, rfl, fun _ _ => Iff.rfl⟩)⟩)
      clear hcnt'
      rcases hfd with ⟨c, nd, rfl, hgo, hnd⟩ | ⟨rfl, hnone⟩
      · have hh : nd.has = false := by
          cases h : nd.has with
          | false => rfl
          | true => exact absurd ⟨c, nd, hgo, hnd, h, rfl⟩ (hno nd.n)
        obtain ⟨c0, c1, c2, c3, cf⟩ := node_of (HM2.out.node c nd hnd)
        rw [hh] at c2
        have hclt := HM2.out.lt hnd
        clear hgo hnd hno c0 c1 c3
        go_wp2_with fail
        go_ret
        exact HF.out
      · clear hno hnone
        go_wp2_with fail
        go_ret
        exact HF.out
    · have hne : (∀ m, ¬ Den H x l m) → cnt ≠ 100 := fun h e => hfull ⟨h, e⟩
      clear hfull
      have HCN := Lib.hid hcnt'; have HNE := Lib.hid hne
      clear hcnt' hne
      have hstay : (∃ m, Den H x l m) → cnt' = cnt := fun h => by
        rcases HCN.out with h1 | h1
        · exact h1.2
        · exact absurd h.choose_spec (h1.1 _)
      have hmore : (∀ m, ¬ Den H x l m) → cnt' = cnt + 1 := fun h => by
        rcases HCN.out with h1 | h1
        · exact absurd h1.1.choose_spec (h _)
        · exact h1.2
      have HST := Lib.hid hstay; have HMO := Lib.hid hmore
      clear hstay hmore
      obtain ⟨vn, rfl, HV⟩ : ∃ vn, e = .returned vn ∧ Hid ((∃ c nd, vn = .pointer (some ⟨c, 0, none⟩) ∧ Go H x l c ∧ H c = some nd) ∨ (vn = .pointer none ∧ ∀ c, ¬ Go H x l c)) := by
        rcases hfd with ⟨c, nd, rfl, h1, h2⟩ | ⟨rfl, h1⟩
        · exact ⟨_, rfl, Lib.hid (.inl ⟨c, nd, rfl, h1, h2⟩)⟩
        · exact ⟨_, rfl, Lib.hid (.inr ⟨rfl, h1⟩)⟩
      clear hfd
      obtain ⟨B, HBB⟩ : ∃ B : Bool, Hid ((B = true → ∀ m, ¬ Den H x l m) ∧ (B = false → ∃ m, Den H x l m)) := by
        by_cases hex : ∃ m, Den H x l m
        · exact ⟨false, Lib.hid ⟨fun h => (by cases h), fun _ => hex⟩⟩
        · exact ⟨true, Lib.hid ⟨fun _ m h => hex ⟨m, h⟩, fun h => (by cases h)⟩⟩
      go_upto_region 5 with fail
      go_cut [30] from 22 to 30 (fun s30 wx => s30 = .bool B ∧ w2 = wx)
      case first =>
        rcases HV.out with ⟨c, nd, rfl, hgo, hnd⟩ | ⟨rfl, hnone⟩
        · obtain ⟨c0, c1, c2, c3, cf⟩ := node_of (HM2.out.node c nd hnd)
          have hclt := HM2.out.lt hnd
          have hB : B = !nd.has := by
            cases h : nd.has with
            | true =>
              cases hb : B with
              | false => rfl
              | true => exact absurd ⟨c, nd, hgo, hnd, h, rfl⟩ (HBB.out.1 hb nd.n)
            | false =>
              cases hb : B with
              | true => rfl
              | false =>
                obtain ⟨m, c', nd', g', e', h', _⟩ := HBB.out.2 hb
                have := HG.out.go_det hgo g'
                subst this
                rw [hnd] at e'; cases e'
                rw [h] at h'; cases h'
          subst hB
          clear hgo hnd c0 c1 c3 HV
          go_wp2_with fail
          go_meet
          exact ⟨rfl, rfl⟩
        · have hB : B = true := by
            cases hb : B with
            | true => rfl
            | false =>
              obtain ⟨m, c', nd', g', _⟩ := HBB.out.2 hb
              exact absurd g' (hnone c')
          subst hB
          clear hnone HV
          go_wp2_with fail
          go_meet
          exact ⟨rfl, rfl⟩
      case rest =>
      obtain ⟨rfl, rfl⟩ := hcut
      clear HV
      go_upto_if 30 with fail
      go_cut [] from 31 to 42 (fun wx => Hid (IdxAt W M x H vf cnt' wx ∧ Heap.Touch M w2 wx))
      case first =>
        cases B with
        | true =>
          have hno := HBB.out.1 rfl
          have hcc : cnt ≠ 100 := HNE.out hno
          have hc1 : cnt' = cnt + 1 := HMO.out hno
          have hbq : ((cnt : Int) == 100) = false := by
            have : ¬ (cnt : Int) = 100 := by omega
            simpa using this
          have hwr : IntKind.i64.wrap ((cnt : Int) + 1) = (cnt : Int) + 1 := IntWalk.i64_in _ (by omega)
          have hend := HM2.out.count HRD.out (cnt + 1)
          rw [show ((cnt + 1 : Nat) : Int) = (cnt : Int) + 1 by omega] at hend
          have HE := Lib.hid (show IdxAt W M x H vf cnt' (w2.setCell ⟨x, 4, none⟩ (.int .i64 ((cnt : Int) + 1))) ∧ Heap.Touch M w2 (w2.setCell ⟨x, 4, none⟩ (.int .i64 ((cnt : Int) + 1))) from ⟨hc1 ▸ hend.1, hend.2⟩)
          clear hno hcc hc1 hend
          go_wp2_with fail
          go_meet
          exact HE
        | false =>
          have hc1 : cnt' = cnt := HST.out (HBB.out.2 rfl)
          have HE := Lib.hid (show IdxAt W M x H vf cnt' w2 ∧ Heap.Touch M w2 w2 from ⟨hc1 ▸ HM2.out, Heap.Touch.refl _ _⟩)
          clear hc1
          go_wp2_with fail
          go_meet
          exact HE
      case rest =>
      clear hroot rf hx2 HM2 HST HMO HBB
      have hMc := hcut.out.1
      have hxc := hMc.lt HRD.out
      have HNX := Lib.hid (show Next W M x N cnt' w H wc from ⟨HG.out, ⟨M, vf, hMc, fun _ h => .inl h⟩, (Heap.Touch.ofBelow HB2.out).trans hcut.out.2 fun _ _ h => h⟩)
      have HSP2 := Lib.hid (HSP.out wc (HML.out.below hMc.below))
      have HMC := Lib.hid hMc
      clear hMc HSP hcut
      go_wp2_with fail
      refine HSP2.out.mono ?_
      rintro e w3 ⟨rfl, hst, hb3⟩
      have HST := Lib.hid hst; have HB3 := Lib.hid hb3
      clear hst hb3 HSP2
      obtain ⟨g, hgg⟩ : ∃ g, wc.heap.size = g := ⟨_, rfl⟩
      rw [hgg] at HST ⊢
      have HGN := Lib.hid (show ¬ M g from fun h => by have := HMC.out.bM g h; omega)
      clear hgg
      have HN3 := Lib.hid (HNX.out.below' HB3.out)
      have HM3 := Lib.hid (HMC.out.next HB3.out)
      go_wp2_with fail
      go_loopw [9, 49] (fun a i wr => ∃ (k c : Nat), k ≤ n ∧ i = .int .i64 k ∧ a = .pointer (some ⟨c, 0, none⟩) ∧ Hid (PSt W M x N H cnt' l k c w3 wr)) (fun _ i _ => n - (intOf i).toNat)
      case atStart => exact ⟨0, x, Nat.zero_le _, rfl, rfl, Lib.hid ⟨H, M, vf, ⟨HG.out, ⟨M, vf, HM3.out, fun _ h => .inl h⟩, Heap.Touch.refl _ _⟩, HM3.out, fun _ h => .inl h, .nil x, ⟨rd, HRD.out⟩, fun _ _ => Iff.rfl⟩⟩
      case round =>
        obtain ⟨k, c, hk, rfl, rfl, HPS⟩ := hrel
        obtain ⟨H1, M1, vf1, hnx, hm1, hsub, hgo, ⟨nd, hnd⟩, hsd⟩ := HPS.out.ex
        have HNX1 := Lib.hid hnx; have HM1 := Lib.hid hm1; have HSB := Lib.hid hsub; have HGO := Lib.hid hgo; have HND := Lib.hid hnd; have HSD := Lib.hid hsd
        clear hnx hm1 hsub hgo hnd hsd HPS
        by_cases hlt : k < n
        · have hltz : (k : Int) < n := by omega
          have hlt' : k < l.length := by rw [HL.out]; exact hlt
          have hstr := touch_strs HST.out HNX1.out.touch HGN.out
          have hcell := hstr k hlt'
          rw [Nat.zero_add] at hcell
          have HPL := Lib.hid (show Calls Tryd.prog 61 #[.pointer (some ⟨c, 0, none⟩), .string (strAt l k)] wr _ from place_any HNX1.out.good HM1.out HND.out (by have := HP.out.1; omega) (l.getD k []))
          have HLT := Lib.hid hlt'
          clear hlt' hstr
          go_wp2_with fail
          refine HPL.out.mono ?_
          rintro e w4 ⟨i, fd, rfl, hp, hb4⟩
          clear hcell HPL
          have hM4 := HM1.out.next hb4
          obtain ⟨c0, c1, c2, c3, cf⟩ := node_of (hM4.node c nd HND.out)
          have hclt := hM4.lt HND.out
          cases fd with
          | true =>
            obtain ⟨j, hj, ht⟩ := hp.yes rfl
            have hrow := hM4.row c nd HND.out
            have hil : i < nd.kids.length := (List.getElem?_eq_some_iff.1 hj).1
            obtain ⟨gk, off, cap, ev, hcap, hcell⟩ : ∃ gk off cap, vf1 c = .slice (some ⟨gk, off, none⟩) nd.kids.length cap ∧ nd.kids.length ≤ cap ∧ w4.cell? ⟨gk, off + i, none⟩ = some (.pointer (some ⟨j, 0, none⟩)) := by
              rcases hrow.2 with ⟨_, h0⟩ | ⟨gk, off, cap, cur, ev, hg, h1, _⟩
              · omega
              · rw [ev] at hrow
                exact ⟨gk, off, cap, ev, h1, by rw [(hrow.cell i (by omega)).1, kidsV_get, hj]; rfl⟩
            rw [ev] at c1
            have HN2 := Lib.hid (show PSt W M x N H cnt' l (k + 1) j w3 w4 from
              ⟨H1, M1, vf1, (HNX1.out.below' hb4).mono (by omega), hM4, HSB.out, go_more HNX1.out.good HLT.out HGO.out ⟨nd, HND.out, List.mem_of_getElem? hj, ht⟩, (let ⟨kd, h, _⟩ := HNX1.out.good.kid c nd j HND.out (List.mem_of_getElem? hj); ⟨kd, h⟩), HSD.out⟩)
            have hil2 : (i : Int) < (nd.kids.length : Nat) := by omega
            generalize nd.kids.length = m at *
            clear hp hb4 hM4 hrow hj ht ev c0 c2 c3
            go_wp2_with fail
            exact ⟨⟨k + 1, j, by omega, by go_num, rfl, HN2⟩, by simp [intOf]; omega⟩
          | false =>
            have hbk : Below w4.heap.size w4 ((w4.alloc (.cells #[.string (strAt l k), .slice none 0 0, .bool false, .int .i64 0] 115)).alloc (.cells #[.pointer (some ⟨w4.heap.size, 0, none⟩)] 121)) := ((Below.refl _ _).alloc (Nat.le_refl _) _).alloc (by simp) _
            have hvb : ((w4.alloc (.cells #[.string (strAt l k), .slice none 0 0, .bool false, .int .i64 0] 115)).alloc (.cells #[.pointer (some ⟨w4.heap.size, 0, none⟩)] 121)).heap[w4.heap.size + 1]? = some (.cells #[.pointer (some ⟨w4.heap.size, 0, none⟩)] 121 (0, 0)) := by
              have := heap_alloc_new (w4.alloc (.cells #[.string (strAt l k), .slice none 0 0, .bool false, .int .i64 0] 115)) (.cells #[.pointer (some ⟨w4.heap.size, 0, none⟩)] 121)
              rw [show (w4.alloc (.cells #[.string (strAt l k), .slice none 0 0, .bool false, .int .i64 0] 115)).heap.size = w4.heap.size + 1 from by simp] at this
              exact this
            have hkb : ((w4.alloc (.cells #[.string (strAt l k), .slice none 0 0, .bool false, .int .i64 0] 115)).alloc (.cells #[.pointer (some ⟨w4.heap.size, 0, none⟩)] 121)).heap[w4.heap.size]? = some (.cells #[.string (strAt l k), .slice none 0 0, .bool false, .int .i64 0] 115 (0, 0)) := by
              rw [Below.heap_alloc _ _ _ (by simp)]
              exact heap_alloc_new w4 _
            obtain ⟨wa, hwa⟩ : ∃ wa, wa = (w4.alloc (.cells #[.string (strAt l k), .slice none 0 0, .bool false, .int .i64 0] 115)).alloc (.cells #[.pointer (some ⟨w4.heap.size, 0, none⟩)] 121) := ⟨_, rfl⟩
            rw [← hwa] at hbk hvb hkb
            have hMa := hM4.next hbk
            have hna := hMa.node c nd HND.out
            have hra := hMa.row c nd HND.out
            have hle := hp.le
            have hno : ¬ own (vf1 c) (w4.heap.size + 1) := fun h => by have := (hM4.row c nd HND.out).lt _ h; omega
            have HIN := Lib.hid (Ins.insert_any (N := [.pointer (some ⟨w4.heap.size, 0, none⟩)]) (vf1 c) (by have := HNX1.out.good.few c nd HND.out; have := HP.out.1; omega) hle hra (kidsV_one _) rfl (by intro u hu; simp at hu; subst hu; rfl) hvb hno)
            have HMA := Lib.hid hMa; have HNA := Lib.hid hna; have HBA := Lib.hid (hbk); have HB4 := Lib.hid hb4; have HKB := Lib.hid hkb; have HPL := Lib.hid hp; have HRA := Lib.hid hra; have HM4 := Lib.hid hM4
            have hksz : w4.heap.size < wa.heap.size := heap_lt hkb
            clear hMa hna hra hbk hb4 hkb hp hM4 hvb hno c0 c2 c3
            go_wp2_with fail
            rw [← hwa]
            clear hwa
            refine HIN.out.mono ?_
            rintro e w5 ⟨v', rfl, hr5, ht5, ho5⟩
            have hn5 : w5.heap[c]? = some (nodeO x cnt' c nd (vf1 c)) := (ht5.block c (HMA.out.lt HND.out) (own_ne HNA.out HRA.out)).trans HNA.out
            obtain ⟨d0, d1, d2, d3, df⟩ := node_of hn5
            have hclt5 : c < w5.heap.size := heap_lt hn5
            have hpath : nd.path.length < 8 := by
              have h1 := HNX1.out.good.path_root HGO.out HND.out
              rw [h1, List.length_take]
              have := HP.out.1; have := HL.out; omega
            have htok : l.getD k [] ≠ [] ∧ (l.getD k []).length ≤ 16 := HP.out.2 _ (by
              have h1 : l.getD k [] = l[k]'HLT.out := by simp [List.getD, HLT.out]
              rw [h1]; exact List.getElem_mem _)
            have hnx := next_ins (t := l.getD k []) HNX1.out.good HM4.out HND.out HPL.out hpath htok HBA.out rfl HKB.out hksz hr5 ht5 ho5
            have hgn := go_ins_new (i := i) (k := w4.heap.size) (t := l.getD k []) HNX1.out.good HND.out (HM4.out.fresh (Nat.le_refl _)) HGO.out
            have hdn := fun ts m => den_ins (i := i) (k := w4.heap.size) (t := l.getD k []) (ts := ts) (m := m) HNX1.out.good HND.out (HM4.out.fresh (Nat.le_refl _))
            have hnew : (insH H1 c nd i w4.heap.size (l.getD k [])) w4.heap.size = some ⟨l.getD k [], [], false, 0, nd.path ++ [l.getD k []]⟩ := insH_k
            obtain ⟨w6, hw6⟩ : ∃ w6, w6 = w5.setCell ⟨c, 1, none⟩ v' := ⟨_, rfl⟩
            rw [← hw6] at hnx
            obtain ⟨gk, off, cap, ev, hcap, hcell⟩ : ∃ gk off cap, v' = .slice (some ⟨gk, off, none⟩) (nd.kids.length + 1) cap ∧ nd.kids.length + 1 ≤ cap ∧ w6.cell? ⟨gk, off + i, none⟩ = some (.pointer (some ⟨w4.heap.size, 0, none⟩)) := by
              rcases hr5.2 with ⟨_, h0⟩ | ⟨gk, off, cap, cur, ev, hg, h1, _⟩
              · omega
              · rw [ev] at hr5
                refine ⟨gk, off, cap, ev, h1, ?_⟩
                have hgc : gk ≠ c := fun e => own_ne hn5 hr5 (by rw [← e]; simp [own, Value.ownBlock])
                have hle := HPL.out.le
                rw [hw6, World.cell?_setCell_other _ _ _ _ (by simp), (hr5.cell i (by omega)).1]
                rw [List.append_assoc, List.getElem?_append_right (by rw [List.length_take, kidsV_len]; omega), List.length_take, kidsV_len, Nat.mul_one, Nat.min_eq_left hle, Nat.sub_self]
                rfl
            have hc6 : w6.cell? ⟨c, 1, none⟩ = some v' := by
              rw [hw6, (node_of (node_kids hn5 v' nd.kids)).2.1]
            rw [ev] at hc6
            have HN2 := Lib.hid (show PSt W M x N H cnt' l (k + 1) w4.heap.size w3 w6 from by
              have hch := (HNX1.out.below' HB4.out).trans HSB.out hnx
              obtain ⟨hg2, ⟨M2, vf2, hm2, hs2⟩, htt⟩ := hnx
              have e1 : l.take (k + 1) = l.take k ++ [l.getD k []] := by
                rw [List.take_add_one, List.getElem?_eq_getElem HLT.out]; simp [List.getD, HLT.out]
              refine ⟨_, M2, vf2, hch, hm2, fun j hj => ?_, by rw [e1]; exact hgn, ⟨_, hnew⟩, fun us m => (hdn us m).trans (HSD.out us m)⟩
              rcases hs2 j hj with h | h
              · exact HSB.out j h
              · exact .inr (Nat.le_trans HNX1.out.touch.size (Nat.le_trans HB4.out.size h)))
            have hil2 : (i : Int) < (nd.kids.length : Nat) + 1 := by omega
            clear hnx hgn hdn hnew hr5 ht5 ho5 hn5 hpath htok HIN HMA HNA HBA HB4 HKB HPL HRA HM4 hksz d0 d2 d3
            generalize nd.kids.length = m at *
            generalize w4.heap.size = z at *
            subst ev
            go_upto_region 16 with fail
            rw [← hw6]
            clear hw6
            go_wp2_with fail
            exact ⟨⟨k + 1, _, by omega, by go_num, rfl, HN2⟩, by simp [intOf]; omega⟩
        · obtain rfl : k = n := by omega
          have hgl : Go H1 x l c := by have := HGO.out; rw [List.take_of_length_le (by rw [HL.out]; exact Nat.le_refl _)] at this; exact this
          obtain ⟨c0, c1, c2, c3, cf⟩ := node_of (HM1.out.node c nd HND.out)
          have hclt := HM1.out.lt HND.out
          have hset := next_set HNX1.out.good HM1.out HND.out true v
          have hF : PutPost W M x N H cnt 0 l v w (.returned (.int .i64 0)) ((wr.setCell ⟨c, 2, none⟩ (.bool true)).setCell ⟨c, 3, none⟩ (.int .i64 v)) := by
            have h1 := HNX1.out.trans HSB.out hset
            have h2 := h1.mono (N2 := N + 8) (Nat.add_le_add_left (HP.out.1) N)
            have h3 := HN3.out.trans (fun _ hk => .inl hk) h2
            refine ⟨_, cnt', 0, rfl, h3, .inr (.inr ⟨rfl, ?_, rfl, fun us m => ?_⟩)⟩
            · rcases HCN.out with h2 | ⟨h2, h3⟩
              · exact .inl h2
              · exact .inr ⟨h2, HNE.out h2, h3⟩
            · rw [den_set HNX1.out.good HND.out true v hgl]
              constructor
              · rintro (⟨h2, _, h3⟩ | ⟨h2, h3⟩)
                · exact .inl ⟨h2, h3⟩
                · exact .inr ⟨h2, (HSD.out _ _).1 h3⟩
              · rintro (⟨h2, h3⟩ | ⟨h2, h3⟩)
                · exact .inl ⟨h2, rfl, h3⟩
                · exact .inr ⟨h2, (HSD.out _ _).2 h3⟩
          have HF := Lib.hid hF
          clear hF
          clear hset hgl c0 c1
          go_wp2_with fail
          go_ret
          exact HF.out
  · have HF := Lib.hid (show PutPost W M x N H cnt er l v w (.returned (.int .i64 er)) w1 from ⟨H, cnt, er, rfl, (Next.mono ((Next.refl HG.out HM.out).below' HB1.out) (by omega)), .inl ⟨he, rfl, rfl, fun _ _ => Iff.rfl⟩⟩)
    have he0 : ((er : Int) != 0) = true := by simpa using he
    clear he
    go_wp2_with fail
    go_ret
    exact HF.out
end
end Go.Proofs.YtapmhpnkpjgefaaDoor.Idx
