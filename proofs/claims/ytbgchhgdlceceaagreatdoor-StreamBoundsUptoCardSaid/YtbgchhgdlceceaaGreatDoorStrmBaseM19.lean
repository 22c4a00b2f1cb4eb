/- Parts of the proof, joined: (*Index).Put, walked.; The index beside a list of entries: what each call does to it, in plain Lean; then the index's contracts, told by the list alone.; A store in memory: an index, a list of records, their bytes, the last number. -/
import Derived.Test.YtbgchhgdlceceaaGreatDoorStrmBaseM18
namespace Go.Proofs.YtbgchhgdlceceaaGreatDoor.Idx
open Go.RowKit Heap
open Subj (Tok ML pieces StrsAt strAt)

/-- What 'Put' does. -/
def PutPost (W : World) (M : Nat → Prop) (x N : Nat) (H : Hp) (cnt : Nat) (er : Nat) (ts : List Tok) (v : Int) (w : World) (e : Ending) (w' : World) : Prop :=
  ∃ (H' : Hp) (cnt' r : Nat), e = .returned (.int .i64 r) ∧ Next W M x (N + 8) cnt' w H' w' ∧
    ((er ≠ 0 ∧ r = er ∧ cnt' = cnt ∧ SameDen H H' x) ∨
     (er = 0 ∧ (∀ m, ¬ Den H x ts m) ∧ cnt = 100 ∧ r = 8 ∧ cnt' = cnt ∧ SameDen H H' x) ∨
     (er = 0 ∧ ((∃ m, Den H x ts m) ∧ cnt' = cnt ∨ (∀ m, ¬ Den H x ts m) ∧ cnt ≠ 100 ∧ cnt' = cnt + 1) ∧ r = 0 ∧ ∀ us m, Den H' x us m ↔ (us = ts ∧ m = v) ∨ (us ≠ ts ∧ Den H x us m)))

/-- A round of the loop begins. -/
structure PSt (W : World) (M : Nat → Prop) (x N : Nat) (H : Hp) (cnt : Nat) (l : List Tok) (k c : Nat) (w wr : World) : Prop where
  ex : ∃ H' M' vf', Next W M x (N + k) cnt w H' wr ∧ IdxAt W M' x H' vf' cnt wr ∧ (∀ j, M' j → M j ∨ w.heap.size ≤ j) ∧ Go H' x (l.take k) c ∧ (∃ nd, H' c = some nd) ∧ SameDen H H' x

section
variable {W w : World} {M : Nat → Prop} {x : Nat} {H : Hp} {vf : Nat → Value} {cnt N : Nat}

theorem Next.mono {H' : Hp} {w' : World} {N2 : Nat} (h : Next W M x N cnt w H' w') (hN : N ≤ N2) : Next W M x N2 cnt w H' w' := { h with good := h.good.mono hN }

theorem touch_strs {l : List Tok} {g : Nat} {w' : World} (h : StrsAt w g 0 l) (ht : Heap.Touch M w w') (hg : ¬ M g) : StrsAt w' g 0 l := fun i hi => by
  have h1 := h i hi
  have hlt := World.block_lt_of_cell? w _ h1
  rw [ht.cell (p := ⟨g, 0 + i, none⟩) hlt hg]; exact h1

set_option maxHeartbeats 4000000 in
set_option maxRecDepth 100000 in
theorem put_any (hG : Good N H x) (hM : IdxAt W M x H vf cnt w) (hN : N ≤ 90000) (hm : ML W) (s : ByteArray) (hs : s.size ≤ 1048576) (v : Int) (hc : cnt ≤ 100) :
    Calls Tryz.prog 147 #[ptrV x, .string s, .int .i64 v] w (PutPost W M x N H cnt (Subj.err false s.data.toList) (pieces s.data.toList) v w) := by
  have hmw := hm.below hM.below
  have HSU := Lib.hid (Subj.subject_any s w hs hmw)
  have hfind := fun w1 (hb : Below w.heap.size w w1) => find_any hG (hM.next hb) (by omega) (hm.below (hM.next hb).below) s hs
  obtain ⟨er, her⟩ : ∃ er, Subj.err false s.data.toList = er := ⟨_, rfl⟩
  rw [her] at HSU ⊢
  have hprop := err_toks (l := s.data.toList)
  rw [her] at hprop
  have hspl := fun w1 hm1 => split_dot s w1 hs hm1
  have hpl := Subj.pieces_size s hs
  clear her hmw
  generalize pieces s.data.toList = l at *
  obtain ⟨n, hn⟩ : ∃ n, l.length = n := ⟨_, rfl⟩
  rw [hn] at hspl hpl hprop
  obtain ⟨rd, hrd, hrp⟩ := hG.root
  have HL := Lib.hid hn; have HG := Lib.hid hG; have HM := Lib.hid hM; have HML := Lib.hid hm; have HRD := Lib.hid hrd; have HFI := Lib.hid hfind; have HSP := Lib.hid hspl; have HPR := Lib.hid hprop
  have hxlt := hM.lt hrd
  clear hn hG hM hm hrd hrp hfind hspl hprop hs
  go_enter Tryz.func147, Tryz.ntmps147
  go_wp2_with fail
  refine HSU.out.mono ?_
  rintro e w1 ⟨rfl, hb1⟩
  have HB1 := Lib.hid hb1
  clear hb1 HSU
  by_cases he : er = 0
  · have HP := Lib.hid (HPR.out he)
    subst he
    clear HPR
    go_wp2_with fail
    refine (HFI.out w1 HB1.out).mono ?_
    rintro e w2 ⟨hfd, hb2⟩
    have HB2 := Lib.hid (HB1.out.trans (hb2.mono HB1.out.size))
    have HM2 := Lib.hid (HM.out.next HB2.out)
    clear hb2 HFI HB1
    -- what is there
    have hroot := root_of (HM2.out.node x rd HRD.out)
    obtain ⟨r0, r1, r2, r3, rf⟩ := node_of (HM2.out.node x rd HRD.out)
    have hx2 := HM2.out.lt HRD.out
    clear r0 r1 r2 r3
    obtain ⟨cnt', hcnt'⟩ : ∃ cnt' : Nat, ((∃ m, Den H x l m) ∧ cnt' = cnt ∨ (∀ m, ¬ Den H x l m) ∧ cnt' = cnt + 1) := by
      by_cases hex : ∃ m, Den H x l m
      · exact ⟨cnt, .inl ⟨hex, rfl⟩⟩
      · exact ⟨cnt + 1, .inr ⟨fun m h => hex ⟨m, h⟩, rfl⟩⟩
    -- the case in which it is full ends here
    by_cases hfull : (∀ m, ¬ Den H x l m) ∧ cnt = 100
    · obtain ⟨hno, rfl⟩ := hfull
      have HF := Lib.hid (show PutPost W M x N H 100 0 l v w (.returned (.int .i64 8)) w2 from ⟨H, 100, 8, rfl, (Next.mono ((Next.refl HG.out HM.out).below' HB2.out) (by omega)), .inr (.inl ⟨rfl, hno, rfl, rfl, rfl, fun _ _ => Iff.rfl⟩)⟩)
      clear hcnt'
      rcases hfd with ⟨c, nd, rfl, hgo, hnd⟩ | ⟨rfl, hnone⟩
      · have hh : nd.has = false := by
          cases h : nd.has with
          | false => rfl
          | true => exact absurd ⟨c, nd, hgo, hnd, h, rfl⟩ (hno nd.n)
        obtain ⟨c0, c1, c2, c3, cf⟩ := node_of (HM2.out.node c nd hnd)
        rw [hh] at c2
        have hclt := HM2.out.lt hnd
        clear hgo hnd hno c0 c1 c3
        go_wp2_with fail
        go_ret
        exact HF.out
      · clear hno hnone
        go_wp2_with fail
        go_ret
        exact HF.out
    · have hne : (∀ m, ¬ Den H x l m) → cnt ≠ 100 := fun h e => hfull ⟨h, e⟩
      clear hfull
      have HCN := Lib.hid hcnt'; have HNE := Lib.hid hne
      clear hcnt' hne
      have hstay : (∃ m, Den H x l m) → cnt' = cnt := fun h => by
        rcases HCN.out with h1 | h1
        · exact h1.2
        · exact absurd h.choose_spec (h1.1 _)
      have hmore : (∀ m, ¬ Den H x l m) → cnt' = cnt + 1 := fun h => by
        rcases HCN.out with h1 | h1
        · exact absurd h1.1.choose_spec (h _)
        · exact h1.2
      have HST := Lib.hid hstay; have HMO := Lib.hid hmore
      clear hstay hmore
      obtain ⟨vn, rfl, HV⟩ : ∃ vn, e = .returned vn ∧ Hid ((∃ c nd, vn = .pointer (some ⟨c, 0, none⟩) ∧ Go H x l c ∧ H c = some nd) ∨ (vn = .pointer none ∧ ∀ c, ¬ Go H x l c)) := by
        rcases hfd with ⟨c, nd, rfl, h1, h2⟩ | ⟨rfl, h1⟩
        · exact ⟨_, rfl, Lib.hid (.inl ⟨c, nd, rfl, h1, h2⟩)⟩
        · exact ⟨_, rfl, Lib.hid (.inr ⟨rfl, h1⟩)⟩
      clear hfd
      obtain ⟨B, HBB⟩ : ∃ B : Bool, Hid ((B = true → ∀ m, ¬ Den H x l m) ∧ (B = false → ∃ m, Den H x l m)) := by
        by_cases hex : ∃ m, Den H x l m
        · exact ⟨false, Lib.hid ⟨fun h => (by cases h), fun _ => hex⟩⟩
        · exact ⟨true, Lib.hid ⟨fun _ m h => hex ⟨m, h⟩, fun h => (by cases h)⟩⟩
      go_upto_region 5 with fail
      go_cut [30] from 22 to 30 (fun s30 wx => s30 = .bool B ∧ w2 = wx)
      case first =>
        rcases HV.out with ⟨c, nd, rfl, hgo, hnd⟩ | ⟨rfl, hnone⟩
        · obtain ⟨c0, c1, c2, c3, cf⟩ := node_of (HM2.out.node c nd hnd)
          have hclt := HM2.out.lt hnd
          have hB : B = !nd.has := by
            cases h : nd.has with
            | true =>
              cases hb : B with
              | false => rfl
              | true => exact absurd ⟨c, nd, hgo, hnd, h, rfl⟩ (HBB.out.1 hb nd.n)
            | false =>
              cases hb : B with
              | true => rfl
              | false =>
                obtain ⟨m, c', nd', g', e', h', _⟩ := HBB.out.2 hb
                have := HG.out.go_det hgo g'
                subst this
                rw [hnd] at e'; cases e'
                rw [h] at h'; cases h'
          subst hB
          clear hgo hnd c0 c1 c3 HV
          go_wp2_with fail
          go_meet
          exact ⟨rfl, rfl⟩
        · have hB : B = true := by
            cases hb : B with
            | true => rfl
            | false =>
              obtain ⟨m, c', nd', g', _⟩ := HBB.out.2 hb
              exact absurd g' (hnone c')
          subst hB
          clear hnone HV
          go_wp2_with fail
          go_meet
          exact ⟨rfl, rfl⟩
      case rest =>
      obtain ⟨rfl, rfl⟩ := hcut
      clear HV
      go_upto_if 30 with fail
      go_cut [] from 31 to 42 (fun wx => Hid (IdxAt W M x H vf cnt' wx ∧ Heap.Touch M w2 wx))
      case first =>
        cases B with
        | true =>
          have hno := HBB.out.1 rfl
          have hcc : cnt ≠ 100 := HNE.out hno
          have hc1 : cnt' = cnt + 1 := HMO.out hno
          have hbq : ((cnt : Int) == 100) = false := by
            have : ¬ (cnt : Int) = 100 := by omega
            simpa using this
          have hwr : IntKind.i64.wrap ((cnt : Int) + 1) = (cnt : Int) + 1 := IntWalk.i64_in _ (by omega)
          have hend := HM2.out.count HRD.out (cnt + 1)
          rw [show ((cnt + 1 : Nat) : Int) = (cnt : Int) + 1 by omega] at hend
          have HE := Lib.hid (show IdxAt W M x H vf cnt' (w2.setCell ⟨x, 4, none⟩ (.int .i64 ((cnt : Int) + 1))) ∧ Heap.Touch M w2 (w2.setCell ⟨x, 4, none⟩ (.int .i64 ((cnt : Int) + 1))) from ⟨hc1 ▸ hend.1, hend.2⟩)
          clear hno hcc hc1 hend
          go_wp2_with fail
          go_meet
          exact HE
        | false =>
          have hc1 : cnt' = cnt := HST.out (HBB.out.2 rfl)
          have HE := Lib.hid (show IdxAt W M x H vf cnt' w2 ∧ Heap.Touch M w2 w2 from ⟨hc1 ▸ HM2.out, Heap.Touch.refl _ _⟩)
          clear hc1
          go_wp2_with fail
          go_meet
          exact HE
      case rest =>
      clear hroot rf hx2 HM2 HST HMO HBB
      have hMc := hcut.out.1
      have hxc := hMc.lt HRD.out
      have HNX := Lib.hid (show Next W M x N cnt' w H wc from ⟨HG.out, ⟨M, vf, hMc, fun _ h => .inl h⟩, (Heap.Touch.ofBelow HB2.out).trans hcut.out.2 fun _ _ h => h⟩)
      have HSP2 := Lib.hid (HSP.out wc (HML.out.below hMc.below))
      have HMC := Lib.hid hMc
      clear hMc HSP hcut
      go_wp2_with fail
      refine HSP2.out.mono ?_
      rintro e w3 ⟨rfl, hst, hb3⟩
      have HST := Lib.hid hst; have HB3 := Lib.hid hb3
      clear hst hb3 HSP2
      obtain ⟨g, hgg⟩ : ∃ g, wc.heap.size = g := ⟨_, rfl⟩
      rw [hgg] at HST ⊢
      have HGN := Lib.hid (show ¬ M g from fun h => by have := HMC.out.bM g h; omega)
      clear hgg
      have HN3 := Lib.hid (HNX.out.below' HB3.out)
      have HM3 := Lib.hid (HMC.out.next HB3.out)
      go_wp2_with fail
      go_loopw [9, 49] (fun a i wr => ∃ (k c : Nat), k ≤ n ∧ i = .int .i64 k ∧ a = .pointer (some ⟨c, 0, none⟩) ∧ Hid (PSt W M x N H cnt' l k c w3 wr)) (fun _ i _ => n - (intOf i).toNat)
      case atStart => exact ⟨0, x, Nat.zero_le _, rfl, rfl, Lib.hid ⟨H, M, vf, ⟨HG.out, ⟨M, vf, HM3.out, fun _ h => .inl h⟩, Heap.Touch.refl _ _⟩, HM3.out, fun _ h => .inl h, .nil x, ⟨rd, HRD.out⟩, fun _ _ => Iff.rfl⟩⟩
      case round =>
        obtain ⟨k, c, hk, rfl, rfl, HPS⟩ := hrel
        obtain ⟨H1, M1, vf1, hnx, hm1, hsub, hgo, ⟨nd, hnd⟩, hsd⟩ := HPS.out.ex
        have HNX1 := Lib.hid hnx; have HM1 := Lib.hid hm1; have HSB := Lib.hid hsub; have HGO := Lib.hid hgo; have HND := Lib.hid hnd; have HSD := Lib.hid hsd
        clear hnx hm1 hsub hgo hnd hsd HPS
        by_cases hlt : k < n
        · have hltz : (k : Int) < n := by omega
          have hlt' : k < l.length := by rw [HL.out]; exact hlt
          have hstr := touch_strs HST.out HNX1.out.touch HGN.out
          have hcell := hstr k hlt'
          rw [Nat.zero_add] at hcell
          have HPL := Lib.hid (show Calls Tryz.prog 203 #[.pointer (some ⟨c, 0, none⟩), .string (strAt l k)] wr _ from place_any HNX1.out.good HM1.out HND.out (by have := HP.out.1; omega) (l.getD k []))
          have HLT := Lib.hid hlt'
          clear hlt' hstr
          go_wp2_with fail
          refine HPL.out.mono ?_
          rintro e w4 ⟨i, fd, rfl, hp, hb4⟩
          clear hcell HPL
          have hM4 := HM1.out.next hb4
          obtain ⟨c0, c1, c2, c3, cf⟩ := node_of (hM4.node c nd HND.out)
          have hclt := hM4.lt HND.out
          cases fd with
          | true =>
            obtain ⟨j, hj, ht⟩ := hp.yes rfl
            have hrow := hM4.row c nd HND.out
            have hil : i < nd.kids.length := (List.getElem?_eq_some_iff.1 hj).1
            obtain ⟨gk, off, cap, ev, hcap, hcell⟩ : ∃ gk off cap, vf1 c = .slice (some ⟨gk, off, none⟩) nd.kids.length cap ∧ nd.kids.length ≤ cap ∧ w4.cell? ⟨gk, off + i, none⟩ = some (.pointer (some ⟨j, 0, none⟩)) := by
              rcases hrow.2 with ⟨_, h0⟩ | ⟨gk, off, cap, cur, ev, hg, h1, _⟩
              · omega
              · rw [ev] at hrow
                exact ⟨gk, off, cap, ev, h1, by rw [(hrow.cell i (by omega)).1, kidsV_get, hj]; rfl⟩
            rw [ev] at c1
            have HN2 := Lib.hid (show PSt W M x N H cnt' l (k + 1) j w3 w4 from
              ⟨H1, M1, vf1, (HNX1.out.below' hb4).mono (by omega), hM4, HSB.out, go_more HNX1.out.good HLT.out HGO.out ⟨nd, HND.out, List.mem_of_getElem? hj, ht⟩, (let ⟨kd, h, _⟩ := HNX1.out.good.kid c nd j HND.out (List.mem_of_getElem? hj); ⟨kd, h⟩), HSD.out⟩)
            have hil2 : (i : Int) < (nd.kids.length : Nat) := by omega
            generalize nd.kids.length = m at *
            clear hp hb4 hM4 hrow hj ht ev c0 c2 c3
            go_wp2_with fail
            exact ⟨⟨k + 1, j, by omega, by go_num, rfl, HN2⟩, by simp [intOf]; omega⟩
          | false =>
            have hbk : Below w4.heap.size w4 ((w4.alloc (.cells #[.string (strAt l k), .slice none 0 0, .bool false, .int .i64 0] 220)).alloc (.cells #[.pointer (some ⟨w4.heap.size, 0, none⟩)] 276)) := ((Below.refl _ _).alloc (Nat.le_refl _) _).alloc (by simp) _
            have hvb : ((w4.alloc (.cells #[.string (strAt l k), .slice none 0 0, .bool false, .int .i64 0] 220)).alloc (.cells #[.pointer (some ⟨w4.heap.size, 0, none⟩)] 276)).heap[w4.heap.size + 1]? = some (.cells #[.pointer (some ⟨w4.heap.size, 0, none⟩)] 276 (0, 0)) := by
              have := heap_alloc_new (w4.alloc (.cells #[.string (strAt l k), .slice none 0 0, .bool false, .int .i64 0] 220)) (.cells #[.pointer (some ⟨w4.heap.size, 0, none⟩)] 276)
              rw [show (w4.alloc (.cells #[.string (strAt l k), .slice none 0 0, .bool false, .int .i64 0] 220)).heap.size = w4.heap.size + 1 from by simp] at this
              exact this
            have hkb : ((w4.alloc (.cells #[.string (strAt l k), .slice none 0 0, .bool false, .int .i64 0] 220)).alloc (.cells #[.pointer (some ⟨w4.heap.size, 0, none⟩)] 276)).heap[w4.heap.size]? = some (.cells #[.string (strAt l k), .slice none 0 0, .bool false, .int .i64 0] 220 (0, 0)) := by
              rw [Below.heap_alloc _ _ _ (by simp)]
              exact heap_alloc_new w4 _
            obtain ⟨wa, hwa⟩ : ∃ wa, wa = (w4.alloc (.cells #[.string (strAt l k), .slice none 0 0, .bool false, .int .i64 0] 220)).alloc (.cells #[.pointer (some ⟨w4.heap.size, 0, none⟩)] 276) := ⟨_, rfl⟩
            rw [← hwa] at hbk hvb hkb
            have hMa := hM4.next hbk
            have hna := hMa.node c nd HND.out
            have hra := hMa.row c nd HND.out
            have hle := hp.le
            have hno : ¬ own (vf1 c) (w4.heap.size + 1) := fun h => by have := (hM4.row c nd HND.out).lt _ h; omega
            have HIN := Lib.hid (Ins.insert_any (N := [.pointer (some ⟨w4.heap.size, 0, none⟩)]) (vf1 c) (by have := HNX1.out.good.few c nd HND.out; have := HP.out.1; omega) hle hra (kidsV_one _) rfl (by intro u hu; simp at hu; subst hu; rfl) hvb hno)
            have HMA := Lib.hid hMa; have HNA := Lib.hid hna; have HBA := Lib.hid (hbk); have HB4 := Lib.hid hb4; have HKB := Lib.hid hkb; have HPL := Lib.hid hp; have HRA := Lib.hid hra; have HM4 := Lib.hid hM4
            have hksz : w4.heap.size < wa.heap.size := heap_lt hkb
            clear hMa hna hra hbk hb4 hkb hp hM4 hvb hno c0 c2 c3
            go_wp2_with fail
            rw [← hwa]
            clear hwa
            refine HIN.out.mono ?_
            rintro e w5 ⟨v', rfl, hr5, ht5, ho5⟩
            have hn5 : w5.heap[c]? = some (nodeO x cnt' c nd (vf1 c)) := (ht5.block c (HMA.out.lt HND.out) (own_ne HNA.out HRA.out)).trans HNA.out
            obtain ⟨d0, d1, d2, d3, df⟩ := node_of hn5
            have hclt5 : c < w5.heap.size := heap_lt hn5
            have hpath : nd.path.length < 8 := by
              have h1 := HNX1.out.good.path_root HGO.out HND.out
              rw [h1, List.length_take]
              have := HP.out.1; have := HL.out; omega
            have htok : l.getD k [] ≠ [] ∧ (l.getD k []).length ≤ 16 := HP.out.2 _ (by
              have h1 : l.getD k [] = l[k]'HLT.out := by simp [List.getD, HLT.out]
              rw [h1]; exact List.getElem_mem _)
            have hnx := next_ins (t := l.getD k []) HNX1.out.good HM4.out HND.out HPL.out hpath htok HBA.out rfl HKB.out hksz hr5 ht5 ho5
            have hgn := go_ins_new (i := i) (k := w4.heap.size) (t := l.getD k []) HNX1.out.good HND.out (HM4.out.fresh (Nat.le_refl _)) HGO.out
            have hdn := fun ts m => den_ins (i := i) (k := w4.heap.size) (t := l.getD k []) (ts := ts) (m := m) HNX1.out.good HND.out (HM4.out.fresh (Nat.le_refl _))
            have hnew : (insH H1 c nd i w4.heap.size (l.getD k [])) w4.heap.size = some ⟨l.getD k [], [], false, 0, nd.path ++ [l.getD k []]⟩ := insH_k
            obtain ⟨w6, hw6⟩ : ∃ w6, w6 = w5.setCell ⟨c, 1, none⟩ v' := ⟨_, rfl⟩
            rw [← hw6] at hnx
            obtain ⟨gk, off, cap, ev, hcap, hcell⟩ : ∃ gk off cap, v' = .slice (some ⟨gk, off, none⟩) (nd.kids.length + 1) cap ∧ nd.kids.length + 1 ≤ cap ∧ w6.cell? ⟨gk, off + i, none⟩ = some (.pointer (some ⟨w4.heap.size, 0, none⟩)) := by
              rcases hr5.2 with ⟨_, h0⟩ | ⟨gk, off, cap, cur, ev, hg, h1, _⟩
              · omega
              · rw [ev] at hr5
                refine ⟨gk, off, cap, ev, h1, ?_⟩
                have hgc : gk ≠ c := fun e => own_ne hn5 hr5 (by rw [← e]; simp [own, Value.ownBlock])
                have hle := HPL.out.le
                rw [hw6, World.cell?_setCell_other _ _ _ _ (by simp), (hr5.cell i (by omega)).1]
                rw [List.append_assoc, List.getElem?_append_right (by rw [List.length_take, kidsV_len]; omega), List.length_take, kidsV_len, Nat.mul_one, Nat.min_eq_left hle, Nat.sub_self]
                rfl
            have hc6 : w6.cell? ⟨c, 1, none⟩ = some v' := by
              rw [hw6, (node_of (node_kids hn5 v' nd.kids)).2.1]
            rw [ev] at hc6
            have HN2 := Lib.hid (show PSt W M x N H cnt' l (k + 1) w4.heap.size w3 w6 from by
              have hch := (HNX1.out.below' HB4.out).trans HSB.out hnx
              obtain ⟨hg2, ⟨M2, vf2, hm2, hs2⟩, htt⟩ := hnx
              have e1 : l.take (k + 1) = l.take k ++ [l.getD k []] := by
                rw [List.take_add_one, List.getElem?_eq_getElem HLT.out]; simp [List.getD, HLT.out]
              refine ⟨_, M2, vf2, hch, hm2, fun j hj => ?_, by rw [e1]; exact hgn, ⟨_, hnew⟩, fun us m => (hdn us m).trans (HSD.out us m)⟩
              rcases hs2 j hj with h | h
              · exact HSB.out j h
              · exact .inr (Nat.le_trans HNX1.out.touch.size (Nat.le_trans HB4.out.size h)))
            have hil2 : (i : Int) < (nd.kids.length : Nat) + 1 := by omega
            clear hnx hgn hdn hnew hr5 ht5 ho5 hn5 hpath htok HIN HMA HNA HBA HB4 HKB HPL HRA HM4 hksz d0 d2 d3
            generalize nd.kids.length = m at *
            generalize w4.heap.size = z at *
            subst ev
            go_upto_region 16 with fail
            rw [← hw6]
            clear hw6
            go_wp2_with fail
            exact ⟨⟨k + 1, _, by omega, by go_num, rfl, HN2⟩, by simp [intOf]; omega⟩
        · obtain rfl : k = n := by omega
          have hgl : Go H1 x l c := by have := HGO.out; rw [List.take_of_length_le (by rw [HL.out]; exact Nat.le_refl _)] at this; exact this
          obtain ⟨c0, c1, c2, c3, cf⟩ := node_of (HM1.out.node c nd HND.out)
          have hclt := HM1.out.lt HND.out
          have hset := next_set HNX1.out.good HM1.out HND.out true v
          have hF : PutPost W M x N H cnt 0 l v w (.returned (.int .i64 0)) ((wr.setCell ⟨c, 2, none⟩ (.bool true)).setCell ⟨c, 3, none⟩ (.int .i64 v)) := by
            have h1 := HNX1.out.trans HSB.out hset
            have h2 := h1.mono (N2 := N + 8) (Nat.add_le_add_left (HP.out.1) N)
            have h3 := HN3.out.trans (fun _ hk => .inl hk) h2
            refine ⟨_, cnt', 0, rfl, h3, .inr (.inr ⟨rfl, ?_, rfl, fun us m => ?_⟩)⟩
            · rcases HCN.out with h2 | ⟨h2, h3⟩
              · exact .inl h2
              · exact .inr ⟨h2, HNE.out h2, h3⟩
            · rw [den_set HNX1.out.good HND.out true v hgl]
              constructor
              · rintro (⟨h2, _, h3⟩ | ⟨h2, h3⟩)
                · exact .inl ⟨h2, h3⟩
                · exact .inr ⟨h2, (HSD.out _ _).1 h3⟩
              · rintro (⟨h2, h3⟩ | ⟨h2, h3⟩)
                · exact .inl ⟨h2, rfl, h3⟩
                · exact .inr ⟨h2, (HSD.out _ _).2 h3⟩
          have HF := Lib.hid hF
          clear hF
          clear hset hgl c0 c1
          go_wp2_with fail
          go_ret
          exact HF.out
  · have HF := Lib.hid (show PutPost W M x N H cnt er l v w (.returned (.int .i64 er)) w1 from ⟨H, cnt, er, rfl, (Next.mono ((Next.refl HG.out HM.out).below' HB1.out) (by omega)), .inl ⟨he, rfl, rfl, fun _ _ => Iff.rfl⟩⟩)
    have he0 : ((er : Int) != 0) = true := by simpa using he
    clear he
    go_wp2_with fail
    go_ret
    exact HF.out
end
end Go.Proofs.YtbgchhgdlceceaaGreatDoor.Idx

namespace Go.Proofs.YtbgchhgdlceceaaGreatDoor.Shf
open Go.RowKit Heap Idx
open Subj (Tok ML pieces)

section
variable {H H' : Hp} {x : Nat} {L : Ents}

theorem rel_same (h : Rel H x L) (hd : SameDen H H' x) : Rel H' x L := ⟨fun ts n => (hd ts n).trans (h.den ts n), h.sorted⟩

theorem no_den (h : Rel H x L) {s : Tok} (hn : ∀ m, ¬ Den H x (pieces s) m) : ∀ y ∈ L, y.1 ≠ s := fun y hy e => by
  subst e
  exact hn y.2 (h.mem.2 hy)

theorem no_ent (h : Rel H x L) {s : Tok} (hn : ∀ y ∈ L, y.1 ≠ s) : ∀ m, ¬ Den H x (pieces s) m := fun _m hd => hn _ (h.mem.1 hd) rfl

theorem rel_pos (h : Rel H x L) : (∃ ts m, Den H x ts m) → 1 ≤ L.length := fun ⟨ts, m, hd⟩ => by
  obtain ⟨s, hs, _⟩ := (h.den ts m).1 hd
  exact List.length_pos_of_mem hs

theorem put_rel (h : Rel H x L) {er r cnt' : Nat} {s : Tok} {v : Int} (hp :
    (er ≠ 0 ∧ r = er ∧ cnt' = L.length ∧ SameDen H H' x) ∨
     (er = 0 ∧ (∀ m, ¬ Den H x (pieces s) m) ∧ L.length = 100 ∧ r = 8 ∧ cnt' = L.length ∧ SameDen H H' x) ∨
     (er = 0 ∧ ((∃ m, Den H x (pieces s) m) ∧ cnt' = L.length ∨ (∀ m, ¬ Den H x (pieces s) m) ∧ L.length ≠ 100 ∧ cnt' = L.length + 1) ∧ r = 0 ∧ ∀ us m, Den H' x us m ↔ (us = pieces s ∧ m = v) ∨ (us ≠ pieces s ∧ Den H x us m))) :
    Rel H' x (putL er L s v).1 ∧ r = (putL er L s v).2 ∧ cnt' = (putL er L s v).1.length := by
  rcases hp with ⟨h1, rfl, rfl, h2⟩ | ⟨rfl, h1, h2, rfl, rfl, h3⟩ | ⟨rfl, h1, rfl, h3⟩
  · rw [show putL r L s v = (L, r) from by unfold putL; rw [if_pos h1]]
    exact ⟨rel_same h h2, rfl, rfl⟩
  · have e := no_den h h1
    rcases idxL_cases L s with ⟨e1, _⟩ | ⟨k, p, e1, e2, e3, _⟩
    · rw [show putL 0 L s v = (L, 8) from by unfold putL; rw [if_neg (by simp), if_neg (by omega), if_pos h2]]
      exact ⟨rel_same h h3, rfl, rfl⟩
    · exact absurd e3 (e p (List.mem_of_getElem? e2))
  · rcases idxL_cases L s with ⟨e1, e2⟩ | ⟨k, p, e1, e2, e3, _⟩
    · rcases h1 with ⟨⟨m, hm⟩, _⟩ | ⟨_, h4, rfl⟩
      · exact absurd hm (no_ent h e2 m)
      · rw [show putL 0 L s v = (insL L s v, 0) from by unfold putL; rw [if_neg (by simp), if_neg (by omega), if_neg h4]]
        exact ⟨rel_ins h e2 h3, rfl, (insL_len L s v).symm⟩
    · rcases h1 with ⟨_, rfl⟩ | ⟨h4, _⟩
      · rw [show putL 0 L s v = (setL L k s v, 0) from by unfold putL; rw [if_neg (by simp), if_pos (by omega), e1]; rfl]
        exact ⟨rel_set h e2 e3 h3, rfl, by simp [setL]⟩
      · exact absurd e3 (no_den h h4 p (List.mem_of_getElem? e2))

theorem drop_rel (h : Rel H x L) {er r cnt' : Nat} {s : Tok} (hp :
    (er ≠ 0 ∧ r = er ∧ cnt' = L.length ∧ SameDen H H' x) ∨
     (er = 0 ∧ (∀ m, ¬ Den H x (pieces s) m) ∧ r = 4 ∧ cnt' = L.length ∧ SameDen H H' x) ∨
     (er = 0 ∧ (∃ m, Den H x (pieces s) m) ∧ r = 0 ∧ cnt' = L.length - 1 ∧ ∀ us m, Den H' x us m ↔ us ≠ pieces s ∧ Den H x us m)) :
    Rel H' x (dropL er L s).1 ∧ r = (dropL er L s).2 ∧ cnt' = (dropL er L s).1.length := by
  rcases hp with ⟨h1, rfl, rfl, h2⟩ | ⟨rfl, h1, rfl, rfl, h3⟩ | ⟨rfl, ⟨m, hm⟩, rfl, rfl, h3⟩
  · rw [show dropL r L s = (L, r) from by unfold dropL; rw [if_pos h1]]
    exact ⟨rel_same h h2, rfl, rfl⟩
  · have e := no_den h h1
    rcases idxL_cases L s with ⟨e1, _⟩ | ⟨k, p, e1, e2, e3, _⟩
    · rw [show dropL 0 L s = (L, 4) from by unfold dropL; rw [if_neg (by simp), if_pos (by omega)]]
      exact ⟨rel_same h h3, rfl, rfl⟩
    · exact absurd e3 (e p (List.mem_of_getElem? e2))
  · rcases idxL_cases L s with ⟨e1, e2⟩ | ⟨k, p, e1, e2, e3, _⟩
    · exact absurd hm (no_ent h e2 m)
    · rw [show dropL 0 L s = (delL L k, 0) from by unfold dropL; rw [if_neg (by simp), if_neg (by omega), e1]; rfl]
      have hkl := (List.getElem?_eq_some_iff.1 e2).1
      exact ⟨rel_del h e2 e3 h3, rfl, by simp [delL]; omega⟩

theorem get_rel (h : Rel H x L) {er r : Nat} {a : Int} {s : Tok} (hp :
    (er ≠ 0 ∧ a = 0 ∧ r = er) ∨ (er = 0 ∧ (∀ m, ¬ Den H x (pieces s) m) ∧ a = 0 ∧ r = 4) ∨ (er = 0 ∧ Den H x (pieces s) a ∧ r = 0)) : (a, r) = getL er L s := by
  rcases hp with ⟨h1, rfl, rfl⟩ | ⟨rfl, h1, rfl, rfl⟩ | ⟨rfl, h1, rfl⟩
  · unfold getL; rw [if_pos h1]
  · have e := no_den h h1
    rcases idxL_cases L s with ⟨e1, _⟩ | ⟨k, p, e1, e2, e3, _⟩
    · unfold getL; rw [if_neg (by simp), if_pos (by omega)]
    · exact absurd e3 (e p (List.mem_of_getElem? e2))
  · rcases idxL_cases L s with ⟨e1, e2⟩ | ⟨k, p, e1, e2, e3, _⟩
    · exact absurd h1 (no_ent h e2 a)
    · have hq := h.uniq e2 (h.mem.1 h1) e3.symm
      unfold getL; rw [if_neg (by simp), if_neg (by omega), e1]
      simp [List.getD, e2, ← hq]
end


theorem putL_few {er : Nat} {L : Ents} {s : Tok} {v : Int} (h : L.length ≤ 100) : (putL er L s v).1.length ≤ 100 := by
  unfold putL
  split
  · exact h
  · split
    · simpa [setL] using h
    · split
      · exact h
      · rw [insL_len]; omega

theorem dropL_few {er : Nat} {L : Ents} {s : Tok} (h : L.length ≤ 100) : (dropL er L s).1.length ≤ 100 := by
  unfold dropL
  split
  · exact h
  · split
    · exact h
    · simp [delL]; omega

/-- The index x in memory, of the blocks M, tells the list L. -/
structure XAt (W : World) (M : Nat → Prop) (x N : Nat) (L : Ents) (w : World) : Prop where
  few : L.length ≤ 100
  ex : ∃ (H : Hp) (vf : Nat → Value), Idx.Good N H x ∧ IdxAt W M x H vf L.length w ∧ Rel H x L

/-- An index that has come of another one. -/
def NextX (W : World) (M : Nat → Prop) (x N : Nat) (w : World) (L' : Ents) (w' : World) : Prop :=
  (∃ M', XAt W M' x N L' w' ∧ ∀ k, M' k → M k ∨ w.heap.size ≤ k) ∧ Heap.Touch M w w'

section
variable {W w w1 : World} {M : Nat → Prop} {x N N' : Nat} {L L' : Ents}

theorem XAt.below (h : XAt W M x N L w) : Below W.heap.size W w := by
  obtain ⟨H, vf, _, h2, _⟩ := h.ex
  exact h2.below
theorem XAt.sorted (h : XAt W M x N L w) : SortedE L := by
  obtain ⟨H, vf, _, _, h3⟩ := h.ex
  exact h3.sorted
theorem XAt.bM (h : XAt W M x N L w) {k : Nat} (hk : M k) : k < w.heap.size := by
  obtain ⟨H, vf, _, h2, _⟩ := h.ex
  exact h2.bM k hk
theorem XAt.newM (h : XAt W M x N L w) {k : Nat} (hk : M k) : W.heap.size ≤ k := by
  obtain ⟨H, vf, _, h2, _⟩ := h.ex
  exact h2.newM k hk
theorem XAt.kept (h : XAt W M x N L w) (hb : Below W.heap.size W w1) (hsz : w.heap.size ≤ w1.heap.size) (hs : Same M w w1) : XAt W M x N L w1 := by
  obtain ⟨H, vf, h1, h2, h3⟩ := h.ex
  exact ⟨h.few, H, vf, h1, h2.kept hb hsz hs, h3⟩
theorem XAt.next (h : XAt W M x N L w) (hb : Below w.heap.size w w1) : XAt W M x N L w1 := by
  obtain ⟨H, vf, h1, h2, h3⟩ := h.ex
  exact ⟨h.few, H, vf, h1, h2.next hb, h3⟩
theorem XAt.mono (h : XAt W M x N L w) (hN : N ≤ N') : XAt W M x N' L w := by
  obtain ⟨H, vf, h1, h2, h3⟩ := h.ex
  exact ⟨h.few, H, vf, h1.mono hN, h2, h3⟩

theorem NextX.below (h : NextX W M x N w L' w1) : Below W.heap.size W w1 := by
  obtain ⟨⟨M', h1, _⟩, _⟩ := h
  exact h1.below

theorem next_x {H' : Hp} {cnt' : Nat} (hn : Idx.Next W M x N' cnt' w H' w1) (hr : Rel H' x L') (hc : cnt' = L'.length) (hf : L'.length ≤ 100) : NextX W M x N' w L' w1 := by
  obtain ⟨hG, ⟨M', vf', hI, hM⟩, ht⟩ := hn
  subst hc
  exact ⟨⟨M', ⟨hf, H', vf', hG, hI, hr⟩, hM⟩, ht⟩

theorem put_x (h : XAt W M x N L w) (hN : N ≤ 90000) (hm : ML W) (s : ByteArray) (hs : s.size ≤ 1048576) (v : Int) :
    Calls Tryz.prog 147 #[ptrV x, .string s, .int .i64 v] w fun e w' => e = .returned (.int .i64 ((putL (Subj.err false s.data.toList) L s.data.toList v).2 : Nat)) ∧ NextX W M x (N + 8) w (putL (Subj.err false s.data.toList) L s.data.toList v).1 w' := by
  obtain ⟨H, vf, h1, h2, h3⟩ := h.ex
  refine (put_any h1 h2 hN hm s hs v h.few).mono ?_
  rintro e w' ⟨H', cnt', r, rfl, hn, hc⟩
  obtain ⟨r1, r2, r3⟩ := put_rel h3 hc
  exact ⟨by rw [r2], next_x hn r1 r3 (putL_few h.few)⟩

theorem drop_x (h : XAt W M x N L w) (hN : N ≤ 90000) (hm : ML W) (s : ByteArray) (hs : s.size ≤ 1048576) :
    Calls Tryz.prog 146 #[ptrV x, .string s] w fun e w' => e = .returned (.int .i64 ((dropL (Subj.err false s.data.toList) L s.data.toList).2 : Nat)) ∧ NextX W M x N w (dropL (Subj.err false s.data.toList) L s.data.toList).1 w' := by
  obtain ⟨H, vf, h1, h2, h3⟩ := h.ex
  refine (dropAll_any h1 h2 hN hm s hs h.few (rel_pos h3)).mono ?_
  rintro e w' ⟨H', cnt', r, rfl, hn, hc⟩
  obtain ⟨r1, r2, r3⟩ := drop_rel h3 hc
  exact ⟨by rw [r2], next_x hn r1 r3 (dropL_few h.few)⟩

theorem get_x (h : XAt W M x N L w) (hN : N ≤ 90000) (hm : ML W) (s : ByteArray) (hs : s.size ≤ 1048576) :
    Calls Tryz.prog 144 #[ptrV x, .string s] w fun e w' => e = .returned (.tuple #[.int .i64 (getL (Subj.err false s.data.toList) L s.data.toList).1, .int .i64 ((getL (Subj.err false s.data.toList) L s.data.toList).2 : Nat)]) ∧ Below w.heap.size w w' := by
  obtain ⟨H, vf, h1, h2, h3⟩ := h.ex
  refine (get_any h1 h2 hN hm s hs).mono ?_
  rintro e w' ⟨hb, a, r, rfl, hc⟩
  rw [← get_rel h3 hc]
  exact ⟨rfl, hb⟩

theorem count_x (h : XAt W M x N L w) : Calls Tryz.prog 145 #[ptrV x] w fun e w' => e = .returned (.int .i64 L.length) ∧ w = w' := by
  obtain ⟨H, vf, h1, h2, h3⟩ := h.ex
  exact count_any h1 h2

theorem find_x (h : XAt W M x N L w) (hN : N ≤ 90000) (hm : ML W) (s : ByteArray) (hs : s.size ≤ 1048576) :
    Calls Tryz.prog 125 #[ptrV x, .string s] w (FindPost (Subj.err true s.data.toList) (findL L s.data.toList) w) := by
  obtain ⟨H, vf, h1, h2, h3⟩ := h.ex
  have e := find_same h1 h3 s.data.toList
  rw [← e]
  refine findAll_any h1 h2 (by omega) hm s hs ?_
  have e2 := congrArg List.length e
  rw [toldL_len] at e2
  rw [e2]
  have := List.length_filter_le (fun y : Tok × Int => Subj.takes (pieces s.data.toList) (pieces y.1)) L
  have := h.few
  unfold findL
  omega

theorem x_new (hb : Below W.heap.size W w) : XAt W (fun k => k = w.heap.size) w.heap.size 0 [] (w.alloc (.cells #[.string ⟨#[]⟩, .slice none 0 0, .bool false, .int .i64 0, .int .i64 0] 222)) :=
  ⟨by simp, newH w.heap.size, _, good_new _, idx_new hb, ⟨fun ts n => ⟨fun hd => absurd hd (den_new _ ts n), fun ⟨s, hs, _⟩ => by cases hs⟩, List.Pairwise.nil⟩⟩
end
end Go.Proofs.YtbgchhgdlceceaaGreatDoor.Shf

namespace Go.Proofs.YtbgchhgdlceceaaGreatDoor.Sto
open Go.RowKit Heap
open Subj (Tok ML pieces takes)
open Rec (Rc recErr far recA rcOf)
open Idx (Ents ptrV idxL)
open Shf (XAt NextX getL dropL putL SortedE)

/-- A store in memory. -/
structure SAt (W : World) (M : Nat → Prop) (x N : Nat) (I : Ents) (D : Nat) (v : Value) (L : List Rc) (bt last : Int) (w : World) : Prop where
  idx : XAt W M x N I w
  cell : w.heap[D]? = some (.cells #[v, ptrV x, .int .i64 bt, .int .i64 last] 144 (0, 0))
  row : Row w 33 6 v L.length (recsV L)
  mD : ¬ M D
  oldD : W.heap.size ≤ D
  vM : ∀ k, own v k → ¬ M k ∧ W.heap.size ≤ k

theorem fourS {D : Nat} {a0 a1 a2 a3 : Value} {t : TypeId} {w : World} (h : w.heap[D]? = some (.cells #[a0, a1, a2, a3] t (0, 0))) :
    w.cell? ⟨D, 0, none⟩ = some a0 ∧ w.cell? ⟨D, 1, none⟩ = some a1 ∧ w.cell? ⟨D, 2, none⟩ = some a2 ∧ w.cell? ⟨D, 3, none⟩ = some a3 ∧ ∀ j, w.frozen? ⟨D, j, none⟩ = false := by
  refine ⟨?_, ?_, ?_, ?_, fun j => frozen_of_row w D j _ _ h⟩
  · rw [cell_of_row w D 0 _ _ _ h]; rfl
  · rw [cell_of_row w D 1 _ _ _ h]; rfl
  · rw [cell_of_row w D 2 _ _ _ h]; rfl
  · rw [cell_of_row w D 3 _ _ _ h]; rfl

theorem ne_rec {D n : Nat} {w : World} {v a0 a1 a2 a3 : Value} {xs : List Value} (h : w.heap[D]? = some (.cells #[a0, a1, a2, a3] 144 (0, 0))) (hr : Row w 33 6 v n xs) : ¬ own v D := fun ho => by
  rcases hr.2 with ⟨rfl, _⟩ | ⟨g, off, cap, cur, rfl, hg, _⟩
  · simp [own, Value.ownBlock] at ho
  · simp [own, Value.ownBlock] at ho
    subst ho
    rw [h] at hg
    simp at hg

section
variable {W w w1 : World} {M : Nat → Prop} {x N N' D : Nat} {I I' : Ents} {v v' : Value} {L L' : List Rc} {bt last bt' last' : Int}

theorem SAt.lt (h : SAt W M x N I D v L bt last w) : D < w.heap.size := heap_lt h.cell
theorem SAt.ne (h : SAt W M x N I D v L bt last w) : ¬ own v D := ne_rec h.cell h.row

/-- All but the index is turned. -/
theorem SAt.turn (h : SAt W M x N I D v L bt last w) (ht : Heap.Touch (fun k => own v k ∨ k = D) w w1) (hc : w1.heap[D]? = some (.cells #[v', ptrV x, .int .i64 bt', .int .i64 last'] 144 (0, 0)))
    (hr : Row w1 33 6 v' L'.length (recsV L')) (ho : ∀ k, own v' k → own v k ∨ w.heap.size ≤ k) : SAt W M x N I D v' L' bt' last' w1 := by
  have hb := h.idx.below
  refine ⟨h.idx.kept (hb.trans (ht.below hb.size fun k hk => ?_)) ht.size (ht.same fun k hm hk => ?_), hc, hr, h.mD, h.oldD, fun k hk => ?_⟩
  · rcases hk with hk | rfl
    · exact (h.vM k hk).2
    · exact h.oldD
  · rcases hk with hk | rfl
    · exact (h.vM k hk).1 hm
    · exact h.mD hm
  · rcases ho k hk with e | e
    · exact h.vM k e
    · exact ⟨fun hm => by have := h.idx.bM hm; omega, Nat.le_trans hb.size e⟩

theorem SAt.next (h : SAt W M x N I D v L bt last w) (hb : Below w.heap.size w w1) : SAt W M x N I D v L bt last w1 :=
  h.turn (Heap.Touch.ofBelow hb) ((hb.block D h.lt).trans h.cell) (h.row.kept fun k _ hk => hb.block k hk) fun _ hk => .inl hk

theorem touch_D (w : World) (D j : Nat) (u : Value) : Heap.Touch (fun k => k = D) w (w.setCell ⟨D, j, none⟩ u) := Heap.Touch.setCell (F := fun k => k = D) (p := ⟨D, j, none⟩) (Heap.Touch.refl _ w) (.inl rfl) _

theorem SAt.setBytes (h : SAt W M x N I D v L bt last w) (b : Int) : SAt W M x N I D v L b last (w.setCell ⟨D, 2, none⟩ (.int .i64 b)) :=
  h.turn ((touch_D w D 2 _).mono fun _ _ e => .inr e) (heap_setCell_same _ _ _ _ _ _ h.cell) (h.row.kept fun k hk hlt => (touch_D w D 2 _).block k hlt fun e => h.ne (e ▸ hk)) fun _ hk => .inl hk

theorem SAt.setLast (h : SAt W M x N I D v L bt last w) (b : Int) : SAt W M x N I D v L bt b (w.setCell ⟨D, 3, none⟩ (.int .i64 b)) :=
  h.turn ((touch_D w D 3 _).mono fun _ _ e => .inr e) (heap_setCell_same _ _ _ _ _ _ h.cell) (h.row.kept fun k hk hlt => (touch_D w D 3 _).block k hlt fun e => h.ne (e ▸ hk)) fun _ hk => .inl hk

/-- Another list, of the same array or of a new one. -/
theorem SAt.setList (h : SAt W M x N I D v L bt last w) (ht : Heap.Touch (own v) w w1) (hr : Row w1 33 6 v' L'.length (recsV L')) (ho : ∀ k, own v' k → own v k ∨ w.heap.size ≤ k) :
    SAt W M x N I D v' L' bt last (w1.setCell ⟨D, 0, none⟩ v') := by
  have hD1 : w1.heap[D]? = _ := (ht.block D h.lt h.ne).trans h.cell
  have hne : ¬ own v' D := ne_rec hD1 hr
  exact h.turn ((ht.mono fun _ _ e => .inl e).setCell (.inl (.inr rfl)) _) (by rw [heap_setCell_same _ _ _ _ _ _ hD1]; rfl) (hr.kept fun k hk hlt => (touch_D w1 D 0 _).block k hlt fun e => hne (e ▸ hk)) ho

/-- The index has been called. -/
theorem SAt.call (h : SAt W M x N I D v L bt last w) (hn : NextX W M x N' w I' w1) : ∃ M', SAt W M' x N' I' D v L bt last w1 ∧ ∀ k, M' k → M k ∨ w.heap.size ≤ k := by
  obtain ⟨⟨M', hX, hM⟩, ht⟩ := hn
  refine ⟨M', ⟨hX, (ht.block D h.lt h.mD).trans h.cell, h.row.kept fun k hk hlt => ht.block k hlt (h.vM k hk).1, fun hk => ?_, h.oldD, fun k hk => ⟨fun hm => ?_, (h.vM k hk).2⟩⟩, hM⟩
  · rcases hM D hk with e | e
    · exact h.mD e
    · have := h.lt; omega
  · rcases hM k hm with e | e
    · exact (h.vM k hk).1 e
    · have := h.row.lt k hk; omega
end
end Go.Proofs.YtbgchhgdlceceaaGreatDoor.Sto
