/- Parts of the proof, joined: (*node).drop, walked by its own recursion.; (*Index).Drop, Get, Count; New, walked.; (*node).walk, walked by its own recursion.; (*node).walk: kid by kid. -/
import Derived.Test.YthhgfdeegnimjaaGreatDoorConsumerPlaysUptoM6
import Derived.Test.YthhgfdeegnimjaaGreatDoorConsumerPlaysUptoM7
import Derived.Test.YthhgfdeegnimjaaGreatDoorConsumerPlaysUptoM9
import Derived.Test.YthhgfdeegnimjaaGreatDoorConsumerPlaysUptoM10
import Derived.StillTailTactics
namespace Go.Proofs.YthhgfdeegnimjaaGreatDoor.Idx
open Go.RowKit Heap
open Subj (Tok ML pieces StrsAt strAt Strs)

/-- What 'drop' does. -/
def DropPost (W : World) (M : Nat → Prop) (x N : Nat) (H : Hp) (cnt b : Nat) (nd : NodeP) (ts : List Tok) (w : World) (e : Ending) (w' : World) : Prop :=
  ∃ (H' : Hp) (fl : Bool) (nd' : NodeP), e = .returned (.bool fl) ∧ Next W M x N cnt w H' w' ∧ (∀ us m, Den H' x us m ↔ us ≠ nd.path ++ ts ∧ Den H x us m) ∧
    H' b = some nd' ∧ nd'.path = nd.path ∧ fl = (!nd'.has && nd'.kids.isEmpty) ∧ ∀ y ny, H y = some ny → ¬ nd.path <+: ny.path → H' y = some ny

section
variable {W w : World} {M : Nat → Prop} {x : Nat} {H : Hp} {vf : Nat → Value} {cnt N : Nat}

/-- A kid is struck: in memory. -/
theorem next_del (hG : Good N H x) (hM : IdxAt W M x H vf cnt w) {c i m : Nat} {nd : NodeP} {w5 : World} {v' : Value} (hc : H c = some nd) (hm : nd.kids.length = m + 1) (hi : i ≤ m)
    (hr : Row w5 318 1 v' m ((kidsV nd.kids).eraseIdx i)) (ht5 : Heap.Touch (own (vf c)) w w5) (ho : ∀ j, own v' j → own (vf c) j) :
    Next W M x N cnt w (delH H c nd i) (w5.setCell ⟨c, 1, none⟩ v') := by
  have hn := hM.node c nd hc
  have hn5 : w5.heap[c]? = some (nodeO x cnt c nd (vf c)) := (ht5.block c (hM.lt hc) (own_ne hn (hM.row c nd hc))).trans hn
  have htc : Heap.Touch (fun j => j = c ∨ own (vf c) j) w (w5.setCell ⟨c, 1, none⟩ v') :=
    Heap.Touch.setCell (F := fun j => j = c ∨ own (vf c) j) (p := ⟨c, 1, none⟩) (ht5.mono fun j _ h => .inr h) (.inl (.inl rfl)) _
  have hrow : Row (w5.setCell ⟨c, 1, none⟩ v') 318 1 v' ({ nd with kids := nd.kids.eraseIdx i } : NodeP).kids.length (kidsV ({ nd with kids := nd.kids.eraseIdx i } : NodeP).kids) := by
    have e1 : (nd.kids.eraseIdx i).length = m := by rw [List.length_eraseIdx]; split <;> omega
    have e2 : kidsV (nd.kids.eraseIdx i) = (kidsV nd.kids).eraseIdx i := by
      unfold kidsV
      rw [List.eraseIdx_eq_take_drop_succ, List.eraseIdx_eq_take_drop_succ]; simp [List.map_take, List.map_drop]
    show Row _ _ 1 v' (nd.kids.eraseIdx i).length (kidsV (nd.kids.eraseIdx i))
    rw [e1, e2]
    refine hr.kept fun j hj _ => ?_
    rw [Below.heap_setCell _ _ _ _ (fun e => ?_)]
    exact own_ne hn5 hr (by rw [← show j = c from e]; exact hj)
  obtain ⟨h1, h2⟩ := hM.set (nd' := { nd with kids := nd.kids.eraseIdx i }) (v' := v') hc htc (node_kids hn5 v' _) hrow (fun k hk => .inl (ho k hk))
  exact ⟨good_del hG hc, ⟨_, _, h1, fun k hk => hk.1⟩, h2⟩

theorem not_prefix_snoc (p : List Tok) (t : Tok) : ¬ (p ++ [t]) <+: p := fun h => by
  have := h.length_le
  simp at this; omega

set_option maxHeartbeats 4000000 in
set_option maxRecDepth 100000 in
theorem drop_any : ∀ (ts : List Tok) {w : World} {M : Nat → Prop} {H : Hp} {vf : Nat → Value} {b : Nat} {nd : NodeP} {v : Value}, Good N H x → IdxAt W M x H vf cnt w → N ≤ 90000 → ts.length ≤ 1048577 → H b = some nd → Go H x nd.path b → (∃ c, Go H b ts c) → Strs w v ts → (∀ g, own v g → ¬ M g) →
    Calls Tryz.prog 235 #[ptrV b, v] w (DropPost W M x N H cnt b nd ts w) := by
  intro ts
  induction ts with
  | nil =>
    intro w M H vf b nd v hG hM hN hl hb hgo _ hv _
    obtain ⟨ao, cap, rfl⟩ := hv.nil
    obtain ⟨c0, c1, c2, c3, cf⟩ := node_of (hM.node b nd hb)
    have hblt := hM.lt hb
    have hset := next_set hG hM hb false 0
    have hw1 : ((w.setCell ⟨b, 2, none⟩ (.bool false)).setCell ⟨b, 3, none⟩ (.int .i64 0)).heap[b]? = _ := node_has (hM.node b nd hb) false 0
    obtain ⟨r, hr⟩ : ∃ r, nd.kids.isEmpty = r := ⟨_, rfl⟩
    have HF := Lib.hid (show DropPost W M x N H cnt b nd [] w (.returned (.bool r)) ((w.setCell ⟨b, 2, none⟩ (.bool false)).setCell ⟨b, 3, none⟩ (.int .i64 0)) from
      ⟨_, r, _, rfl, hset, fun us m => by
        rw [den_set hG hb false 0 hgo, List.append_nil]
        constructor
        · rintro (⟨_, h, _⟩ | h)
          · cases h
          · exact h
        · exact fun h => .inr h, upd_at _ _ _, rfl, by rw [← hr]; rfl, fun y ny hy hp => by
        have hne : y ≠ b := fun e => by subst e; rw [hb] at hy; cases hy; exact hp (List.prefix_refl _)
        rw [upd_ne _ _ hne]; exact hy⟩)
    obtain ⟨ka, kc, hk⟩ := (hM.row b nd hb).slice
    have hlen : (((nd.kids.length : Nat) : Int) == 0) = r := by rw [← hr]; cases nd.kids <;> simp; omega
    have HLEN := Lib.hid hlen
    rw [hk] at c1
    clear hG hM hN hl hb hgo hv hset hw1 hr hk hlen
    generalize nd.kids.length = m at *
    go_enter Tryz.func235, Tryz.ntmps235
    go_wp2_with fail
    all_goals
      go_ret
      rw [← HLEN.out] at HF
      first | exact HF.out | trace_state
  | cons t ts ih =>
    intro w M H vf b nd v hG hM hN hl hb hgo hex hv hown
    obtain ⟨g, off, cap, rfl, hcap, hct, hvs⟩ := hv.cons
    obtain ⟨c, hgc⟩ := hex
    cases hgc with
    | @cons _ k _ _ _ hst hgk =>
    have hst0 := hst
    obtain ⟨nd0, e0, hkm, hkt⟩ := hst0
    rw [hb] at e0; cases e0
    obtain ⟨kd, hkd, hkp⟩ := hG.kid b nd k hb hkm
    have hkt' : kd.tok = t := by rw [← tokH_some hkd]; exact hkt
    rw [hkt'] at hkp
    have hgk0 : Go H x kd.path k := by rw [hkp]; exact go_app hgo (go_one hst)
    have HPL := Lib.hid (place_any hG hM hb (by omega) t)
    have hglt := World.block_lt_of_cell? w _ hct
    have hrec := fun (w2 : World) (hb2 : Below w.heap.size w w2) => ih (w := w2.drew) hG ((hM.next hb2).next (Below.refl _ _).drew) hN (by simp at hl; omega) hkd hgk0 ⟨c, hgk⟩ (show Strs w2.drew _ ts from (hvs.below hb2.drew)) (by
      intro j hj
      refine hown j ?_
      by_cases hc1 : cap = 1
      · rw [if_pos hc1] at hj; exact hj
      · rw [if_neg hc1] at hj; exact hj)
    have hfind : ∀ (i : Nat) (fd : Bool), Placed H nd.kids t i fd → fd = true ∧ nd.kids[i]? = some k ∧ i < nd.kids.length := fun i fd hp => by
      cases fd with
      | false => exact absurd hkt (hp.no rfl k hkm)
      | true =>
        obtain ⟨k', h1, h2⟩ := hp.yes rfl
        have := hG.step_det hst ⟨nd, hb, List.mem_of_getElem? h1, h2⟩
        subst this
        exact ⟨rfl, h1, (List.getElem?_eq_some_iff.1 h1).1⟩
    have HG := Lib.hid hG; have HM := Lib.hid hM; have HB := Lib.hid hb; have HREC := Lib.hid hrec; have HFI := Lib.hid hfind; have HKD := Lib.hid hkd; have HKP := Lib.hid hkp
    have hfew := hG.few b nd hb
    have hblt := hM.lt hb
    have hn0 : (((ts.length : Nat) : Int) + 1 == 0) = false := by simp; omega
    simp only [List.length_cons] at hl
    have HKM := Lib.hid hkm
    clear hG hM hb hgo hv hvs hown hgk hst hkm hkt hkd hkp hkt' hgk0 hrec hfind ih
    go_enter Tryz.func235, Tryz.ntmps235
    go_wp2_with fail
    refine HPL.out.mono ?_
    rintro e w2 ⟨i, fd, rfl, hp, hb2⟩
    obtain ⟨rfl, hik, hil⟩ := HFI.out i fd hp
    clear hp HPL HFI
    have hM2 := HM.out.next hb2
    obtain ⟨c0, c1, c2, c3, cf⟩ := node_of (hM2.node b nd HB.out)
    have hblt2 := hM2.lt HB.out
    obtain ⟨gk, offk, capk, ev, hcapk, hcell⟩ : ∃ gk off cap, vf b = .slice (some ⟨gk, off, none⟩) nd.kids.length cap ∧ nd.kids.length ≤ cap ∧ w2.cell? ⟨gk, off + i, none⟩ = some (.pointer (some ⟨k, 0, none⟩)) := by
      have hrow := hM2.row b nd HB.out
      rcases hrow.2 with ⟨_, h0⟩ | ⟨gk, off, cap, cur, ev, hg, h1, _⟩
      · omega
      · rw [ev] at hrow
        exact ⟨gk, off, cap, ev, h1, by rw [(hrow.cell i (by omega)).1, kidsV_get, hik]; rfl⟩
    rw [ev] at c1
    have HRC := Lib.hid (HREC.out w2 hb2)
    have HB2 := Lib.hid hb2; have HIK := Lib.hid hik; have HM2 := Lib.hid hM2
    clear HREC hb2 hik hM2 c0 c2 c3
    have hil2 : (i : Int) < (nd.kids.length : Nat) := by omega
    obtain ⟨m, hm⟩ : ∃ m, nd.kids.length = m + 1 := ⟨nd.kids.length - 1, by omega⟩
    have HMM := Lib.hid hm
    rw [hm] at c1 hil hil2 hcapk hfew
    have hil3 : (i : Int) < (m : Int) + 1 := by omega
    have hq1 : (1 : Int) ≤ ((ts.length : Nat) : Int) + 1 := by omega
    have hq2 : ((ts.length : Nat) : Int) + 1 ≤ (cap : Int) := by omega
    have hq3 : 1 ≤ ts.length + 1 := by omega
    clear hm ev
    generalize hql : ts.length = q at hq1 hq2 hq3 hcap hl hn0 HRC ⊢
    by_cases hc1 : cap = 1
    · subst hc1
      obtain rfl : q = 0 := by omega
      rw [if_pos rfl, show 1 - 1 = 0 from rfl] at HRC
      go_wp2_with fail
      go_still_tail 9, (by kernel_rfl)
      change wpList _ _ _ _ _ w2.drew
      go_wp2_with fail
      with_reducible refine HRC.out.mono ?_
      rintro e w3 ⟨H1, fl, kd1, rfl, hnx, hden, hk1, hkp1, hfl, hfr⟩
      have hb1 : H1 b = some nd := hfr b nd HB.out (by rw [HKP.out]; exact not_prefix_snoc _ _)
      have hnx0 := hnx.from (HB2.out.trans ((Below.refl _ _).drew.mono HB2.out.size))
      obtain ⟨hG1, ⟨M1, vf1, hM1, hs1⟩, ht1⟩ := hnx0
      obtain ⟨d0, d1, d2, d3, df⟩ := node_of (hM1.node b nd hb1)
      have hblt3 := hM1.lt hb1
      obtain ⟨gj, offj, capj, ev, hcapj⟩ : ∃ gk off cap, vf1 b = .slice (some ⟨gk, off, none⟩) nd.kids.length cap ∧ nd.kids.length ≤ cap := by
        have hrow := hM1.row b nd hb1
        have := HMM.out
        rcases hrow.2 with ⟨_, h0⟩ | ⟨gk, off, cap, cur, ev, hg, h1, _⟩
        · omega
        · exact ⟨gk, off, cap, ev, h1⟩
      rw [HMM.out] at ev hcapj
      have hm0 : (((m : Nat) : Int) + 1 == 0) = false := by simp; omega
      have hdenP : ∀ us mm, Den H1 x us mm ↔ us ≠ nd.path ++ t :: ts ∧ Den H x us mm := fun us mm => by
        rw [hden, HKP.out, List.append_assoc]; rfl
      have hfrP : ∀ y ny, H y = some ny → ¬ nd.path <+: ny.path → H1 y = some ny := fun y ny hy hp => hfr y ny hy (fun h => hp (by rw [HKP.out] at h; exact (List.prefix_append _ _).trans h))
      clear c1 hcell HRC hnx hden hfr
      cases fl with
      | false =>
        have hne : nd.kids.isEmpty = false := by have := HMM.out; cases h : nd.kids with | nil => rw [h] at this; simp at this | cons a l => rfl
        have HF := Lib.hid (show DropPost W M x N H cnt b nd (t :: ts) w (.returned (.bool false)) w3 from ⟨H1, false, nd, rfl, ⟨hG1, ⟨M1, vf1, hM1, hs1⟩, ht1⟩, hdenP, hb1, rfl, by rw [hne, Bool.and_false], hfrP⟩)
        rw [ev] at d1
        clear hdenP hfrP hM1 hG1 hs1 ht1 hk1 hkp1 hfl hb1 hne ev d0 d3
        cases hh : nd.has with
        | true =>
          rw [hh] at d2
          clear hh
          go_wp2_with fail
          go_ret
          exact HF.out
        | false =>
          rw [hh] at d2
          clear hh
          go_wp2_with fail
          go_ret
          exact HF.out
      | true =>
        obtain ⟨hkh, hkk⟩ : kd1.has = false ∧ kd1.kids = [] := by
          simp only [Bool.true_eq, Bool.and_eq_true, Bool.not_eq_true', List.isEmpty_iff] at hfl
          exact hfl
        have hkb : k ≠ b := fun e => by
          subst e
          have h1 := HKD.out
          rw [HB.out] at h1
          cases h1
          have := congrArg List.length HKP.out
          simp at this
        have hrow1 := hM1.row b nd hb1
        rw [ev, HMM.out] at hrow1
        have HDE := Lib.hid (Ins.delete_any (i := i) gj offj capj (by omega) (by omega) hrow1 (kidsV_one _))
        have hdd := fun us mm => den_del (i := i) (b := x) (ts := us) (m := mm) hb1 HIK.out hk1 hkk hkh hkb
        have hndel := fun (w5 : World) (v' : Value) hr5 ht5 ho => next_del (i := i) (w5 := w5) (v' := v') hG1 hM1 hb1 HMM.out (by omega) hr5 ht5 ho
        have hblk := hM1.node b nd hb1
        have hown1 := own_ne hblk (hM1.row b nd hb1)
        rw [ev] at d1 hown1 hblk
        have HND := Lib.hid hndel; have HDD := Lib.hid hdd; have HBK := Lib.hid hblk; have HOW := Lib.hid hown1; have HDP := Lib.hid hdenP; have HFP := Lib.hid hfrP; have HS1 := Lib.hid hs1; have HNX := Lib.hid (show Next W M x N cnt w H1 w3 from ⟨hG1, ⟨M1, vf1, hM1, hs1⟩, ht1⟩); have HEV := Lib.hid ev; have HB1 := Lib.hid hb1
        clear hdenP hfrP hM1 hG1 hs1 ht1 hk1 hkp1 hfl hb1 ev hrow1 hdd hndel hblk hown1 d0 d2 d3 hkh hkk
        have hwi : IntKind.i64.wrap ((i : Int) + 1) = (i : Int) + 1 := IntWalk.i64_in _ (by omega)
        go_wp2_with fail
        with_reducible refine HDE.out.mono ?_
        rintro e w5 ⟨rfl, hr5, ht5⟩
        have hn5 := (ht5.block b (heap_lt HBK.out) HOW.out).trans HBK.out
        have hnx2 := HND.out w5 _ hr5 (by rw [HEV.out]; exact ht5) (fun j hj => by rw [HEV.out]; simp only [own, Value.ownBlock] at hj ⊢; exact hj)
        obtain ⟨d0, d1, d2, d3, df5⟩ := node_of hn5
        have hblt5 := heap_lt hn5
        have hnb : (({ nd with kids := nd.kids.eraseIdx i } : NodeP).kids.isEmpty) = decide (m = 0) := by
          have h1 : (nd.kids.eraseIdx i).length = m := by have := HMM.out; rw [List.length_eraseIdx]; split <;> omega
          show (nd.kids.eraseIdx i).isEmpty = _
          cases h2 : nd.kids.eraseIdx i with
          | nil => rw [h2] at h1; simp at h1; simp [← h1]
          | cons a l => rw [h2] at h1; simp at h1; simp; omega
        have hF := fun (fl : Bool) (hfl : fl = (!nd.has && decide (m = 0))) => (show DropPost W M x N H cnt b nd (t :: ts) w (.returned (.bool fl)) (w5.setCell ⟨b, 1, none⟩ (.slice (some ⟨gj, offj, none⟩) m capj)) from
          ⟨_, fl, _, rfl, HNX.out.trans HS1.out hnx2, fun us mm => (HDD.out us mm).trans (HDP.out us mm), upd_at _ _ _, rfl, by rw [hnb]; exact hfl, fun y ny hy hp => by
            have hne : y ≠ b := fun e => by subst e; rw [HB.out] at hy; cases hy; exact hp (List.prefix_refl _)
            unfold delH
            rw [upd_ne _ _ hne]; exact HFP.out y ny hy hp⟩)
        have HF := Lib.hid hF
        clear hF hnb hnx2 hr5 ht5 hn5 d0 d3 HDE HND HDD HBK HOW HDP HFP HS1 HNX HEV HB1
        have hmz : (((m : Nat) : Int) == 0) = decide (m = 0) := Subj.nat_beq_zero m
        cases hh : nd.has with
        | true =>
          rw [hh] at d2
          have HX := Lib.hid (HF.out false (by rw [hh]; rfl))
          clear hh HF
          go_wp2_with fail
          go_ret
          exact HX.out
        | false =>
          rw [hh] at d2
          have HX := Lib.hid (HF.out (decide (m = 0)) (by rw [hh]; rfl))
          rw [← hmz] at HX
          clear hh HF hmz
          go_wp2_with fail
          go_ret
          exact HX.out
    · rw [if_neg hc1] at HRC
      go_wp2_with fail
      go_still_tail 9, (by kernel_rfl)
      change wpList _ _ _ _ _ w2.drew
      go_wp2_with fail
      with_reducible refine HRC.out.mono ?_
      rintro e w3 ⟨H1, fl, kd1, rfl, hnx, hden, hk1, hkp1, hfl, hfr⟩
      have hb1 : H1 b = some nd := hfr b nd HB.out (by rw [HKP.out]; exact not_prefix_snoc _ _)
      have hnx0 := hnx.from (HB2.out.trans ((Below.refl _ _).drew.mono HB2.out.size))
      obtain ⟨hG1, ⟨M1, vf1, hM1, hs1⟩, ht1⟩ := hnx0
      obtain ⟨d0, d1, d2, d3, df⟩ := node_of (hM1.node b nd hb1)
      have hblt3 := hM1.lt hb1
      obtain ⟨gj, offj, capj, ev, hcapj⟩ : ∃ gk off cap, vf1 b = .slice (some ⟨gk, off, none⟩) nd.kids.length cap ∧ nd.kids.length ≤ cap := by
        have hrow := hM1.row b nd hb1
        have := HMM.out
        rcases hrow.2 with ⟨_, h0⟩ | ⟨gk, off, cap, cur, ev, hg, h1, _⟩
        · omega
        · exact ⟨gk, off, cap, ev, h1⟩
      rw [HMM.out] at ev hcapj
      have hm0 : (((m : Nat) : Int) + 1 == 0) = false := by simp; omega
      have hdenP : ∀ us mm, Den H1 x us mm ↔ us ≠ nd.path ++ t :: ts ∧ Den H x us mm := fun us mm => by
        rw [hden, HKP.out, List.append_assoc]; rfl
      have hfrP : ∀ y ny, H y = some ny → ¬ nd.path <+: ny.path → H1 y = some ny := fun y ny hy hp => hfr y ny hy (fun h => hp (by rw [HKP.out] at h; exact (List.prefix_append _ _).trans h))
      clear c1 hcell HRC hnx hden hfr
      cases fl with
      | false =>
        have hne : nd.kids.isEmpty = false := by have := HMM.out; cases h : nd.kids with | nil => rw [h] at this; simp at this | cons a l => rfl
        have HF := Lib.hid (show DropPost W M x N H cnt b nd (t :: ts) w (.returned (.bool false)) w3 from ⟨H1, false, nd, rfl, ⟨hG1, ⟨M1, vf1, hM1, hs1⟩, ht1⟩, hdenP, hb1, rfl, by rw [hne, Bool.and_false], hfrP⟩)
        rw [ev] at d1
        clear hdenP hfrP hM1 hG1 hs1 ht1 hk1 hkp1 hfl hb1 hne ev d0 d3
        cases hh : nd.has with
        | true =>
          rw [hh] at d2
          clear hh
          go_wp2_with fail
          go_ret
          exact HF.out
        | false =>
          rw [hh] at d2
          clear hh
          go_wp2_with fail
          go_ret
          exact HF.out
      | true =>
        obtain ⟨hkh, hkk⟩ : kd1.has = false ∧ kd1.kids = [] := by
          simp only [Bool.true_eq, Bool.and_eq_true, Bool.not_eq_true', List.isEmpty_iff] at hfl
          exact hfl
        have hkb : k ≠ b := fun e => by
          subst e
          have h1 := HKD.out
          rw [HB.out] at h1
          cases h1
          have := congrArg List.length HKP.out
          simp at this
        have hrow1 := hM1.row b nd hb1
        rw [ev, HMM.out] at hrow1
        have HDE := Lib.hid (Ins.delete_any (i := i) gj offj capj (by omega) (by omega) hrow1 (kidsV_one _))
        have hdd := fun us mm => den_del (i := i) (b := x) (ts := us) (m := mm) hb1 HIK.out hk1 hkk hkh hkb
        have hndel := fun (w5 : World) (v' : Value) hr5 ht5 ho => next_del (i := i) (w5 := w5) (v' := v') hG1 hM1 hb1 HMM.out (by omega) hr5 ht5 ho
        have hblk := hM1.node b nd hb1
        have hown1 := own_ne hblk (hM1.row b nd hb1)
        rw [ev] at d1 hown1 hblk
        have HND := Lib.hid hndel; have HDD := Lib.hid hdd; have HBK := Lib.hid hblk; have HOW := Lib.hid hown1; have HDP := Lib.hid hdenP; have HFP := Lib.hid hfrP; have HS1 := Lib.hid hs1; have HNX := Lib.hid (show Next W M x N cnt w H1 w3 from ⟨hG1, ⟨M1, vf1, hM1, hs1⟩, ht1⟩); have HEV := Lib.hid ev; have HB1 := Lib.hid hb1
        clear hdenP hfrP hM1 hG1 hs1 ht1 hk1 hkp1 hfl hb1 ev hrow1 hdd hndel hblk hown1 d0 d2 d3 hkh hkk
        have hwi : IntKind.i64.wrap ((i : Int) + 1) = (i : Int) + 1 := IntWalk.i64_in _ (by omega)
        go_wp2_with fail
        with_reducible refine HDE.out.mono ?_
        rintro e w5 ⟨rfl, hr5, ht5⟩
        have hn5 := (ht5.block b (heap_lt HBK.out) HOW.out).trans HBK.out
        have hnx2 := HND.out w5 _ hr5 (by rw [HEV.out]; exact ht5) (fun j hj => by rw [HEV.out]; simp only [own, Value.ownBlock] at hj ⊢; exact hj)
        obtain ⟨d0, d1, d2, d3, df5⟩ := node_of hn5
        have hblt5 := heap_lt hn5
        have hnb : (({ nd with kids := nd.kids.eraseIdx i } : NodeP).kids.isEmpty) = decide (m = 0) := by
          have h1 : (nd.kids.eraseIdx i).length = m := by have := HMM.out; rw [List.length_eraseIdx]; split <;> omega
          show (nd.kids.eraseIdx i).isEmpty = _
          cases h2 : nd.kids.eraseIdx i with
          | nil => rw [h2] at h1; simp at h1; simp [← h1]
          | cons a l => rw [h2] at h1; simp at h1; simp; omega
        have hF := fun (fl : Bool) (hfl : fl = (!nd.has && decide (m = 0))) => (show DropPost W M x N H cnt b nd (t :: ts) w (.returned (.bool fl)) (w5.setCell ⟨b, 1, none⟩ (.slice (some ⟨gj, offj, none⟩) m capj)) from
          ⟨_, fl, _, rfl, HNX.out.trans HS1.out hnx2, fun us mm => (HDD.out us mm).trans (HDP.out us mm), upd_at _ _ _, rfl, by rw [hnb]; exact hfl, fun y ny hy hp => by
            have hne : y ≠ b := fun e => by subst e; rw [HB.out] at hy; cases hy; exact hp (List.prefix_refl _)
            unfold delH
            rw [upd_ne _ _ hne]; exact HFP.out y ny hy hp⟩)
        have HF := Lib.hid hF
        clear hF hnb hnx2 hr5 ht5 hn5 d0 d3 HDE HND HDD HBK HOW HDP HFP HS1 HNX HEV HB1
        have hmz : (((m : Nat) : Int) == 0) = decide (m = 0) := Subj.nat_beq_zero m
        cases hh : nd.has with
        | true =>
          rw [hh] at d2
          have HX := Lib.hid (HF.out false (by rw [hh]; rfl))
          clear hh HF
          go_wp2_with fail
          go_ret
          exact HX.out
        | false =>
          rw [hh] at d2
          have HX := Lib.hid (HF.out (decide (m = 0)) (by rw [hh]; rfl))
          rw [← hmz] at HX
          clear hh HF hmz
          go_wp2_with fail
          go_ret
          exact HX.out
end
end Go.Proofs.YthhgfdeegnimjaaGreatDoor.Idx

namespace Go.Proofs.YthhgfdeegnimjaaGreatDoor.Idx
open Go.RowKit Heap
open Subj (Tok ML pieces StrsAt strAt Strs)

/-- What 'Drop' does. -/
def DropAllPost (W : World) (M : Nat → Prop) (x N : Nat) (H : Hp) (cnt : Nat) (er : Nat) (ts : List Tok) (w : World) (e : Ending) (w' : World) : Prop :=
  ∃ (H' : Hp) (cnt' r : Nat), e = .returned (.int .i64 r) ∧ Next W M x N cnt' w H' w' ∧
    ((er ≠ 0 ∧ r = er ∧ cnt' = cnt ∧ SameDen H H' x) ∨
     (er = 0 ∧ (∀ m, ¬ Den H x ts m) ∧ r = 4 ∧ cnt' = cnt ∧ SameDen H H' x) ∨
     (er = 0 ∧ (∃ m, Den H x ts m) ∧ r = 0 ∧ cnt' = cnt - 1 ∧ ∀ us m, Den H' x us m ↔ us ≠ ts ∧ Den H x us m))

/-- What 'Get' answers. -/
def GetPost (H : Hp) (x er : Nat) (ts : List Tok) (w : World) (e : Ending) (w' : World) : Prop :=
  Below w.heap.size w w' ∧ ∃ (a : Int) (r : Nat), e = .returned (.tuple #[.int .i64 a, .int .i64 r]) ∧
    ((er ≠ 0 ∧ a = 0 ∧ r = er) ∨ (er = 0 ∧ (∀ m, ¬ Den H x ts m) ∧ a = 0 ∧ r = 4) ∨ (er = 0 ∧ Den H x ts a ∧ r = 0))

section
variable {W w : World} {M : Nat → Prop} {x : Nat} {H : Hp} {vf : Nat → Value} {cnt N : Nat}

theorem count_any (hG : Good N H x) (hM : IdxAt W M x H vf cnt w) :
    Calls Tryz.prog 148 #[ptrV x] w fun e w' => e = .returned (.int .i64 cnt) ∧ w = w' := by
  obtain ⟨rd, hrd, _⟩ := hG.root
  have hroot := root_of (hM.node x rd hrd)
  have hx := hM.lt hrd
  clear hG hM hrd
  go_enter Tryz.func148, Tryz.ntmps148
  go_wp2
  go_ret
  exact ⟨rfl, rfl⟩

/-- What is told of a node: by whether it is there, and has something. -/
theorem found_cases (hG : Good N H x) {ts : List Tok} {e : Ending} (h : Found H x ts e) :
    (∃ c nd, e = .returned (ptrV c) ∧ Go H x ts c ∧ H c = some nd ∧ nd.has = true ∧ Den H x ts nd.n) ∨ (∃ c nd, e = .returned (ptrV c) ∧ H c = some nd ∧ nd.has = false ∧ ∀ m, ¬ Den H x ts m) ∨ (e = .returned (.pointer none) ∧ ∀ m, ¬ Den H x ts m) := by
  rcases h with ⟨c, nd, rfl, h1, h2⟩ | ⟨rfl, h1⟩
  · cases hh : nd.has with
    | true => exact .inl ⟨c, nd, rfl, h1, h2, hh, c, nd, h1, h2, hh, rfl⟩
    | false =>
      refine .inr (.inl ⟨c, nd, rfl, h2, hh, ?_⟩)
      rintro m ⟨c', nd', g', e', h', _⟩
      have := hG.go_det h1 g'
      subst this
      rw [h2] at e'; cases e'
      rw [hh] at h'; cases h'
  · exact .inr (.inr ⟨rfl, fun m ⟨c', nd', g', _⟩ => h1 c' g'⟩)

set_option maxHeartbeats 4000000 in
set_option maxRecDepth 100000 in
theorem get_any (hG : Good N H x) (hM : IdxAt W M x H vf cnt w) (hN : N ≤ 90000) (hm : ML W) (s : ByteArray) (hs : s.size ≤ 1048576) :
    Calls Tryz.prog 147 #[ptrV x, .string s] w (GetPost H x (Subj.err false s.data.toList) (pieces s.data.toList) w) := by
  have HSU := Lib.hid (Subj.subject_any s w hs (hm.below hM.below))
  have HFI := Lib.hid (fun w1 (hb : Below w.heap.size w w1) => find_any hG (hM.next hb) (by omega) (hm.below (hM.next hb).below) s hs)
  generalize Subj.err false s.data.toList = er at *
  generalize pieces s.data.toList = l at *
  have HG := Lib.hid hG; have HM := Lib.hid hM
  clear hG hM hm hs
  go_enter Tryz.func147, Tryz.ntmps147
  go_wp2_with fail
  refine HSU.out.mono ?_
  rintro e w1 ⟨rfl, hb1⟩
  have HB1 := Lib.hid hb1
  clear hb1 HSU
  by_cases he : er = 0
  · subst he
    go_wp2_with fail
    refine (HFI.out w1 HB1.out).mono ?_
    rintro e w2 ⟨hfd, hb2⟩
    have HB2 := Lib.hid (HB1.out.trans (hb2.mono HB1.out.size))
    have HM2 := Lib.hid (HM.out.next HB2.out)
    clear hb2 HFI HB1
    rcases found_cases HG.out hfd with ⟨c, nd, rfl, _, hnd, hh, hden⟩ | ⟨c, nd, rfl, hnd, hh, hno⟩ | ⟨rfl, hno⟩
    · obtain ⟨c0, c1, c2, c3, cf⟩ := node_of (HM2.out.node c nd hnd)
      have hclt := HM2.out.lt hnd
      rw [hh] at c2
      have HD := Lib.hid hden
      clear hfd hnd hh hden c0 c1
      go_wp2_with fail
      go_ret2
      exact ⟨HB2.out, nd.n, 0, rfl, .inr (.inr ⟨rfl, HD.out, rfl⟩)⟩
    · obtain ⟨c0, c1, c2, c3, cf⟩ := node_of (HM2.out.node c nd hnd)
      have hclt := HM2.out.lt hnd
      rw [hh] at c2
      have HD := Lib.hid hno
      clear hfd hnd hh hno c0 c1
      go_wp2_with fail
      go_ret2
      exact ⟨HB2.out, 0, 4, rfl, .inr (.inl ⟨rfl, HD.out, rfl, rfl⟩)⟩
    · have HD := Lib.hid hno
      clear hfd hno
      go_wp2_with fail
      go_ret2
      exact ⟨HB2.out, 0, 4, rfl, .inr (.inl ⟨rfl, HD.out, rfl, rfl⟩)⟩
  · have he0 : ((er : Int) != 0) = true := by simpa using he
    have HE := Lib.hid he
    clear he
    go_wp2_with fail
    go_ret2
    exact ⟨HB1.out, 0, er, rfl, .inl ⟨HE.out, rfl, rfl⟩⟩

set_option maxHeartbeats 4000000 in
set_option maxRecDepth 100000 in
theorem dropAll_any (hG : Good N H x) (hM : IdxAt W M x H vf cnt w) (hN : N ≤ 90000) (hm : ML W) (s : ByteArray) (hs : s.size ≤ 1048576) (hc : cnt ≤ 100) (hpos : (∃ ts m, Den H x ts m) → 1 ≤ cnt) :
    Calls Tryz.prog 149 #[ptrV x, .string s] w (DropAllPost W M x N H cnt (Subj.err false s.data.toList) (pieces s.data.toList) w) := by
  have HSU := Lib.hid (Subj.subject_any s w hs (hm.below hM.below))
  have HFI := Lib.hid (fun w1 (hb : Below w.heap.size w w1) => find_any hG (hM.next hb) (by omega) (hm.below (hM.next hb).below) s hs)
  have HSP := Lib.hid (fun w1 hm1 => split_dot s w1 hs hm1)
  have hpl := Subj.pieces_size s hs
  have hne := Subj.pieces_ne s.data.toList
  generalize Subj.err false s.data.toList = er at *
  generalize pieces s.data.toList = l at *
  obtain ⟨rd, hrd, hrp⟩ := hG.root
  have hx := hM.lt hrd
  have HG := Lib.hid hG; have HM := Lib.hid hM; have HRD := Lib.hid hrd; have HML := Lib.hid hm; have HPO := Lib.hid hpos; have HRP := Lib.hid hrp; have HNE := Lib.hid hne
  clear hG hM hm hs hrd hpos hrp hne
  go_enter Tryz.func149, Tryz.ntmps149
  go_wp2_with fail
  refine HSU.out.mono ?_
  rintro e w1 ⟨rfl, hb1⟩
  have HB1 := Lib.hid hb1
  clear hb1 HSU
  by_cases he : er = 0
  · subst he
    go_wp2_with fail
    refine (HFI.out w1 HB1.out).mono ?_
    rintro e w2 ⟨hfd, hb2⟩
    have HB2 := Lib.hid (HB1.out.trans (hb2.mono HB1.out.size))
    have HM2 := Lib.hid (HM.out.next HB2.out)
    clear hb2 HFI HB1
    have HNO := Lib.hid (fun (hno : ∀ m, ¬ Den H x l m) => show DropAllPost W M x N H cnt 0 l w (.returned (.int .i64 4)) w2 from ⟨H, cnt, 4, rfl, (Next.refl HG.out HM.out).below' HB2.out, .inr (.inl ⟨rfl, hno, rfl, rfl, fun _ _ => Iff.rfl⟩)⟩)
    rcases found_cases HG.out hfd with ⟨c, nd, rfl, hgo, hnd, hh, hden⟩ | ⟨c, nd, rfl, hnd, hh, hno⟩ | ⟨rfl, hno⟩
    · obtain ⟨c0, c1, c2, c3, cf⟩ := node_of (HM2.out.node c nd hnd)
      have hclt := HM2.out.lt hnd
      rw [hh] at c2
      have hcp : 1 ≤ cnt := HPO.out ⟨l, nd.n, hden⟩
      have HD := Lib.hid hden; have HGO := Lib.hid hgo
      have HSP2 := Lib.hid (HSP.out w2.drew (HML.out.below ((HM2.out.next (Below.refl _ _).drew).below)))
      obtain ⟨g, hgg⟩ : ∃ g, w2.drew.heap.size = g := ⟨_, rfl⟩
      have HDR := Lib.hid (fun (w3 : World) (hst : StrsAt w3 g 0 l) (hb3 : Below w2.drew.heap.size w2.drew w3) => drop_any (N := N) l (v := .slice (some ⟨g, 0, none⟩) l.length l.length) HG.out ((HM2.out.next (Below.refl _ _).drew).next hb3) hN hpl HRD.out (by rw [HRP.out]; exact .nil x) ⟨c, HGO.out⟩ ⟨_, l.length, rfl, Nat.le_refl _, fun _ => ⟨g, 0, rfl, hst⟩⟩ (fun j hj hMj => by
        simp only [own, Value.ownBlock, Option.some.injEq] at hj
        have := (HM2.out.next (Below.refl _ _).drew).bM j hMj
        omega))
      have hgw : w.heap.size ≤ g := by rw [← hgg]; exact HB2.out.size
      rw [hgg] at HSP2 HDR
      have HBB := Lib.hid (show Below w.heap.size w w2.drew from HB2.out.drew)
      clear hfd hnd hh hden hgo c0 c1 c3 HNO HSP hgg
      go_wp2_with fail
      go_region_with (first
        | (go_at_call 115; (with_reducible refine HSP2.out.mono ?_); rintro e w3 ⟨rfl, hst, hb3⟩; have HST := Lib.hid hst; have HB3 := Lib.hid hb3; clear hst hb3)
        | (go_at_call 235; (with_reducible refine (HDR.out _ HST.out HB3.out).mono ?_); rintro e w4 ⟨H1, fl, nd', rfl, hnx, hdn, hb1, _, _, _⟩))
      have hnx0 := hnx.from (HBB.out.trans (HB3.out.mono hgw))
      obtain ⟨hG1, ⟨M1, vf1, hM1, hs1⟩, ht1⟩ := hnx0
      have hroot := root_of (hM1.node x nd' hb1)
      obtain ⟨d0, d1, d2, d3, df⟩ := node_of (hM1.node x nd' hb1)
      have hx4 := hM1.lt hb1
      obtain ⟨hM5, ht5⟩ := hM1.count hb1 (cnt - 1)
      rw [show ((cnt - 1 : Nat) : Int) = (cnt : Int) - 1 by omega] at hM5 ht5
      have HF := Lib.hid (show DropAllPost W M x N H cnt 0 l w (.returned (.int .i64 0)) (w4.setCell ⟨x, 4, none⟩ (.int .i64 ((cnt : Int) - 1))) from
        ⟨H1, cnt - 1, 0, rfl, ⟨hG1, ⟨M1, vf1, hM5, hs1⟩, ht1.trans ht5 fun k hk hf => by
          rcases hs1 k hf with h | h
          · exact h
          · omega⟩, .inr (.inr ⟨rfl, ⟨_, HD.out⟩, rfl, rfl, fun us m => by rw [hdn, HRP.out]; rfl⟩)⟩)
      have hwr : IntKind.i64.wrap ((cnt : Int) - 1) = (cnt : Int) - 1 := IntWalk.i64_in _ (by omega)
      clear hnx hdn hG1 hM1 hs1 ht1 hM5 ht5 hb1 d0 d1 d2 d3
      go_wp2_with fail
      go_ret
      exact HF.out
    · obtain ⟨c0, c1, c2, c3, cf⟩ := node_of (HM2.out.node c nd hnd)
      have hclt := HM2.out.lt hnd
      rw [hh] at c2
      have HD := Lib.hid (HNO.out hno)
      clear hfd hnd hh hno c0 c1 HNO
      go_wp2_with fail
      go_ret
      exact HD.out
    · have HD := Lib.hid (HNO.out hno)
      clear hfd hno HNO
      go_wp2_with fail
      go_ret
      exact HD.out
  · have he0 : ((er : Int) != 0) = true := by simpa using he
    have HF := Lib.hid (show DropAllPost W M x N H cnt er l w (.returned (.int .i64 er)) w1 from ⟨H, cnt, er, rfl, (Next.refl HG.out HM.out).below' HB1.out, .inl ⟨he, rfl, rfl, fun _ _ => Iff.rfl⟩⟩)
    clear he
    go_wp2_with fail
    go_ret
    exact HF.out
end

/-! ### New -/
def newH (x : Nat) : Hp := fun b => if b = x then some ⟨[], [], false, 0, []⟩ else none

theorem good_new (x : Nat) : Good 0 (newH x) x := by
  have key : ∀ b nd, newH x b = some nd → b = x ∧ nd = ⟨[], [], false, 0, []⟩ := by
    intro b nd h
    unfold newH at h
    split at h
    · rename_i e; cases h; exact ⟨e, rfl⟩
    · cases h
  refine ⟨⟨_, if_pos rfl, rfl⟩, fun b nd h => ?_, fun b nd h t ht => ?_, fun b nd k h hk => ?_, fun b nd h => ?_, fun b nd h => ?_⟩
  all_goals obtain ⟨rfl, rfl⟩ := key _ _ h
  · simp
  · simp at ht
  · simp at hk
  · exact List.Pairwise.nil
  · simp

theorem den_new (x : Nat) (ts : List Tok) (m : Int) : ¬ Den (newH x) x ts m := by
  rintro ⟨c, nd, g, e, h, _⟩
  unfold newH at e
  split at e
  · cases e; cases h
  · cases e

theorem idx_new {W w : World} (hb : Below W.heap.size W w) :
    IdxAt W (fun k => k = w.heap.size) w.heap.size (newH w.heap.size) (fun _ => .slice none 0 0) 0 (w.alloc (.cells #[.string ⟨#[]⟩, .slice none 0 0, .bool false, .int .i64 0, .int .i64 0] 236)) := by
  have key : ∀ b nd, newH w.heap.size b = some nd → b = w.heap.size ∧ nd = ⟨[], [], false, 0, []⟩ := by
    intro b nd h
    unfold newH at h
    split at h
    · rename_i e; cases h; exact ⟨e, rfl⟩
    · cases h
  refine ⟨hb.alloc hb.size _, fun k hk => by subst hk; exact hb.size, fun k hk => by subst hk; simp, fun b nd h => ?_, fun b nd h => ?_, fun b nd h => ?_, fun b nd c nc k h1 h2 _ _ => ?_⟩
  · obtain ⟨rfl, rfl⟩ := key _ _ h
    rw [heap_alloc_new]
    unfold nodeO
    rw [if_pos rfl]; rfl
  · obtain ⟨rfl, rfl⟩ := key _ _ h
    exact Row.nil _ _ _
  · obtain ⟨rfl, rfl⟩ := key _ _ h
    exact ⟨rfl, fun k hk => by simp [own, Value.ownBlock] at hk⟩
  · rw [(key _ _ h1).1, (key _ _ h2).1]

theorem new_any (w : World) : Calls Tryz.prog 49 #[] w fun e w' => e = .returned (ptrV w.heap.size) ∧ w' = w.alloc (.cells #[.string ⟨#[]⟩, .slice none 0 0, .bool false, .int .i64 0, .int .i64 0] 236) := by
  go_enter Tryz.func49, Tryz.ntmps49
  go_wp2
  go_ret
  exact ⟨rfl, rfl⟩
end Go.Proofs.YthhgfdeegnimjaaGreatDoor.Idx

namespace Go.Proofs.YthhgfdeegnimjaaGreatDoor.Idx
open Go.RowKit Heap
open Subj (Tok ML pieces StrsAt strAt Strs)

def entC (e : Tok × Int) : List Value := [.string ⟨e.1.toArray⟩, .int .i64 e.2]
def entV (l : Ents) : List Value := l.flatMap entC

/-- What a walk leaves: so many entries more. -/
def WalkPost (w : World) (v : Value) (A : Ents) (e : Ending) (w' : World) : Prop :=
  ∃ v', e = .returned v' ∧ Row w' 183 2 v' A.length (entV A) ∧ Heap.Touch (own v) w w' ∧ ∀ k, own v' k → own v k ∨ w.heap.size ≤ k

/-- The slice of entries lies apart from the tree, and above W. -/
def OutOk (W : World) (M : Nat → Prop) (v : Value) : Prop := ∀ k, own v k → W.heap.size ≤ k ∧ ¬ M k

section
variable {W : World} {M : Nat → Prop} {x : Nat} {H : Hp} {vf : Nat → Value} {cnt N : Nat}

theorem OutOk.next {w : World} {v v' : Value} (h : IdxAt W M x H vf cnt w) (ho : OutOk W M v) (hv : ∀ k, own v' k → own v k ∨ w.heap.size ≤ k) : OutOk W M v' := fun k hk => by
  rcases hv k hk with h1 | h1
  · exact ho k h1
  · exact ⟨Nat.le_trans h.below.size h1, fun hM => by have := h.bM k hM; omega⟩

theorem WalkPost.ext {w : World} {v : Value} {A B : Ents} {e : Ending} {w' : World} (h : WalkPost w v A e w') (hAB : A = B) : WalkPost w v B e w' := hAB ▸ h

/-- One call behind another. -/
theorem WalkPost.after {w w1 w' : World} {v v1 : Value} {A : Ents} {e : Ending} (ht : Heap.Touch (own v) w w1) (hv : ∀ k, own v1 k → own v k ∨ w.heap.size ≤ k) (h : WalkPost w1 v1 A e w') : WalkPost w v A e w' := by
  obtain ⟨v', rfl, h1, h2, h3⟩ := h
  refine ⟨v', rfl, h1, ht.trans h2 fun k hk hf => ?_, fun k hk => ?_⟩
  · rcases hv k hf with e | e
    · exact e
    · omega
  · rcases h3 k hk with e | e
    · exact hv k e
    · exact .inr (Nat.le_trans ht.size e)

end
end Go.Proofs.YthhgfdeegnimjaaGreatDoor.Idx

namespace Go.Proofs.YthhgfdeegnimjaaGreatDoor.Idx
open Go.RowKit Heap
open Subj (Tok ML pieces StrsAt strAt Strs)

section
variable {W : World} {M : Nat → Prop} {x : Nat} {H : Hp} {vf : Nat → Value} {cnt N : Nat}

end
end Go.Proofs.YthhgfdeegnimjaaGreatDoor.Idx
