/- Parts of the proof, joined: slices.Delete of one pointer to a node, walked.; (*node).drop, walked by its own recursion. -/
import Derived.Test.YtbgchhgdlceceaaGreatDoorStrmBaseM15
import Derived.StillTailTactics
namespace Go.Proofs.YtbgchhgdlceceaaGreatDoor.Idx.Ins
open Go.RowKit Heap

theorem step_append_runI {P : Program} {ops : Array Oper} {o : Oper} {a : Act} {w : World} {K : Act → World → Prop} {Q : Exit → Act → World → Prop} {E : Prop}
    (hg : o.guard = none) (s x : Operand) (t : TypeId) (hop : o.op = Op.call { callee := Callee.builtin Builtin.append, args := #[s, x], argTypes := #[t, t] })
    (v u : Value) (hs : a.eval s = v) (hx : a.eval x = u) {v' : Value} {w' : World} (hr : (Builtin.append_ #[t, t] o.type #[v, u]).run P w = .ok v' w') (hK : K (a.put o.dst v') w') :
    if Region.wanted o (yielded ops a.tmps) = true then Oper.wp P o a w K Q else E := by
  have hw : Region.wanted o (yielded ops a.tmps) = true := by simp [Region.wanted, hg]
  rw [if_pos hw]
  unfold Oper.wp execOp
  simp only [hop, resolve, invoke, builtin, Sem.run_bind, Sem.run_pure, Result.andThen_ok, List.map_toArray, List.map_cons, List.map_nil, hs, hx, hr]
  exact hK

theorem erase_list {cur xs : List Value} {off i m : Nat} (hi : i ≤ m) (h3 : off + (m + 1) ≤ cur.length) (hx : (cur.drop off).take (m + 1) = xs) :
    let c1 := cur.take (off + i) ++ xs.drop (i + 1) ++ cur.drop (off + i + (m - i))
    c1.length = cur.length ∧ (c1.drop off).take m = xs.eraseIdx i := by
  have hxl : xs.length = m + 1 := by rw [← hx, List.length_take, List.length_drop]; omega
  intro c1
  have hP : (cur.take off).length = off := by rw [List.length_take]; omega
  have e1 : cur.take (off + i) = cur.take off ++ xs.take i := by
    rw [List.take_add, ← hx, List.take_take, show min i (m + 1) = i by omega]
  refine ⟨?_, ?_⟩
  · show (cur.take (off + i) ++ xs.drop (i + 1) ++ cur.drop (off + i + (m - i))).length = _
    simp only [List.length_append, List.length_take, List.length_drop, hxl]; omega
  · show ((cur.take (off + i) ++ xs.drop (i + 1) ++ cur.drop (off + i + (m - i))).drop off).take m = _
    rw [e1, List.append_assoc, List.append_assoc, List.drop_append, hP, Nat.sub_self, List.drop_zero, List.drop_of_length_le (by omega), List.nil_append, ← List.append_assoc]
    have hl : (xs.take i ++ xs.drop (i + 1)).length = m := by simp only [List.length_append, List.length_take, List.length_drop, hxl]; omega
    rw [List.take_append, hl, Nat.sub_self, List.take_zero, List.append_nil, List.take_of_length_le (by omega), List.eraseIdx_eq_take_drop_succ]

section
variable {w : World} {m i : Nat} {xs : List Value}

set_option maxHeartbeats 4000000 in
set_option maxRecDepth 100000 in
theorem delete_any (g off cap : Nat) (hn : m ≤ 200000) (hi : i ≤ m) (hrow : Row w 276 1 (.slice (some ⟨g, off, none⟩) (m + 1 : Nat) cap) (m + 1) xs) (hones : ∀ u ∈ xs, u.oneCell' = true) :
    Calls Tryz.prog 224 #[.slice (some ⟨g, off, none⟩) (m + 1 : Nat) cap, .int .i64 i, .int .i64 ((i : Int) + 1)] w fun e w' => e = .returned (.slice (some ⟨g, off, none⟩) m cap) ∧ Row w' 276 1 (.slice (some ⟨g, off, none⟩) m cap) m (xs.eraseIdx i) ∧ Heap.Touch (own (.slice (some ⟨g, off, none⟩) (m + 1 : Nat) cap)) w w' := by
  have hrow2 := hrow.2
  have hxl := hrow.1
  rcases hrow2 with ⟨h2, _⟩ | ⟨g', off', cap', cur, hv, hg, h1, h2, h3, h4⟩
  · cases h2
  simp only [Value.slice.injEq, Option.some.injEq, Addr.mk.injEq] at hv
  obtain ⟨⟨rfl, rfl, _⟩, _, rfl⟩ := hv
  obtain ⟨i0, hi0, hz0, hzs, hzb⟩ := info_parts info_el
  simp only [Nat.mul_one] at h3 h4 hxl
  have hlist := erase_list (i := i) (m := m) hi (by rw [Array.length_toList]; omega) h4
  obtain ⟨C1, hC1⟩ : ∃ C1 : Array Value, C1 = (cur.toList.take (off + i) ++ xs.drop (i + 1) ++ cur.toList.drop (off + i + (m - i))).toArray := ⟨_, rfl⟩
  have hc1s : C1.size = cur.size := by rw [hC1, List.size_toArray, hlist.1, Array.length_toList]
  have hc1t : (C1.toList.drop off).take m = xs.eraseIdx i := by rw [hC1]; exact hlist.2
  have hnl : (xs.drop (i + 1)).length = m - i := by rw [List.length_drop, hxl]; omega
  have hap : ∀ ty (a : Addr) c, (m - i = 0 ∨ a = ⟨g, off + (i + 1), none⟩) → (Builtin.append_ #[218, 218] ty #[.slice (some ⟨g, off, none⟩) i cap, .slice (some a) (m - i) c]).run Tryz.prog w.drew = .ok (.slice (some ⟨g, off, none⟩) m cap) (w.drew.setRow g C1) := fun ty a c ha => by
    have h := run_append_room' (P := Tryz.prog) w.drew 218 ty 276 i0 Tryz.underlying218 hi0 g off i cap cur hg a (m - i) c (xs.drop (i + 1)) (by rw [hzs, hnl, Nat.mul_one]) (fun j u hj => by
        have hjl := (List.getElem?_eq_some_iff.1 hj).1
        rw [hnl] at hjl
        rcases ha with ha | ha
        · omega
        · subst ha
          rw [List.getElem?_drop] at hj
          rw [Addr.add_lit]
          have := (hrow.cell (i + 1 + j) (by omega)).1
          rw [← Nat.add_assoc] at this
          exact this.trans hj) (fun u hu => hones u (List.mem_of_mem_drop hu)) (by omega) (by rw [hzs, hnl]; omega)
    rw [hzs, hnl, Nat.mul_one, show i + (m - i) = m by omega] at h
    rw [hC1]
    exact h
  have hg1 : (w.drew.setRow g C1).heap[g]? = some (.cells C1 276 (0, 0)) := setRow_heap w.drew g cur C1 _ (0, 0) hg
  have hr1 : Row (w.drew.setRow g C1) 276 1 (.slice (some ⟨g, off, none⟩) (m + 1 : Nat) cap) (m + 1) ((C1.toList.drop off).take ((m + 1) * 1)) :=
    ⟨by rw [List.length_take, List.length_drop, Array.length_toList, hc1s]; omega, .inr ⟨g, off, cap, C1, rfl, hg1, by omega, h2, by rw [hc1s]; omega, rfl⟩⟩
  obtain ⟨w3, hcl, r3, t3⟩ := run_clear_row (P := Tryz.prog) 218 276 0 (.pointer none) 1 Tryz.underlying218 Tryz.zeroValue276 rfl (by decide) (by decide) hr1 (show m < m + 1 by omega)
  have HEND := Lib.hid (show Row w3 276 1 (.slice (some ⟨g, off, none⟩) m cap) m (xs.eraseIdx i) ∧ Heap.Touch (own (.slice (some ⟨g, off, none⟩) (m + 1 : Nat) cap)) w w3 from by
    refine ⟨?_, (touch_setRow (Heap.Touch.refl _ w).drew (by simp [own, Value.ownBlock]) _).after t3⟩
    rw [List.take_take, show min (m * 1) ((m + 1) * 1) = m by omega, hc1t] at r3
    exact r3)
  rw [show m + 1 - m = 1 by omega, Nat.mul_one] at hcl
  have hij : ¬ ((i : Int) = (i : Int) + 1) := by omega
  have hb1 : (i : Int) ≤ (i : Int) + 1 := by omega
  have hb2 : (i : Int) + 1 ≤ (m : Int) + 1 := by omega
  have hb3 : (0 : Int) ≤ (i : Int) + 1 := by omega
  have htn : ((i : Int) + 1).toNat = i + 1 := by omega
  have hmc : m + 1 ≤ cap := h1
  have hb4 : (i : Int) ≤ (m : Int) + 1 := by omega
  have hb5 : ¬ cap = m := by omega
  have hb6 : (i : Int) ≤ (cap : Int) := by omega
  have hb7 : (m : Int) + 1 ≤ (cap : Int) := by omega
  have hb8 : (m : Int) ≤ (m : Int) + 1 := by omega
  have htm : ((m : Int) + 1).toNat = m + 1 := by omega
  have HROW := Lib.hid (show Row w.drew 276 1 (.slice (some ⟨g, off, none⟩) (m + 1 : Nat) cap) (m + 1) xs from hrow)
  clear hlist hC1 hc1s hc1t hnl hg1 hr1 r3 t3 h1 h2 h3 h4 hg hrow hxl hones
  by_cases hci : cap = i + 1
  · obtain rfl : m = i := by omega
    subst hci
    clear hap hcl HEND hij hb1 hb2 hb3 hb4 hb5 hb6 hb7 hb8 hmc
    obtain ⟨w4, hcl, r4, t4⟩ := run_clear_row (P := Tryz.prog) (w := w.drew) 218 276 0 (.pointer none) 1 Tryz.underlying218 Tryz.zeroValue276 rfl (by decide) (by decide) HROW.out (show m < m + 1 by omega)
    have HEND := Lib.hid (show Row w4 276 1 (.slice (some ⟨g, off, none⟩) m (m + 1 : Nat)) m (xs.eraseIdx m) ∧ Heap.Touch (own (.slice (some ⟨g, off, none⟩) (m + 1 : Nat) (m + 1 : Nat))) w w4 from by
      refine ⟨?_, (Heap.Touch.refl _ w).drew.after t4⟩
      have hxl := HROW.out.1
      rw [show xs.eraseIdx m = xs.take (m * 1) from by rw [List.eraseIdx_eq_take_drop_succ, List.drop_of_length_le (by omega), List.append_nil, Nat.mul_one]]
      exact r4)
    rw [show m + 1 - m = 1 by omega, Nat.mul_one] at hcl
    have hij : ¬ ((m : Int) = (m : Int) + 1) := by omega
    have hb1 : (m : Int) ≤ (m : Int) + 1 := by omega
    have hb3 : (0 : Int) ≤ (m : Int) + 1 := by omega
    have hb4 : m ≤ m + 1 := by omega
    clear r4 t4
    go_enter Tryz.func224, Tryz.ntmps224
    go_wp2_with fail
    go_region_law (fail)
    go_wp2_with fail
    go_ret
    exact ⟨rfl, HEND.out⟩
  · have hci' : ¬ cap = i + 1 := hci
    go_enter Tryz.func224, Tryz.ntmps224
    go_wp2_with fail
    go_region_law ((refine step_append_runI rfl _ _ 218 rfl _ _ (by simp [Act.eval, Act.put]) (by simp [Act.eval, Act.put]) (hap _ ⟨g, off + (i + 1), none⟩ (cap - (i + 1)) (.inr rfl)) ?_))
    go_wp2_with fail
    go_ret
    exact ⟨rfl, HEND.out⟩
end
end Go.Proofs.YtbgchhgdlceceaaGreatDoor.Idx.Ins

namespace Go.Proofs.YtbgchhgdlceceaaGreatDoor.Idx
open Go.RowKit Heap
open Subj (Tok ML pieces StrsAt strAt Strs)

/-- What 'drop' does. -/
def DropPost (W : World) (M : Nat → Prop) (x N : Nat) (H : Hp) (cnt b : Nat) (nd : NodeP) (ts : List Tok) (w : World) (e : Ending) (w' : World) : Prop :=
  ∃ (H' : Hp) (fl : Bool) (nd' : NodeP), e = .returned (.bool fl) ∧ Next W M x N cnt w H' w' ∧ (∀ us m, Den H' x us m ↔ us ≠ nd.path ++ ts ∧ Den H x us m) ∧
    H' b = some nd' ∧ nd'.path = nd.path ∧ fl = (!nd'.has && nd'.kids.isEmpty) ∧ ∀ y ny, H y = some ny → ¬ nd.path <+: ny.path → H' y = some ny

section
variable {W w : World} {M : Nat → Prop} {x : Nat} {H : Hp} {vf : Nat → Value} {cnt N : Nat}

theorem touch_strsV {v : Value} {l : List Tok} {w' : World} (h : Strs w v l) (ht : Heap.Touch M w w') (hg : ∀ g, own v g → ¬ M g) : Strs w' v l := by
  obtain ⟨ao, cap, rfl, hc, ha⟩ := h
  refine ⟨ao, cap, rfl, hc, fun hne => ?_⟩
  obtain ⟨g, off, e, hs⟩ := ha hne
  refine ⟨g, off, e, fun i hi => ?_⟩
  have h1 := hs i hi
  rw [ht.cell (p := ⟨g, off + i, none⟩) (World.block_lt_of_cell? w _ h1) (hg g (by rw [e]; simp [own, Value.ownBlock]))]; exact h1

/-- A kid is struck: in memory. -/
theorem next_del (hG : Good N H x) (hM : IdxAt W M x H vf cnt w) {c i m : Nat} {nd : NodeP} {w5 : World} {v' : Value} (hc : H c = some nd) (hm : nd.kids.length = m + 1) (hi : i ≤ m)
    (hr : Row w5 276 1 v' m ((kidsV nd.kids).eraseIdx i)) (ht5 : Heap.Touch (own (vf c)) w w5) (ho : ∀ j, own v' j → own (vf c) j) :
    Next W M x N cnt w (delH H c nd i) (w5.setCell ⟨c, 1, none⟩ v') := by
  have hn := hM.node c nd hc
  have hn5 : w5.heap[c]? = some (nodeO x cnt c nd (vf c)) := (ht5.block c (hM.lt hc) (own_ne hn (hM.row c nd hc))).trans hn
  have htc : Heap.Touch (fun j => j = c ∨ own (vf c) j) w (w5.setCell ⟨c, 1, none⟩ v') :=
    Heap.Touch.setCell (F := fun j => j = c ∨ own (vf c) j) (p := ⟨c, 1, none⟩) (ht5.mono fun j _ h => .inr h) (.inl (.inl rfl)) _
  have hrow : Row (w5.setCell ⟨c, 1, none⟩ v') 276 1 v' ({ nd with kids := nd.kids.eraseIdx i } : NodeP).kids.length (kidsV ({ nd with kids := nd.kids.eraseIdx i } : NodeP).kids) := by
    have e1 : (nd.kids.eraseIdx i).length = m := by rw [List.length_eraseIdx]; split <;> omega
    have e2 : kidsV (nd.kids.eraseIdx i) = (kidsV nd.kids).eraseIdx i := by
      unfold kidsV
      rw [List.eraseIdx_eq_take_drop_succ, List.eraseIdx_eq_take_drop_succ]; simp [List.map_take, List.map_drop]
    show Row _ _ 1 v' (nd.kids.eraseIdx i).length (kidsV (nd.kids.eraseIdx i))
    rw [e1, e2]
    refine hr.kept fun j hj _ => ?_
    rw [Below.heap_setCell _ _ _ _ (fun e => ?_)]
    exact own_ne hn5 hr (by rw [← show j = c from e]; exact hj)
  obtain ⟨h1, h2⟩ := hM.set (nd' := { nd with kids := nd.kids.eraseIdx i }) (v' := v') hc htc (node_kids hn5 v' _) hrow (fun k hk => .inl (ho k hk))
  exact ⟨good_del hG hc, ⟨_, _, h1, fun k hk => hk.1⟩, h2⟩

theorem not_prefix_snoc (p : List Tok) (t : Tok) : ¬ (p ++ [t]) <+: p := fun h => by
  have := h.length_le
  simp at this; omega

set_option maxHeartbeats 4000000 in
set_option maxRecDepth 100000 in
theorem drop_any : ∀ (ts : List Tok) {w : World} {M : Nat → Prop} {H : Hp} {vf : Nat → Value} {b : Nat} {nd : NodeP} {v : Value}, Good N H x → IdxAt W M x H vf cnt w → N ≤ 90000 → ts.length ≤ 1048577 → H b = some nd → Go H x nd.path b → (∃ c, Go H b ts c) → Strs w v ts → (∀ g, own v g → ¬ M g) →
    Calls Tryz.prog 202 #[ptrV b, v] w (DropPost W M x N H cnt b nd ts w) := by
  intro ts
  induction ts with
  | nil =>
    intro w M H vf b nd v hG hM hN hl hb hgo _ hv _
    obtain ⟨ao, cap, rfl⟩ := hv.nil
    obtain ⟨c0, c1, c2, c3, cf⟩ := node_of (hM.node b nd hb)
    have hblt := hM.lt hb
    have hset := next_set hG hM hb false 0
    have hw1 : ((w.setCell ⟨b, 2, none⟩ (.bool false)).setCell ⟨b, 3, none⟩ (.int .i64 0)).heap[b]? = _ := node_has (hM.node b nd hb) false 0
    obtain ⟨r, hr⟩ : ∃ r, nd.kids.isEmpty = r := ⟨_, rfl⟩
    have HF := Lib.hid (show DropPost W M x N H cnt b nd [] w (.returned (.bool r)) ((w.setCell ⟨b, 2, none⟩ (.bool false)).setCell ⟨b, 3, none⟩ (.int .i64 0)) from
      ⟨_, r, _, rfl, hset, fun us m => by
        rw [den_set hG hb false 0 hgo, List.append_nil]
        constructor
        · rintro (⟨_, h, _⟩ | h)
          · cases h
          · exact h
        · exact fun h => .inr h, upd_at _ _ _, rfl, by rw [← hr]; rfl, fun y ny hy hp => by
        have hne : y ≠ b := fun e => by subst e; rw [hb] at hy; cases hy; exact hp (List.prefix_refl _)
        rw [upd_ne _ _ hne]; exact hy⟩)
    obtain ⟨ka, kc, hk⟩ := (hM.row b nd hb).slice
    have hlen : (((nd.kids.length : Nat) : Int) == 0) = r := by rw [← hr]; cases nd.kids <;> simp; omega
    have HLEN := Lib.hid hlen
    rw [hk] at c1
    clear hG hM hN hl hb hgo hv hset hw1 hr hk hlen
    generalize nd.kids.length = m at *
    go_enter Tryz.func202, Tryz.ntmps202
    go_wp2_with fail
    all_goals
      go_ret
      rw [← HLEN.out] at HF
      first | exact HF.out | trace_state
  | cons t ts ih =>
    intro w M H vf b nd v hG hM hN hl hb hgo hex hv hown
    obtain ⟨g, off, cap, rfl, hcap, hct, hvs⟩ := hv.cons
    obtain ⟨c, hgc⟩ := hex
    cases hgc with
    | @cons _ k _ _ _ hst hgk =>
    have hst0 := hst
    obtain ⟨nd0, e0, hkm, hkt⟩ := hst0
    rw [hb] at e0; cases e0
    obtain ⟨kd, hkd, hkp⟩ := hG.kid b nd k hb hkm
    have hkt' : kd.tok = t := by rw [← tokH_some hkd]; exact hkt
    rw [hkt'] at hkp
    have hgk0 : Go H x kd.path k := by rw [hkp]; exact go_app hgo (go_one hst)
    have HPL := Lib.hid (place_any hG hM hb (by omega) t)
    have hglt := World.block_lt_of_cell? w _ hct
    have hrec := fun (w2 : World) (hb2 : Below w.heap.size w w2) => ih (w := w2.drew) hG ((hM.next hb2).next (Below.refl _ _).drew) hN (by simp at hl; omega) hkd hgk0 ⟨c, hgk⟩ (show Strs w2.drew _ ts from (hvs.below hb2.drew)) (by
      intro j hj
      refine hown j ?_
      by_cases hc1 : cap = 1
      · rw [if_pos hc1] at hj; exact hj
      · rw [if_neg hc1] at hj; exact hj)
    have hfind : ∀ (i : Nat) (fd : Bool), Placed H nd.kids t i fd → fd = true ∧ nd.kids[i]? = some k ∧ i < nd.kids.length := fun i fd hp => by
      cases fd with
      | false => exact absurd hkt (hp.no rfl k hkm)
      | true =>
        obtain ⟨k', h1, h2⟩ := hp.yes rfl
        have := hG.step_det hst ⟨nd, hb, List.mem_of_getElem? h1, h2⟩
        subst this
        exact ⟨rfl, h1, (List.getElem?_eq_some_iff.1 h1).1⟩
    have HG := Lib.hid hG; have HM := Lib.hid hM; have HB := Lib.hid hb; have HREC := Lib.hid hrec; have HFI := Lib.hid hfind; have HKD := Lib.hid hkd; have HKP := Lib.hid hkp
    have hfew := hG.few b nd hb
    have hblt := hM.lt hb
    have hn0 : (((ts.length : Nat) : Int) + 1 == 0) = false := by simp; omega
    simp only [List.length_cons] at hl
    have HKM := Lib.hid hkm
    clear hG hM hb hgo hv hvs hown hgk hst hkm hkt hkd hkp hkt' hgk0 hrec hfind ih
    go_enter Tryz.func202, Tryz.ntmps202
    go_wp2_with fail
    refine HPL.out.mono ?_
    rintro e w2 ⟨i, fd, rfl, hp, hb2⟩
    obtain ⟨rfl, hik, hil⟩ := HFI.out i fd hp
    clear hp HPL HFI
    have hM2 := HM.out.next hb2
    obtain ⟨c0, c1, c2, c3, cf⟩ := node_of (hM2.node b nd HB.out)
    have hblt2 := hM2.lt HB.out
    obtain ⟨gk, offk, capk, ev, hcapk, hcell⟩ : ∃ gk off cap, vf b = .slice (some ⟨gk, off, none⟩) nd.kids.length cap ∧ nd.kids.length ≤ cap ∧ w2.cell? ⟨gk, off + i, none⟩ = some (.pointer (some ⟨k, 0, none⟩)) := by
      have hrow := hM2.row b nd HB.out
      rcases hrow.2 with ⟨_, h0⟩ | ⟨gk, off, cap, cur, ev, hg, h1, _⟩
      · omega
      · rw [ev] at hrow
        exact ⟨gk, off, cap, ev, h1, by rw [(hrow.cell i (by omega)).1, kidsV_get, hik]; rfl⟩
    rw [ev] at c1
    have HRC := Lib.hid (HREC.out w2 hb2)
    have HB2 := Lib.hid hb2; have HIK := Lib.hid hik; have HM2 := Lib.hid hM2
    clear HREC hb2 hik hM2 c0 c2 c3
    have hil2 : (i : Int) < (nd.kids.length : Nat) := by omega
    obtain ⟨m, hm⟩ : ∃ m, nd.kids.length = m + 1 := ⟨nd.kids.length - 1, by omega⟩
    have HMM := Lib.hid hm
    rw [hm] at c1 hil hil2 hcapk hfew
    have hil3 : (i : Int) < (m : Int) + 1 := by omega
    have hq1 : (1 : Int) ≤ ((ts.length : Nat) : Int) + 1 := by omega
    have hq2 : ((ts.length : Nat) : Int) + 1 ≤ (cap : Int) := by omega
    have hq3 : 1 ≤ ts.length + 1 := by omega
    clear hm ev
    generalize hql : ts.length = q at hq1 hq2 hq3 hcap hl hn0 HRC ⊢
    by_cases hc1 : cap = 1
    · subst hc1
      obtain rfl : q = 0 := by omega
      rw [if_pos rfl, show 1 - 1 = 0 from rfl] at HRC
      go_wp2_with fail
      go_still_tail 9, (by kernel_rfl)
      change wpList _ _ _ _ _ w2.drew
      go_wp2_with fail
      with_reducible refine HRC.out.mono ?_
      rintro e w3 ⟨H1, fl, kd1, rfl, hnx, hden, hk1, hkp1, hfl, hfr⟩
      have hb1 : H1 b = some nd := hfr b nd HB.out (by rw [HKP.out]; exact not_prefix_snoc _ _)
      have hnx0 := hnx.from (HB2.out.trans ((Below.refl _ _).drew.mono HB2.out.size))
      obtain ⟨hG1, ⟨M1, vf1, hM1, hs1⟩, ht1⟩ := hnx0
      obtain ⟨d0, d1, d2, d3, df⟩ := node_of (hM1.node b nd hb1)
      have hblt3 := hM1.lt hb1
      obtain ⟨gj, offj, capj, ev, hcapj⟩ : ∃ gk off cap, vf1 b = .slice (some ⟨gk, off, none⟩) nd.kids.length cap ∧ nd.kids.length ≤ cap := by
        have hrow := hM1.row b nd hb1
        have := HMM.out
        rcases hrow.2 with ⟨_, h0⟩ | ⟨gk, off, cap, cur, ev, hg, h1, _⟩
        · omega
        · exact ⟨gk, off, cap, ev, h1⟩
      rw [HMM.out] at ev hcapj
      have hm0 : (((m : Nat) : Int) + 1 == 0) = false := by simp; omega
      have hdenP : ∀ us mm, Den H1 x us mm ↔ us ≠ nd.path ++ t :: ts ∧ Den H x us mm := fun us mm => by
        rw [hden, HKP.out, List.append_assoc]; rfl
      have hfrP : ∀ y ny, H y = some ny → ¬ nd.path <+: ny.path → H1 y = some ny := fun y ny hy hp => hfr y ny hy (fun h => hp (by rw [HKP.out] at h; exact (List.prefix_append _ _).trans h))
      clear c1 hcell HRC hnx hden hfr
      cases fl with
      | false =>
        have hne : nd.kids.isEmpty = false := by have := HMM.out; cases h : nd.kids with | nil => rw [h] at this; simp at this | cons a l => rfl
        have HF := Lib.hid (show DropPost W M x N H cnt b nd (t :: ts) w (.returned (.bool false)) w3 from ⟨H1, false, nd, rfl, ⟨hG1, ⟨M1, vf1, hM1, hs1⟩, ht1⟩, hdenP, hb1, rfl, by rw [hne, Bool.and_false], hfrP⟩)
        rw [ev] at d1
        clear hdenP hfrP hM1 hG1 hs1 ht1 hk1 hkp1 hfl hb1 hne ev d0 d3
        cases hh : nd.has with
        | true =>
          rw [hh] at d2
          clear hh
          go_wp2_with fail
          go_ret
          exact HF.out
        | false =>
          rw [hh] at d2
          clear hh
          go_wp2_with fail
          go_ret
          exact HF.out
      | true =>
        obtain ⟨hkh, hkk⟩ : kd1.has = false ∧ kd1.kids = [] := by
          simp only [Bool.true_eq, Bool.and_eq_true, Bool.not_eq_true', List.isEmpty_iff] at hfl
          exact hfl
        have hkb : k ≠ b := fun e => by
          subst e
          have h1 := HKD.out
          rw [HB.out] at h1
          cases h1
          have := congrArg List.length HKP.out
          simp at this
        have hrow1 := hM1.row b nd hb1
        rw [ev, HMM.out] at hrow1
        have HDE := Lib.hid (Ins.delete_any (i := i) gj offj capj (by omega) (by omega) hrow1 (kidsV_one _))
        have hdd := fun us mm => den_del (i := i) (b := x) (ts := us) (m := mm) hb1 HIK.out hk1 hkk hkh hkb
        have hndel := fun (w5 : World) (v' : Value) hr5 ht5 ho => next_del (i := i) (w5 := w5) (v' := v') hG1 hM1 hb1 HMM.out (by omega) hr5 ht5 ho
        have hblk := hM1.node b nd hb1
        have hown1 := own_ne hblk (hM1.row b nd hb1)
        rw [ev] at d1 hown1 hblk
        have HND := Lib.hid hndel; have HDD := Lib.hid hdd; have HBK := Lib.hid hblk; have HOW := Lib.hid hown1; have HDP := Lib.hid hdenP; have HFP := Lib.hid hfrP; have HS1 := Lib.hid hs1; have HNX := Lib.hid (show Next W M x N cnt w H1 w3 from ⟨hG1, ⟨M1, vf1, hM1, hs1⟩, ht1⟩); have HEV := Lib.hid ev; have HB1 := Lib.hid hb1
        clear hdenP hfrP hM1 hG1 hs1 ht1 hk1 hkp1 hfl hb1 ev hrow1 hdd hndel hblk hown1 d0 d2 d3 hkh hkk
        have hwi : IntKind.i64.wrap ((i : Int) + 1) = (i : Int) + 1 := IntWalk.i64_in _ (by omega)
        go_wp2_with fail
        with_reducible refine HDE.out.mono ?_
        rintro e w5 ⟨rfl, hr5, ht5⟩
        have hn5 := (ht5.block b (heap_lt HBK.out) HOW.out).trans HBK.out
        have hnx2 := HND.out w5 _ hr5 (by rw [HEV.out]; exact ht5) (fun j hj => by rw [HEV.out]; simp only [own, Value.ownBlock] at hj ⊢; exact hj)
        obtain ⟨d0, d1, d2, d3, df5⟩ := node_of hn5
        have hblt5 := heap_lt hn5
        have hnb : (({ nd with kids := nd.kids.eraseIdx i } : NodeP).kids.isEmpty) = decide (m = 0) := by
          have h1 : (nd.kids.eraseIdx i).length = m := by have := HMM.out; rw [List.length_eraseIdx]; split <;> omega
          show (nd.kids.eraseIdx i).isEmpty = _
          cases h2 : nd.kids.eraseIdx i with
          | nil => rw [h2] at h1; simp at h1; simp [← h1]
          | cons a l => rw [h2] at h1; simp at h1; simp; omega
        have hF := fun (fl : Bool) (hfl : fl = (!nd.has && decide (m = 0))) => (show DropPost W M x N H cnt b nd (t :: ts) w (.returned (.bool fl)) (w5.setCell ⟨b, 1, none⟩ (.slice (some ⟨gj, offj, none⟩) m capj)) from
          ⟨_, fl, _, rfl, HNX.out.trans HS1.out hnx2, fun us mm => (HDD.out us mm).trans (HDP.out us mm), upd_at _ _ _, rfl, by rw [hnb]; exact hfl, fun y ny hy hp => by
            have hne : y ≠ b := fun e => by subst e; rw [HB.out] at hy; cases hy; exact hp (List.prefix_refl _)
            unfold delH
            rw [upd_ne _ _ hne]; exact HFP.out y ny hy hp⟩)
        have HF := Lib.hid hF
        clear hF hnb hnx2 hr5 ht5 hn5 d0 d3 HDE HND HDD HBK HOW HDP HFP HS1 HNX HEV HB1
        have hmz : (((m : Nat) : Int) == 0) = decide (m = 0) := Subj.nat_beq_zero m
        cases hh : nd.has with
        | true =>
          rw [hh] at d2
          have HX := Lib.hid (HF.out false (by rw [hh]; rfl))
          clear hh HF
          go_wp2_with fail
          go_ret
          exact HX.out
        | false =>
          rw [hh] at d2
          have HX := Lib.hid (HF.out (decide (m = 0)) (by rw [hh]; rfl))
          rw [← hmz] at HX
          clear hh HF hmz
          go_wp2_with fail
          go_ret
          exact HX.out
    · rw [if_neg hc1] at HRC
      go_wp2_with fail
      go_still_tail 9, (by kernel_rfl)
      change wpList _ _ _ _ _ w2.drew
      go_wp2_with fail
      with_reducible refine HRC.out.mono ?_
      rintro e w3 ⟨H1, fl, kd1, rfl, hnx, hden, hk1, hkp1, hfl, hfr⟩
      have hb1 : H1 b = some nd := hfr b nd HB.out (by rw [HKP.out]; exact not_prefix_snoc _ _)
      have hnx0 := hnx.from (HB2.out.trans ((Below.refl _ _).drew.mono HB2.out.size))
      obtain ⟨hG1, ⟨M1, vf1, hM1, hs1⟩, ht1⟩ := hnx0
      obtain ⟨d0, d1, d2, d3, df⟩ := node_of (hM1.node b nd hb1)
      have hblt3 := hM1.lt hb1
      obtain ⟨gj, offj, capj, ev, hcapj⟩ : ∃ gk off cap, vf1 b = .slice (some ⟨gk, off, none⟩) nd.kids.length cap ∧ nd.kids.length ≤ cap := by
        have hrow := hM1.row b nd hb1
        have := HMM.out
        rcases hrow.2 with ⟨_, h0⟩ | ⟨gk, off, cap, cur, ev, hg, h1, _⟩
        · omega
        · exact ⟨gk, off, cap, ev, h1⟩
      rw [HMM.out] at ev hcapj
      have hm0 : (((m : Nat) : Int) + 1 == 0) = false := by simp; omega
      have hdenP : ∀ us mm, Den H1 x us mm ↔ us ≠ nd.path ++ t :: ts ∧ Den H x us mm := fun us mm => by
        rw [hden, HKP.out, List.append_assoc]; rfl
      have hfrP : ∀ y ny, H y = some ny → ¬ nd.path <+: ny.path → H1 y = some ny := fun y ny hy hp => hfr y ny hy (fun h => hp (by rw [HKP.out] at h; exact (List.prefix_append _ _).trans h))
      clear c1 hcell HRC hnx hden hfr
      cases fl with
      | false =>
        have hne : nd.kids.isEmpty = false := by have := HMM.out; cases h : nd.kids with | nil => rw [h] at this; simp at this | cons a l => rfl
        have HF := Lib.hid (show DropPost W M x N H cnt b nd (t :: ts) w (.returned (.bool false)) w3 from ⟨H1, false, nd, rfl, ⟨hG1, ⟨M1, vf1, hM1, hs1⟩, ht1⟩, hdenP, hb1, rfl, by rw [hne, Bool.and_false], hfrP⟩)
        rw [ev] at d1
        clear hdenP hfrP hM1 hG1 hs1 ht1 hk1 hkp1 hfl hb1 hne ev d0 d3
        cases hh : nd.has with
        | true =>
          rw [hh] at d2
          clear hh
          go_wp2_with fail
          go_ret
          exact HF.out
        | false =>
          rw [hh] at d2
          clear hh
          go_wp2_with fail
          go_ret
          exact HF.out
      | true =>
        obtain ⟨hkh, hkk⟩ : kd1.has = false ∧ kd1.kids = [] := by
          simp only [Bool.true_eq, Bool.and_eq_true, Bool.not_eq_true', List.isEmpty_iff] at hfl
          exact hfl
        have hkb : k ≠ b := fun e => by
          subst e
          have h1 := HKD.out
          rw [HB.out] at h1
          cases h1
          have := congrArg List.length HKP.out
          simp at this
        have hrow1 := hM1.row b nd hb1
        rw [ev, HMM.out] at hrow1
        have HDE := Lib.hid (Ins.delete_any (i := i) gj offj capj (by omega) (by omega) hrow1 (kidsV_one _))
        have hdd := fun us mm => den_del (i := i) (b := x) (ts := us) (m := mm) hb1 HIK.out hk1 hkk hkh hkb
        have hndel := fun (w5 : World) (v' : Value) hr5 ht5 ho => next_del (i := i) (w5 := w5) (v' := v') hG1 hM1 hb1 HMM.out (by omega) hr5 ht5 ho
        have hblk := hM1.node b nd hb1
        have hown1 := own_ne hblk (hM1.row b nd hb1)
        rw [ev] at d1 hown1 hblk
        have HND := Lib.hid hndel; have HDD := Lib.hid hdd; have HBK := Lib.hid hblk; have HOW := Lib.hid hown1; have HDP := Lib.hid hdenP; have HFP := Lib.hid hfrP; have HS1 := Lib.hid hs1; have HNX := Lib.hid (show Next W M x N cnt w H1 w3 from ⟨hG1, ⟨M1, vf1, hM1, hs1⟩, ht1⟩); have HEV := Lib.hid ev; have HB1 := Lib.hid hb1
        clear hdenP hfrP hM1 hG1 hs1 ht1 hk1 hkp1 hfl hb1 ev hrow1 hdd hndel hblk hown1 d0 d2 d3 hkh hkk
        have hwi : IntKind.i64.wrap ((i : Int) + 1) = (i : Int) + 1 := IntWalk.i64_in _ (by omega)
        go_wp2_with fail
        with_reducible refine HDE.out.mono ?_
        rintro e w5 ⟨rfl, hr5, ht5⟩
        have hn5 := (ht5.block b (heap_lt HBK.out) HOW.out).trans HBK.out
        have hnx2 := HND.out w5 _ hr5 (by rw [HEV.out]; exact ht5) (fun j hj => by rw [HEV.out]; simp only [own, Value.ownBlock] at hj ⊢; exact hj)
        obtain ⟨d0, d1, d2, d3, df5⟩ := node_of hn5
        have hblt5 := heap_lt hn5
        have hnb : (({ nd with kids := nd.kids.eraseIdx i } : NodeP).kids.isEmpty) = decide (m = 0) := by
          have h1 : (nd.kids.eraseIdx i).length = m := by have := HMM.out; rw [List.length_eraseIdx]; split <;> omega
          show (nd.kids.eraseIdx i).isEmpty = _
          cases h2 : nd.kids.eraseIdx i with
          | nil => rw [h2] at h1; simp at h1; simp [← h1]
          | cons a l => rw [h2] at h1; simp at h1; simp; omega
        have hF := fun (fl : Bool) (hfl : fl = (!nd.has && decide (m = 0))) => (show DropPost W M x N H cnt b nd (t :: ts) w (.returned (.bool fl)) (w5.setCell ⟨b, 1, none⟩ (.slice (some ⟨gj, offj, none⟩) m capj)) from
          ⟨_, fl, _, rfl, HNX.out.trans HS1.out hnx2, fun us mm => (HDD.out us mm).trans (HDP.out us mm), upd_at _ _ _, rfl, by rw [hnb]; exact hfl, fun y ny hy hp => by
            have hne : y ≠ b := fun e => by subst e; rw [HB.out] at hy; cases hy; exact hp (List.prefix_refl _)
            unfold delH
            rw [upd_ne _ _ hne]; exact HFP.out y ny hy hp⟩)
        have HF := Lib.hid hF
        clear hF hnb hnx2 hr5 ht5 hn5 d0 d3 HDE HND HDD HBK HOW HDP HFP HS1 HNX HEV HB1
        have hmz : (((m : Nat) : Int) == 0) = decide (m = 0) := Subj.nat_beq_zero m
        cases hh : nd.has with
        | true =>
          rw [hh] at d2
          have HX := Lib.hid (HF.out false (by rw [hh]; rfl))
          clear hh HF
          go_wp2_with fail
          go_ret
          exact HX.out
        | false =>
          rw [hh] at d2
          have HX := Lib.hid (HF.out (decide (m = 0)) (by rw [hh]; rfl))
          rw [← hmz] at HX
          clear hh HF hmz
          go_wp2_with fail
          go_ret
          exact HX.out
end
end Go.Proofs.YtbgchhgdlceceaaGreatDoor.Idx
