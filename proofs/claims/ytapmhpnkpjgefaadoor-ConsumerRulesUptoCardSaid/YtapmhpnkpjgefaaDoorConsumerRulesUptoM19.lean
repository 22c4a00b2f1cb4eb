/- Parts of the proof, joined: A store's counts, and a message that goes, walked. -/
import Derived.Test.YtapmhpnkpjgefaaDoorConsumerRulesUptoM6
import Derived.Test.YtapmhpnkpjgefaaDoorConsumerRulesUptoM18
import Derived.Deep.RegionHeld3
import Derived.Deep.RegionWith
import Derived.StillTailTactics
namespace Go.Proofs.YtapmhpnkpjgefaaDoor.Sto
open Go.RowKit Heap
open Subj (Tok ML pieces takes)
open Rec (Rc recErr far recA rcOf err_len)
open Idx (Ents ptrV mem_take_get mem_drop_get idxL)
open Shf (XAt NextX getL dropL putL SortedE get_x put_x drop_x)

set_option maxRecDepth 100000 in
theorem size_rec (k q t : Int) (s h d : ByteArray) (w : World) (hz : s.size + h.size + d.size ≤ 9223372036854775807) : Calls Tryd.prog 31 #[.agg #[.int .i64 k, .int .i64 q, .int .i64 t, .string s, .string h, .string d]] w fun e w' => e = .returned (.int .i64 ((s.size + h.size + d.size : Nat) : Int)) ∧ Below w.heap.size w w' := by
  go_enter Tryd.func31, Tryd.ntmps31
  go_wp2
  go_ret
  exact ⟨ret_int (by first | rfl | (simp; done) | omega), (Below.refl _ _).alloc (Nat.le_refl _) _⟩

section
variable {W w : World} {M : Nat → Prop} {x N D : Nat} {I : Ents} {v : Value} {L L0 : List Rc} {bt last : Int}

/-- What stays of a store while its index is called. -/
def Turned (W w : World) (M : Nat → Prop) (x N D : Nat) (I : Ents) (v : Value) (L : List Rc) (bt last : Int) (w' : World) : Prop :=
  ∃ M', SAt W M' x N I D v L bt last w' ∧ (∀ k, M' k → M k ∨ w.heap.size ≤ k) ∧ Heap.Touch M w w'

set_option maxRecDepth 100000 in
/-- One more. -/
theorem count_more (h : SAt W M x N I D v L bt last w) (hN : N ≤ 80000) (hm : ML W) (s : ByteArray) (hs : s.size ≤ 1048576) (he : Subj.err false s.data.toList = 0) (hc : Counts I L0) (hl : L0.length ≤ 1000) :
    Calls Tryd.prog 30 #[.pointer (some ⟨D, 0, none⟩), .string s, .int .i64 1] w fun e w' => e = .returned (.tuple #[]) ∧ Turned W w M x (N + 8) D (putL 0 I s.data.toList ((cntR L0 s.data.toList : Int) + 1)).1 v L bt last w' := by
  obtain ⟨c0, c1, c2, c3, cf⟩ := fourS h.cell
  have hlt := h.lt
  have hg := get_x h.idx (by omega) hm s hs
  rw [he, counts_get h.idx.sorted hc] at hg
  have hfst : (if cntR L0 s.data.toList = 0 then ((0 : Int), 4) else ((cntR L0 s.data.toList : Int), 0)).1 = (cntR L0 s.data.toList : Int) := by
    split
    · rename_i h0; rw [h0]; rfl
    · rfl
  rw [hfst] at hg
  generalize (if cntR L0 s.data.toList = 0 then ((0 : Int), 4) else ((cntR L0 s.data.toList : Int), 0)).2 = z at hg
  have hcl : cntR L0 s.data.toList ≤ 1000 := Nat.le_trans List.countP_le_length hl
  have hp := fun w1 (hb : Below w.heap.size w w1) => put_x (h.next hb).idx (by omega) hm s hs ((cntR L0 s.data.toList : Int) + 1)
  rw [he] at hp
  obtain ⟨c, hcc⟩ : ∃ c, cntR L0 s.data.toList = c := ⟨_, rfl⟩
  rw [hcc] at hg hp hcl ⊢
  generalize putL 0 I s.data.toList ((c : Int) + 1) = R at hp ⊢
  have HG := Lib.hid hg; have HP := Lib.hid hp; have HH := Lib.hid h
  have hz : ¬ ((c : Int) + 1 = 0) := by omega
  clear h hg hp hfst hc hcc hl he hm hN
  go_enter Tryd.func30, Tryd.ntmps30
  go_wp2_with fail
  refine HG.out.mono ?_
  rintro e w1 ⟨rfl, hb1⟩
  have HB1 := Lib.hid hb1
  have hS1 := HH.out.next hb1
  obtain ⟨c0, c1, c2, c3, cf⟩ := fourS hS1.cell
  have hlt := hS1.lt
  have HS1 := Lib.hid hS1
  clear hb1 hS1 HG
  go_wp2_with fail
  refine (HP.out _ HB1.out).mono ?_
  rintro e w2 ⟨rfl, hn2⟩
  have HF := Lib.hid (show Turned W w M x (N + 8) D R.1 v L bt last w2 from by
    obtain ⟨M', h1, h2⟩ := HS1.out.call hn2
    refine ⟨M', h1, fun k hk => (h2 k hk).imp id fun e => Nat.le_trans HB1.out.size e, (Heap.Touch.ofBelow HB1.out).trans hn2.2 fun _ _ hf => hf⟩)
  clear hn2 HP
  go_wp2
  go_end0
  exact ⟨rfl, HF.out⟩

set_option maxRecDepth 100000 in
/-- One less; it was not the last one. -/
theorem count_less (h : SAt W M x N I D v L bt last w) (hN : N ≤ 80000) (hm : ML W) (s : ByteArray) (hs : s.size ≤ 1048576) (he : Subj.err false s.data.toList = 0) (hc : Counts I L0) (hl : L0.length ≤ 1000) (h0 : cntR L0 s.data.toList ≠ 0) :
    Calls Tryd.prog 30 #[.pointer (some ⟨D, 0, none⟩), .string s, .int .i64 (-1)] w fun e w' => e = .returned (.tuple #[]) ∧ Turned W w M x (N + 8) D (if cntR L0 s.data.toList = 1 then (dropL 0 I s.data.toList).1 else (putL 0 I s.data.toList ((cntR L0 s.data.toList : Int) - 1)).1) v L bt last w' := by
  obtain ⟨c0, c1, c2, c3, cf⟩ := fourS h.cell
  have hlt := h.lt
  have hg := get_x h.idx (by omega) hm s hs
  rw [he, counts_get h.idx.sorted hc, if_neg h0] at hg
  have hcl : cntR L0 s.data.toList ≤ 1000 := Nat.le_trans List.countP_le_length hl
  have hp := fun w1 (hb : Below w.heap.size w w1) => put_x (h.next hb).idx (by omega) hm s hs ((cntR L0 s.data.toList : Int) - 1)
  have hd := fun w1 (hb : Below w.heap.size w w1) => drop_x (h.next hb).idx (by omega) hm s hs
  rw [he] at hp hd
  obtain ⟨c, hcc⟩ : ∃ c, cntR L0 s.data.toList = c := ⟨_, rfl⟩
  rw [hcc] at hg hp hcl h0 ⊢
  generalize putL 0 I s.data.toList ((c : Int) - 1) = R at hp ⊢
  generalize dropL 0 I s.data.toList = R2 at hd ⊢
  have HG := Lib.hid hg; have HP := Lib.hid hp; have HH := Lib.hid h; have HD := Lib.hid hd
  clear h hg hp hc hcc hl he hm hN hd
  by_cases h1 : c = 1
  · subst h1
    rw [if_pos rfl]
    clear HP h0
    go_enter Tryd.func30, Tryd.ntmps30
    go_wp2_with fail
    refine HG.out.mono ?_
    rintro e w1 ⟨rfl, hb1⟩
    have HB1 := Lib.hid hb1
    have hS1 := HH.out.next hb1
    obtain ⟨c0, c1, c2, c3, cf⟩ := fourS hS1.cell
    have hlt := hS1.lt
    have HS1 := Lib.hid hS1
    clear hb1 hS1 HG
    go_wp2_with fail
    refine (HD.out _ HB1.out).mono ?_
    rintro e w2 ⟨rfl, hn2⟩
    have HF := Lib.hid (show Turned W w M x (N + 8) D R2.1 v L bt last w2 from by
      obtain ⟨M', h1, h2⟩ := HS1.out.call hn2
      refine ⟨M', { h1 with idx := h1.idx.mono (by omega) }, fun k hk => (h2 k hk).imp id fun e => Nat.le_trans HB1.out.size e, (Heap.Touch.ofBelow HB1.out).trans hn2.2 fun _ _ hf => hf⟩)
    clear hn2 HD
    go_wp2
    go_end0
    exact ⟨rfl, HF.out⟩
  · rw [if_neg h1]
    have hz : ¬ ((c : Int) - 1 = 0) := by omega
    clear HD
    go_enter Tryd.func30, Tryd.ntmps30
    go_wp2_with fail
    refine HG.out.mono ?_
    rintro e w1 ⟨rfl, hb1⟩
    have HB1 := Lib.hid hb1
    have hS1 := HH.out.next hb1
    obtain ⟨c0, c1, c2, c3, cf⟩ := fourS hS1.cell
    have hlt := hS1.lt
    have HS1 := Lib.hid hS1
    clear hb1 hS1 HG
    go_wp2_with fail
    refine (HP.out _ HB1.out).mono ?_
    rintro e w2 ⟨rfl, hn2⟩
    have HF := Lib.hid (show Turned W w M x (N + 8) D R.1 v L bt last w2 from by
      obtain ⟨M', h1, h2⟩ := HS1.out.call hn2
      refine ⟨M', h1, fun k hk => (h2 k hk).imp id fun e => Nat.le_trans HB1.out.size e, (Heap.Touch.ofBelow HB1.out).trans hn2.2 fun _ _ hf => hf⟩)
    clear hn2 HP
    go_wp2
    go_end0
    exact ⟨rfl, HF.out⟩

/-- A store has come of another one. -/
structure Step (w w' : World) (M M' : Nat → Prop) (v v' : Value) (D : Nat) : Prop where
  new : ∀ k, M' k ∨ own v' k → (M k ∨ own v k) ∨ w.heap.size ≤ k
  touch : Heap.Touch (fun k => M k ∨ own v k ∨ k = D) w w'

theorem Step.refl (w : World) (M : Nat → Prop) (v : Value) (D : Nat) : Step w w M M v v D := ⟨fun _ h => .inl h, Heap.Touch.refl _ _⟩
theorem Step.below {w' : World} (hb : Below w.heap.size w w') : Step w w' M M v v D := ⟨fun _ h => .inl h, Heap.Touch.ofBelow hb⟩
theorem Step.trans {w1 w2 : World} {M1 M2 : Nat → Prop} {v1 v2 : Value} (h1 : Step w w1 M M1 v v1 D) (h2 : Step w1 w2 M1 M2 v1 v2 D) (hD : D < w.heap.size) : Step w w2 M M2 v v2 D := by
  refine ⟨fun k hk => ?_, h1.touch.trans h2.touch fun k hk hf => ?_⟩
  · rcases h2.new k hk with e | e
    · exact h1.new k e
    · exact .inr (Nat.le_trans h1.touch.size e)
  · rcases hf with hf | hf | rfl
    · rcases h1.new k (.inl hf) with (e | e) | e
      · exact .inl e
      · exact .inr (.inl e)
      · omega
    · rcases h1.new k (.inr hf) with (e | e) | e
      · exact .inl e
      · exact .inr (.inl e)
      · omega
    · exact .inr (.inr rfl)

theorem Turned.step {N' : Nat} {I' : Ents} {w' : World} (h : Turned W w M x N' D I' v L bt last w') : ∃ M', SAt W M' x N' I' D v L bt last w' ∧ Step w w' M M' v v D := by
  obtain ⟨M', h1, h2, h3⟩ := h
  refine ⟨M', h1, fun k hk => ?_, h3.mono fun _ _ e => .inl e⟩
  rcases hk with hk | hk
  · exact (h2 k hk).imp .inl id
  · exact .inl (.inr hk)

theorem good_parts {r : Rc} (h1 : recErr r = 0) (h2 : r.kind = 1) : Subj.err false r.subj = 0 ∧ r.subj.length ≤ 135 ∧ r.head.length + r.data.length ≤ 256 := by
  have hs := Rec.recErr_sizes h1
  unfold recErr at h1
  split at h1
  · omega
  · rename_i hq
    split at h1
    · omega
    · rename_i h0
      exact ⟨by omega, hs.2.2.2.2.2.2.1, hs.2.2.2.2.2.2.2⟩

/-- What is left when one goes. -/
def GonePost (W w : World) (M : Nat → Prop) (x N D : Nat) (v : Value) (L : List Rc) (i : Nat) (r : Rc) (bt last : Int) (w' : World) : Prop :=
  ∃ M' I' v', SAt W M' x (N + 8) I' D v' (L.eraseIdx i) (bt - (sizeR r : Int)) last w' ∧ Counts I' (L.eraseIdx i) ∧ Step w w' M M' v v' D

set_option maxHeartbeats 4000000 in
set_option maxRecDepth 100000 in
theorem gone_rec (h : SAt W M x N I D v L bt last w) (hN : N ≤ 80000) (hm : ML W) (hc : Counts I L) (hl : L.length ≤ 1000) {i : Nat} {r : Rc} (hr : L[i]? = some r) (hg : recErr r = 0 ∧ r.kind = 1) (hbt : (sizeR r : Int) ≤ bt ∧ bt ≤ 1000000000) :
    Calls Tryd.prog 33 #[.pointer (some ⟨D, 0, none⟩), .int .i64 i] w fun e w' => e = .returned (.tuple #[]) ∧ GonePost W w M x N D v L i r bt last w' := by
  obtain ⟨c0, c1, c2, c3, cf⟩ := fourS h.cell
  have hlt := h.lt
  obtain ⟨he, hs1, hs2⟩ := good_parts hg.1 hg.2
  obtain ⟨s, hd, d, hp⟩ := parts r
  have hil := (List.getElem?_eq_some_iff.1 hr).1
  obtain ⟨m, hm1⟩ : ∃ m, L.length = m + 1 := ⟨L.length - 1, by omega⟩
  have hrow := h.row
  rw [hm1] at hrow hil hl
  rcases hrow.2 with ⟨_, h0⟩ | ⟨g, off, cap, cur, rfl, hgg, _⟩
  · omega
  obtain ⟨m0, m1, m2, m3, m4, m5⟩ := cells_rec hrow i r hr hil
  have hcn0 : cntR L r.subj ≠ 0 := by
    have := cnt_del hr r.subj
    rw [if_pos rfl] at this; omega
  have hcl := count_less h hN hm s (by rw [hp.s3]; omega) (by rw [hp.s2]; exact he) hc (by omega) (by rw [hp.s2]; exact hcn0)
  have hsub := counts_sub h.idx.sorted hc hr
  rw [hp.s2] at hcl
  obtain ⟨I', hI'⟩ : ∃ I', (if cntR L r.subj = 1 then (dropL 0 I r.subj).1 else (putL 0 I r.subj ((cntR L r.subj : Int) - 1)).1) = I' := ⟨_, rfl⟩
  rw [hI'] at hcl hsub
  have hsz : sizeR r = s.size + hd.size + d.size := by unfold sizeR; rw [hp.s3, hp.h3, hp.d3]
  rw [hp.s1] at m3
  have hb1 := fun w1 => size_rec r.kind r.seq r.time s hd d w1 (by rw [← hsz]; unfold sizeR; omega)
  rw [← hsz] at hb1
  have hszb : sizeR r ≤ 1000 := by unfold sizeR; omega
  have HCL := Lib.hid hcl; have HSUB := Lib.hid hsub; have HSZ := Lib.hid hb1; have HP := Lib.hid hp; have HR := Lib.hid hr; have HM1 := Lib.hid hm1; have HLT := Lib.hid hlt
  have hiz : (i : Int) < (m : Int) + 1 := by omega
  generalize hsr : sizeR r = sz at *
  have HSR := Lib.hid hsr
  clear h hm hc hr hg he hrow hgg hcl hsub hsz hb1 hI' hcn0 hs1 hs2 hp hm1 hsr hlt m0 m1 m2 m4 m5
  go_enter Tryd.func33, Tryd.ntmps33
  go_wp2_with fail
  refine HCL.out.mono ?_
  rintro e w1 ⟨rfl, ht1⟩
  obtain ⟨M1, hS1, hst1⟩ := ht1.step
  have HS1 := Lib.hid hS1; have HST1 := Lib.hid hst1
  clear ht1 hst1 HCL
  have key : ∀ (wx : World) (bx : Int), SAt W M1 x (N + 8) I' D (.slice (some ⟨g, off, none⟩) (m + 1) cap) L bx last wx → wx.cell? ⟨D, 0, none⟩ = some (.slice (some ⟨g, off, none⟩) (m + 1) cap) ∧ wx.cell? ⟨D, 2, none⟩ = some (.int .i64 bx) ∧
      (wx.cell? ⟨g, off + i * 6, none⟩ = some (.int .i64 r.kind) ∧ wx.cell? ⟨g, off + i * 6 + 1, none⟩ = some (.int .i64 r.seq) ∧ wx.cell? ⟨g, off + i * 6 + 2, none⟩ = some (.int .i64 r.time) ∧ wx.cell? ⟨g, off + i * 6 + 3, none⟩ = some (.string s) ∧ wx.cell? ⟨g, off + i * 6 + 4, none⟩ = some (.string hd) ∧ wx.cell? ⟨g, off + i * 6 + 5, none⟩ = some (.string d)) ∧ D < wx.heap.size ∧ ∀ j, wx.frozen? ⟨D, j, none⟩ = false := fun wx bx hx => by
    obtain ⟨c0, c1, c2, c3, cf⟩ := fourS hx.cell
    have hrow := hx.row
    rw [HM1.out] at hrow
    have hr := cells_rec hrow i r HR.out hil
    rw [HP.out.s1, HP.out.h1, HP.out.d1] at hr
    exact ⟨c0, c2, hr, hx.lt, cf⟩
  have KEY := Lib.hid key
  obtain ⟨c0, c2, ⟨m0, m1, m2, m3, m4, m5⟩, hlt, cf⟩ := key _ _ (hS1.next (w1 := w1.drew) (Below.refl _ _).drew)
  have hwr : IntKind.i64.wrap (bt - (sz : Int)) = bt - (sz : Int) := IntWalk.i64_in _ (by omega)
  clear key hS1
  go_upto_region 1 with fail
  go_cut [] from 14 to 28 (fun wx => Hid (SAt W M1 x (N + 8) I' D (.slice (some ⟨g, off, none⟩) (m + 1) cap) L (bt - (sz : Int)) last wx ∧ Step w1 wx M1 M1 (.slice (some ⟨g, off, none⟩) (m + 1) cap) (.slice (some ⟨g, off, none⟩) (m + 1) cap) D))
  case first =>
    go_region_law (first
      | (go_simp; go_at_call 31; ((with_reducible refine (HSZ.out _).mono ?_); rintro e w2 ⟨rfl, hb2⟩; have hS2 := (HS1.out.next (w1 := w1.drew) (Below.refl _ _).drew).next hb2; obtain ⟨k0, k2, ⟨n0, n1, n2, n3, n4, n5⟩, kl, kf⟩ := KEY.out _ _ hS2; have HS2 := Lib.hid hS2; have HB2 := Lib.hid hb2; clear hS2 hb2)))
    all_goals
      go_wp2_with fail
      go_meet
      exact Lib.hid ⟨HS2.out.setBytes _, (Step.below ((Below.refl _ _).drew.trans HB2.out)).trans ⟨fun _ h => .inl h, (touch_D _ D 2 _).mono fun _ _ e => .inr (.inr e)⟩ HS1.out.lt⟩
  case rest =>
  have HC := Lib.hid hcut.out.1; have HST3 := Lib.hid hcut.out.2
  obtain ⟨c0, c1, c2, c3, cf⟩ := fourS HC.out.cell
  have hlt := HC.out.lt
  have hrow := HC.out.row
  rw [HM1.out] at hrow
  have HDL := Lib.hid (Del.delete_any g off cap (by omega) (show i ≤ m by omega) hrow (recsV_one L))
  clear hcut hrow HSZ KEY
  go_wp2_with fail
  refine HDL.out.mono ?_
  rintro e w4 ⟨rfl, hr4, ht4⟩
  have hel : (L.eraseIdx i).length = m := by rw [List.length_eraseIdx, HM1.out, if_pos hil]; omega
  have hS4 := HC.out.setList (v' := .slice (some ⟨g, off, none⟩) m cap) (L' := L.eraseIdx i) ht4 (by
    rw [hel, show recsV (L.eraseIdx i) = (recsV L).take (i * 6) ++ (recsV L).drop ((i + 1) * 6) from by rw [recsV_take, recsV_drop, ← recsV_append, List.eraseIdx_eq_take_drop_succ]]
    exact hr4) fun k hk => .inl (by simpa [own, Value.ownBlock] using hk)
  have hD4 : w4.heap[D]? = _ := (ht4.block D HC.out.lt HC.out.ne).trans HC.out.cell
  obtain ⟨y0, y1, y2, y3, yf⟩ := fourS hD4
  have hlt4 := heap_lt hD4
  have hst4 := (HST1.out.trans HST3.out HLT.out).trans (M2 := M1) (v2 := .slice (some ⟨g, off, none⟩) m cap) ⟨fun k hk => .inl (hk.imp id fun h => by simpa [own, Value.ownBlock] using h), (ht4.mono (fun _ _ e => .inr (.inl e))).setCell (p := ⟨D, 0, none⟩) (.inl (.inr (.inr rfl))) (.slice (some ⟨g, off, none⟩) m cap)⟩ HLT.out
  have HF := Lib.hid (show GonePost W w M x N D _ L i r bt last (w4.setCell ⟨D, 0, none⟩ (.slice (some ⟨g, off, none⟩) m cap)) from ⟨M1, I', _, by rw [HSR.out]; exact hS4, HSUB.out, hst4⟩)
  clear hr4 ht4 hel hS4 hD4 hst4 HDL
  go_wp2
  go_end0
  exact ⟨rfl, HF.out⟩
end
end Go.Proofs.YtapmhpnkpjgefaaDoor.Sto
