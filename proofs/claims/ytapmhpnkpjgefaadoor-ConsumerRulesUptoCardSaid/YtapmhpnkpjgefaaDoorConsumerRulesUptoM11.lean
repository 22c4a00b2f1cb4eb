/- Parts of the proof, joined: (*Index).find, walked.; (*Index).Put, walked.; (*node).drop, walked by its own recursion. -/
import Derived.Test.YtapmhpnkpjgefaaDoorConsumerRulesUptoM3
import Derived.Test.YtapmhpnkpjgefaaDoorConsumerRulesUptoM4
import Derived.Test.YtapmhpnkpjgefaaDoorConsumerRulesUptoM9
import Derived.Test.YtapmhpnkpjgefaaDoorConsumerRulesUptoM10
import Derived.Deep.CutRange
import Derived.StillTailTactics
namespace Go.Proofs.YtapmhpnkpjgefaaDoor.Idx
open Go.RowKit Heap
open Subj (Tok ML pieces StrsAt strAt)

set_option maxRecDepth 100000 in
theorem split_dot (s : ByteArray) (w : World) (hs : s.size ≤ 1048576) (hm : ML w) :
    Calls Tryd.prog 54 #[.string s, .string ⟨#[46]⟩] w fun e w' => e = .returned (.slice (some ⟨w.heap.size, 0, none⟩) (pieces s.data.toList).length (pieces s.data.toList).length) ∧ StrsAt w' w.heap.size 0 (pieces s.data.toList) ∧ Below w.heap.size w w' := by
  obtain ⟨m, hm⟩ := hm
  have hc := Tryd.strings_Split s ⟨#[46]⟩ m w (by omega) hm (by decide)
  rw [Subj.countB_dot] at hc
  refine hc.mono ?_
  rintro e w' ⟨rfl, rfl⟩
  exact ⟨rfl, Subj.strsAt_made w s 9, (Below.refl w.heap.size w).alloc (Nat.le_refl _) _⟩

theorem strsAt_lt {w : World} {g off : Nat} {l : List Subj.Tok} (h : StrsAt w g off l) (hl : l ≠ []) : g < w.heap.size :=
  World.block_lt_of_cell? w _ (h 0 (List.length_pos_iff.2 hl))

section
variable {W w : World} {M : Nat → Prop} {x : Nat} {H : Hp} {vf : Nat → Value} {cnt N : Nat}

/-- What 'find' answers. -/
def Found (H : Hp) (x : Nat) (ts : List Subj.Tok) (e : Ending) : Prop :=
  (∃ c nd, e = .returned (ptrV c) ∧ Go H x ts c ∧ H c = some nd) ∨ (e = .returned (.pointer none) ∧ ∀ c, ¬ Go H x ts c)

/-- One step further. -/
theorem go_more (_h : Good N H x) {l : List Subj.Tok} {k c j : Nat} (hk : k < l.length) (hg : Go H x (l.take k) c) (hs : Step H c (l.getD k []) j) : Go H x (l.take (k + 1)) j := by
  have e : l.take (k + 1) = l.take k ++ [l.getD k []] := by
    rw [List.take_add_one, List.getElem?_eq_getElem hk]; simp [List.getD, hk]
  rw [e]
  exact go_app hg (go_one hs)

theorem go_stops (h : Good N H x) {l : List Subj.Tok} {k c : Nat} {nd : NodeP} (hk : k < l.length) (hg : Go H x (l.take k) c) (hc : H c = some nd) (hn : ∀ j ∈ nd.kids, tokH H j ≠ l.getD k []) : ∀ d, ¬ Go H x l d := fun d hd => by
  have e : l = l.take k ++ (l.getD k [] :: l.drop (k + 1)) := by
    have := List.drop_eq_getElem_cons hk
    have h2 : l.getD k [] = l[k] := by simp [List.getD, hk]
    rw [h2, ← this, List.take_append_drop]
  rw [e] at hd
  obtain ⟨c', h1, h2⟩ := go_split hd
  have := h.go_det h1 hg
  subst this
  cases h2 with
  | cons s _ =>
    obtain ⟨nd', e2, h3, h4⟩ := s
    rw [hc] at e2; cases e2
    exact hn _ h3 h4

set_option maxHeartbeats 2000000 in
set_option maxRecDepth 100000 in
theorem find_any (hG : Good N H x) (hM : IdxAt W M x H vf cnt w) (hN : N ≤ 100000) (hm : ML w) (s : ByteArray) (hs : s.size ≤ 1048576) :
    Calls Tryd.prog 59 #[ptrV x, .string s] w fun e w' => Found H x (pieces s.data.toList) e ∧ Below w.heap.size w w' := by
  have HS := Lib.hid (split_dot s w hs hm)
  obtain ⟨rd, hrd, _⟩ := hG.root
  have hx := hM.lt hrd
  have HG := Lib.hid hG; have HM := Lib.hid hM; have HRD := Lib.hid hrd
  have hpl := Subj.pieces_size s hs
  clear hG hM hm hs hrd
  generalize pieces s.data.toList = l at *
  obtain ⟨n, hn⟩ : ∃ n, l.length = n := ⟨_, rfl⟩
  rw [hn] at HS hpl
  have HL := Lib.hid hn
  clear hn
  go_enter Tryd.func59, Tryd.ntmps59
  go_wp2_with fail
  refine HS.out.mono ?_
  rintro e w1 ⟨rfl, hst, hb1⟩
  have HST := Lib.hid hst; have HB := Lib.hid hb1
  clear hst hb1 HS
  obtain ⟨g, hgg⟩ : ∃ g, w.heap.size = g := ⟨_, rfl⟩
  have HGG := Lib.hid hgg
  rw [hgg] at HST ⊢
  clear hgg
  go_wp2_with fail
  go_loopw [5, 16] (fun a i wr => ∃ (k c : Nat), k ≤ n ∧ i = .int .i64 k ∧ a = .pointer (some ⟨c, 0, none⟩) ∧ Hid (Go H x (l.take k) c ∧ ∃ nd, H c = some nd) ∧ Hid (Below w1.heap.size w1 wr)) (fun _ i _ => n - (intOf i).toNat)
  case atStart => exact ⟨0, x, Nat.zero_le _, rfl, rfl, Lib.hid ⟨.nil x, rd, HRD.out⟩, Lib.hid (Below.refl _ _)⟩
  case round =>
    obtain ⟨k, c, hk, rfl, rfl, HGO, HBW⟩ := hrel
    obtain ⟨nd, hnd⟩ := HGO.out.2
    by_cases hlt : k < n
    · have hltz : (k : Int) < n := by omega
      have hlt' : k < l.length := by rw [HL.out]; exact hlt
      have hM2 := (HM.out.next HB.out).next HBW.out
      have hcell := (HST.out.below (HBW.out)) k hlt'
      rw [Nat.zero_add] at hcell
      have HPL := Lib.hid (show Calls Tryd.prog 61 #[.pointer (some ⟨c, 0, none⟩), .string (strAt l k)] wr _ from place_any HG.out hM2 hnd hN (l.getD k []))
      have HND := Lib.hid hnd; have HM2 := Lib.hid hM2; have HLT := Lib.hid hlt'
      clear hM2 hnd hlt'
      go_wp2_with fail
      refine HPL.out.mono ?_
      rintro e w2 ⟨i, fd, rfl, hp, hb2⟩
      clear hcell HPL
      cases fd with
      | false =>
        have HF := Lib.hid (show Found H x l (.returned (.pointer none)) ∧ Below w.heap.size w w2 from ⟨.inr ⟨rfl, go_stops HG.out HLT.out HGO.out.1 HND.out (hp.no rfl)⟩, (HB.out.trans (HBW.out.mono HB.out.size)).trans (hb2.mono (Nat.le_trans HB.out.size HBW.out.size))⟩)
        clear hp hb2
        go_wp2
        go_ret
        exact HF.out
      | true =>
        obtain ⟨j, hj, ht⟩ := hp.yes rfl
        have hM3 := HM2.out.next hb2
        obtain ⟨c0, c1, c2, c3, cf⟩ := node_of (hM3.node c nd HND.out)
        have hrow := hM3.row c nd HND.out
        have hil : i < nd.kids.length := (List.getElem?_eq_some_iff.1 hj).1
        obtain ⟨gk, off, cap, ev, hcap, hcell⟩ : ∃ gk off cap, vf c = .slice (some ⟨gk, off, none⟩) nd.kids.length cap ∧ nd.kids.length ≤ cap ∧ w2.cell? ⟨gk, off + i, none⟩ = some (.pointer (some ⟨j, 0, none⟩)) := by
          rcases hrow.2 with ⟨_, h0⟩ | ⟨gk, off, cap, cur, ev, hg, h1, _⟩
          · omega
          · rw [ev] at hrow
            exact ⟨gk, off, cap, ev, h1, by rw [(hrow.cell i (by omega)).1, kidsV_get, hj]; rfl⟩
        rw [ev] at c1
        have hclt := hM3.lt HND.out
        have HN2 := Lib.hid (show Go H x (l.take (k + 1)) j ∧ (∃ nd, H j = some nd) ∧ Below w1.heap.size w1 w2 from
          ⟨go_more HG.out HLT.out HGO.out.1 ⟨nd, HND.out, List.mem_of_getElem? hj, ht⟩, (let ⟨kd, h, _⟩ := HG.out.kid c nd j HND.out (List.mem_of_getElem? hj); ⟨kd, h⟩), HBW.out.trans (hb2.mono HBW.out.size)⟩)
        have hil2 : (i : Int) < (nd.kids.length : Nat) := by omega
        generalize nd.kids.length = m at *
        clear hp hb2 hM3 hrow hj ht ev c0 c2 c3
        go_wp2_with fail
        exact ⟨⟨k + 1, j, by omega, by go_num, rfl, Lib.hid ⟨HN2.out.1, HN2.out.2.1⟩, Lib.hid HN2.out.2.2⟩, by simp [intOf]; omega⟩
    · obtain rfl : k = n := by omega
      have HF := Lib.hid (show Found H x l (.returned (.pointer (some ⟨c, 0, none⟩))) ∧ Below w.heap.size w wr from ⟨.inl ⟨c, nd, rfl, by have := HGO.out.1; rw [List.take_of_length_le (by rw [HL.out]; exact Nat.le_refl _)] at this; exact this, hnd⟩, HB.out.trans (HBW.out.mono HB.out.size)⟩)
      clear hnd
      go_wp2
      go_ret
      exact HF.out
end
end Go.Proofs.YtapmhpnkpjgefaaDoor.Idx

namespace Go.Proofs.YtapmhpnkpjgefaaDoor.Idx
open Go.RowKit Heap
open Subj (Tok ML pieces StrsAt strAt)

/-- The tokens of a right subject. -/
theorem err_toks {l : List UInt8} (h : Subj.err false l = 0) : (pieces l).length ≤ 8 ∧ ∀ t ∈ pieces l, t ≠ [] ∧ t.length ≤ 16 := by
  unfold Subj.err at h
  split at h
  · cases h
  · rename_i h8
    split at h
    · rename_i hok
      refine ⟨by omega, ?_⟩
      clear h h8
      revert hok
      generalize pieces l = ts
      intro hok
      induction ts with
      | nil => intro t ht; cases ht
      | cons a ts ih =>
        simp only [Subj.okPieces, Bool.false_and, Bool.false_or, Bool.and_eq_true] at hok
        intro t ht
        rcases List.mem_cons.1 ht with rfl | ht
        · have h1 := hok.1
          unfold Subj.tokenOk at h1
          simp only [Bool.and_eq_true, decide_eq_true_eq] at h1
          exact ⟨fun e => by subst e; simp at h1, h1.2⟩
        · exact ih hok.2 t ht
    · cases h

/-- The same is told. -/
def SameDen (H H' : Hp) (x : Nat) : Prop := ∀ ts m, Den H' x ts m ↔ Den H x ts m

/-- An index that has come of another one. -/
structure Next (W : World) (M : Nat → Prop) (x N : Nat) (cnt : Nat) (w : World) (H' : Hp) (w' : World) : Prop where
  good : Good N H' x
  mem : ∃ M' vf', IdxAt W M' x H' vf' cnt w' ∧ ∀ k, M' k → M k ∨ w.heap.size ≤ k
  touch : Heap.Touch M w w'

section
variable {W w : World} {M : Nat → Prop} {x : Nat} {H : Hp} {vf : Nat → Value} {cnt N : Nat}

theorem Next.refl (hG : Good N H x) (hM : IdxAt W M x H vf cnt w) : Next W M x N cnt w H w := ⟨hG, ⟨M, vf, hM, fun _ h => .inl h⟩, Heap.Touch.refl _ _⟩

theorem Next.below' {H' : Hp} {w' w2 : World} (h : Next W M x N cnt w H' w') (hb : Below w'.heap.size w' w2) : Next W M x N cnt w H' w2 := by
  obtain ⟨hG, ⟨M', vf', h1, h2⟩, h3⟩ := h
  exact ⟨hG, ⟨M', vf', h1.next hb, h2⟩, h3.after (Heap.Touch.ofBelow (hb.mono (Nat.le_refl _)))⟩

theorem Next.from {H' : Hp} {w0 w' : World} (h : Next W M x N cnt w H' w') (hb : Below w0.heap.size w0 w) : Next W M x N cnt w0 H' w' := by
  obtain ⟨hG, ⟨M', vf', h1, h2⟩, h3⟩ := h
  refine ⟨hG, ⟨M', vf', h1, fun k hk => ?_⟩, (Heap.Touch.ofBelow hb).trans h3 fun _ _ h => h⟩
  rcases h2 k hk with e | e
  · exact .inl e
  · exact .inr (Nat.le_trans hb.size e)

/-- One index comes of one that has come. -/
theorem Next.trans {H1 H2 : Hp} {M1 : Nat → Prop} {w1 w2 : World} {N2 cnt2 : Nat} (h1 : Next W M x N cnt w H1 w1) (hm : ∀ k, M1 k → M k ∨ w.heap.size ≤ k) (h2 : Next W M1 x N2 cnt2 w1 H2 w2) : Next W M x N2 cnt2 w H2 w2 := by
  obtain ⟨hG, ⟨M', vf', h3, h4⟩, h5⟩ := h2
  refine ⟨hG, ⟨M', vf', h3, fun k hk => ?_⟩, h1.touch.trans h5 fun k hk hf => ?_⟩
  · rcases h4 k hk with e | e
    · exact hm k e
    · exact .inr (Nat.le_trans h1.touch.size e)
  · rcases hm k hf with e | e
    · exact e
    · omega

/-- What a node has is set: in memory. -/
theorem next_set (hG : Good N H x) (hM : IdxAt W M x H vf cnt w) {c : Nat} {nd : NodeP} (hc : H c = some nd) (y : Bool) (n : Int) :
    Next W M x N cnt w (upd H c { nd with has := y, n := n }) ((w.setCell ⟨c, 2, none⟩ (.bool y)).setCell ⟨c, 3, none⟩ (.int .i64 n)) := by
  have hn := hM.node c nd hc
  have ht : Heap.Touch (fun k => k = c ∨ own (vf c) k) w ((w.setCell ⟨c, 2, none⟩ (.bool y)).setCell ⟨c, 3, none⟩ (.int .i64 n)) :=
    Heap.Touch.setCell (p := ⟨c, 3, none⟩) (Heap.Touch.setCell (F := fun k => k = c ∨ own (vf c) k) (p := ⟨c, 2, none⟩) (Heap.Touch.refl _ w) (.inl (.inl rfl)) _) (.inl (.inl rfl)) _
  have hr := (hM.row c nd hc).kept (w' := ((w.setCell ⟨c, 2, none⟩ (.bool y)).setCell ⟨c, 3, none⟩ (.int .i64 n))) (fun k hk hlt => by
    have e : k ≠ c := fun e => own_ne hn (hM.row c nd hc) (e ▸ hk)
    rw [Below.heap_setCell _ _ _ _ e, Below.heap_setCell _ _ _ _ e])
  obtain ⟨h1, h2⟩ := hM.set (nd' := { nd with has := y, n := n }) (v' := vf c) hc ht (node_has hn y n) hr (fun k hk => .inl hk)
  exact ⟨good_set hG hc y n, ⟨_, _, h1, fun k hk => hk.1⟩, h2⟩

/-- A kid more: in memory. -/
theorem next_ins (hG : Good N H x) (hM : IdxAt W M x H vf cnt w) {c i k : Nat} {nd : NodeP} {t : Subj.Tok} {wa w5 : World} {v' : Value} (hc : H c = some nd) (hp : Placed H nd.kids t i false) (hlen : nd.path.length < 8) (ht : t ≠ [] ∧ t.length ≤ 16)
    (hba : Below w.heap.size w wa) (hk : w.heap.size = k) (hka : wa.heap[k]? = some (.cells #[.string ⟨t.toArray⟩, .slice none 0 0, .bool false, .int .i64 0] 115 (0, 0))) (hsz : k < wa.heap.size)
    (hr : Row w5 121 1 v' (nd.kids.length + 1) ((kidsV nd.kids).take (i * 1) ++ [ptrV k] ++ (kidsV nd.kids).drop (i * 1))) (ht5 : Heap.Touch (own (vf c)) wa w5) (ho : ∀ j, own v' j → own (vf c) j ∨ wa.heap.size ≤ j) :
    Next W M x (N + 1) cnt w (insH H c nd i k t) (w5.setCell ⟨c, 1, none⟩ v') := by
  have hMa := hM.next hba
  have hn := hMa.node c nd hc
  have hn5 : w5.heap[c]? = some (nodeO x cnt c nd (vf c)) := (ht5.block c (hMa.lt hc) (own_ne hn (hMa.row c nd hc))).trans hn
  have htc : Heap.Touch (fun j => j = c ∨ own (vf c) j) wa (w5.setCell ⟨c, 1, none⟩ v') :=
    Heap.Touch.setCell (F := fun j => j = c ∨ own (vf c) j) (p := ⟨c, 1, none⟩) (ht5.mono fun j _ h => .inr h) (.inl (.inl rfl)) _
  have hHk : H k = none := hM.fresh (by omega)
  have hck : k ≠ c := fun e => by subst e; rw [hHk] at hc; cases hc
  have hrow : Row (w5.setCell ⟨c, 1, none⟩ v') 121 1 v' ({ nd with kids := nd.kids.take i ++ k :: nd.kids.drop i } : NodeP).kids.length (kidsV ({ nd with kids := nd.kids.take i ++ k :: nd.kids.drop i } : NodeP).kids) := by
    have e1 : (nd.kids.take i ++ k :: nd.kids.drop i).length = nd.kids.length + 1 := by
      have := hp.le
      simp only [List.length_append, List.length_cons, List.length_take, List.length_drop]; omega
    have e2 : kidsV (nd.kids.take i ++ k :: nd.kids.drop i) = (kidsV nd.kids).take (i * 1) ++ [ptrV k] ++ (kidsV nd.kids).drop (i * 1) := by
      simp [kidsV, List.map_take, List.map_drop]
    show Row _ _ 1 v' (nd.kids.take i ++ k :: nd.kids.drop i).length (kidsV (nd.kids.take i ++ k :: nd.kids.drop i))
    rw [e1, e2]
    refine hr.kept fun j hj _ => ?_
    rw [Below.heap_setCell _ _ _ _ (fun e => ?_)]
    exact own_ne hn5 hr (by rw [← show j = c from e]; exact hj)
  obtain ⟨h1, h2⟩ := hMa.set (nd' := { nd with kids := nd.kids.take i ++ k :: nd.kids.drop i }) (v' := v') hc htc (node_kids hn5 v' _) hrow ho
  have hxk : k ≠ x := fun e => by
    obtain ⟨rd, hr, _⟩ := hG.root
    rw [← e, hHk] at hr; cases hr
  have hMk : ¬ M k := fun h => by have := hM.bM k h; omega
  have hkb : (w5.setCell ⟨c, 1, none⟩ v').heap[k]? = some (nodeO x cnt k ⟨t, [], false, 0, nd.path ++ [t]⟩ (.slice none 0 0)) := by
    rw [h2.block k hsz hMk, hka]
    unfold nodeO
    rw [if_neg hxk]
  have h3 := h1.add hkb rfl (fun h => by
    rcases h.1 with h | h
    · exact hMk h
    · omega) (by have := hM.below.size; omega)
  have hG' := good_ins (i := i) (t := t) hG hc hHk (fun b y hb hky => by
    obtain ⟨kd, hkd, _⟩ := hG.kid b y k hb hky
    rw [hHk] at hkd; cases hkd) hlen ht hp.lo hp.hi'
  refine ⟨hG', ⟨_, _, h3, fun j hj => ?_⟩, (Heap.Touch.ofBelow hba).trans h2 fun _ _ h => h⟩
  rcases hj with hj | rfl
  · rcases hj.1 with hj | hj
    · exact .inl hj
    · exact .inr (Nat.le_trans hba.size hj)
  · exact .inr (by omega)
end
end Go.Proofs.YtapmhpnkpjgefaaDoor.Idx

namespace Go.Proofs.YtapmhpnkpjgefaaDoor.Idx
open Go.RowKit Heap
open Subj (Tok ML pieces StrsAt strAt Strs)

/-- What 'drop' does. -/
def DropPost (W : World) (M : Nat → Prop) (x N : Nat) (H : Hp) (cnt b : Nat) (nd : NodeP) (ts : List Subj.Tok) (w : World) (e : Ending) (w' : World) : Prop :=
  ∃ (H' : Hp) (fl : Bool) (nd' : NodeP), e = .returned (.bool fl) ∧ Next W M x N cnt w H' w' ∧ (∀ us m, Den H' x us m ↔ us ≠ nd.path ++ ts ∧ Den H x us m) ∧
    H' b = some nd' ∧ nd'.path = nd.path ∧ fl = (!nd'.has && nd'.kids.isEmpty) ∧ ∀ y ny, H y = some ny → ¬ nd.path <+: ny.path → H' y = some ny

section
variable {W w : World} {M : Nat → Prop} {x : Nat} {H : Hp} {vf : Nat → Value} {cnt N : Nat}

/-- A kid is struck: in memory. -/
theorem next_del (hG : Good N H x) (hM : IdxAt W M x H vf cnt w) {c i m : Nat} {nd : NodeP} {w5 : World} {v' : Value} (hc : H c = some nd) (hm : nd.kids.length = m + 1) (hi : i ≤ m)
    (hr : Row w5 121 1 v' m ((kidsV nd.kids).eraseIdx i)) (ht5 : Heap.Touch (own (vf c)) w w5) (ho : ∀ j, own v' j → own (vf c) j) :
    Next W M x N cnt w (delH H c nd i) (w5.setCell ⟨c, 1, none⟩ v') := by
  have hn := hM.node c nd hc
  have hn5 : w5.heap[c]? = some (nodeO x cnt c nd (vf c)) := (ht5.block c (hM.lt hc) (own_ne hn (hM.row c nd hc))).trans hn
  have htc : Heap.Touch (fun j => j = c ∨ own (vf c) j) w (w5.setCell ⟨c, 1, none⟩ v') :=
    Heap.Touch.setCell (F := fun j => j = c ∨ own (vf c) j) (p := ⟨c, 1, none⟩) (ht5.mono fun j _ h => .inr h) (.inl (.inl rfl)) _
  have hrow : Row (w5.setCell ⟨c, 1, none⟩ v') 121 1 v' ({ nd with kids := nd.kids.eraseIdx i } : NodeP).kids.length (kidsV ({ nd with kids := nd.kids.eraseIdx i } : NodeP).kids) := by
    have e1 : (nd.kids.eraseIdx i).length = m := by rw [List.length_eraseIdx]; split <;> omega
    have e2 : kidsV (nd.kids.eraseIdx i) = (kidsV nd.kids).eraseIdx i := by
      unfold kidsV
      rw [List.eraseIdx_eq_take_drop_succ, List.eraseIdx_eq_take_drop_succ]; simp [List.map_take, List.map_drop]
    show Row _ _ 1 v' (nd.kids.eraseIdx i).length (kidsV (nd.kids.eraseIdx i))
    rw [e1, e2]
    refine hr.kept fun j hj _ => ?_
    rw [Below.heap_setCell _ _ _ _ (fun e => ?_)]
    exact own_ne hn5 hr (by rw [← show j = c from e]; exact hj)
  obtain ⟨h1, h2⟩ := hM.set (nd' := { nd with kids := nd.kids.eraseIdx i }) (v' := v') hc htc (node_kids hn5 v' _) hrow (fun k hk => .inl (ho k hk))
  exact ⟨good_del hG hc, ⟨_, _, h1, fun k hk => hk.1⟩, h2⟩

theorem not_prefix_snoc (p : List Subj.Tok) (t : Subj.Tok) : ¬ (p ++ [t]) <+: p := fun h => by
  have := h.length_le
  simp at this; omega

set_option maxHeartbeats 4000000 in
set_option maxRecDepth 100000 in
theorem drop_any : ∀ (ts : List Subj.Tok) {w : World} {M : Nat → Prop} {H : Hp} {vf : Nat → Value} {b : Nat} {nd : NodeP} {v : Value}, Good N H x → IdxAt W M x H vf cnt w → N ≤ 90000 → ts.length ≤ 1048577 → H b = some nd → Go H x nd.path b → (∃ c, Go H b ts c) → Strs w v ts → (∀ g, own v g → ¬ M g) →
    Calls Tryd.prog 60 #[ptrV b, v] w (DropPost W M x N H cnt b nd ts w) := by
  intro ts
  induction ts with
  | nil =>
    intro w M H vf b nd v hG hM hN hl hb hgo _ hv _
    obtain ⟨ao, cap, rfl⟩ := hv.nil
    obtain ⟨c0, c1, c2, c3, cf⟩ := node_of (hM.node b nd hb)
    have hblt := hM.lt hb
    have hset := next_set hG hM hb false 0
    have hw1 : ((w.setCell ⟨b, 2, none⟩ (.bool false)).setCell ⟨b, 3, none⟩ (.int .i64 0)).heap[b]? = _ := node_has (hM.node b nd hb) false 0
    obtain ⟨r, hr⟩ : ∃ r, nd.kids.isEmpty = r := ⟨_, rfl⟩
    have HF := Lib.hid (show DropPost W M x N H cnt b nd [] w (.returned (.bool r)) ((w.setCell ⟨b, 2, none⟩ (.bool false)).setCell ⟨b, 3, none⟩ (.int .i64 0)) from
      ⟨_, r, _, rfl, hset, fun us m => by
        rw [den_set hG hb false 0 hgo, List.append_nil]
        constructor
        · rintro (⟨_, h, _⟩ | h)
          · cases h
          · exact h
        · exact fun h => .inr h, upd_at _ _ _, rfl, by rw [← hr]; rfl, fun y ny hy hp => by
        have hne : y ≠ b := fun e => by subst e; rw [hb] at hy; cases hy; exact hp (List.prefix_refl _)
        rw [upd_ne _ _ hne]; exact hy⟩)
    obtain ⟨ka, kc, hk⟩ := (hM.row b nd hb).slice
    have hlen : (((nd.kids.length : Nat) : Int) == 0) = r := by rw [← hr]; cases nd.kids <;> simp; omega
    have HLEN := Lib.hid hlen
    rw [hk] at c1
    clear hG hM hN hl hb hgo hv hset hw1 hr hk hlen
    generalize nd.kids.length = m at *
    go_enter Tryd.func60, Tryd.ntmps60
    go_wp2_with fail
    all_goals
      go_ret
      rw [← HLEN.out] at HF
      first | exact HF.out | trace_state
  | cons t ts ih =>
    intro w M H vf b nd v hG hM hN hl hb hgo hex hv hown
    obtain ⟨g, off, cap, rfl, hcap, hct, hvs⟩ := hv.cons
    obtain ⟨c, hgc⟩ := hex
    cases hgc with
    | @cons _ k _ _ _ hst hgk =>
    have hst0 := hst
    obtain ⟨nd0, e0, hkm, hkt⟩ := hst0
    rw [hb] at e0; cases e0
    obtain ⟨kd, hkd, hkp⟩ := hG.kid b nd k hb hkm
    have hkt' : kd.tok = t := by rw [← tokH_some hkd]; exact hkt
    rw [hkt'] at hkp
    have hgk0 : Go H x kd.path k := by rw [hkp]; exact go_app hgo (go_one hst)
    have HPL := Lib.hid (place_any hG hM hb (by omega) t)
    have hglt := World.block_lt_of_cell? w _ hct
    have hrec := fun (w2 : World) (hb2 : Below w.heap.size w w2) => ih (w := w2.drew) hG ((hM.next hb2).next (Below.refl _ _).drew) hN (by simp at hl; omega) hkd hgk0 ⟨c, hgk⟩ (show Strs w2.drew _ ts from (hvs.below hb2.drew)) (by
      intro j hj
      refine hown j ?_
      by_cases hc1 : cap = 1
      · rw [if_pos hc1] at hj; exact hj
      · rw [if_neg hc1] at hj; exact hj)
    have hfind : ∀ (i : Nat) (fd : Bool), Placed H nd.kids t i fd → fd = true ∧ nd.kids[i]? = some k ∧ i < nd.kids.length := fun i fd hp => by
      cases fd with
      | false => exact absurd hkt (hp.no rfl k hkm)
      | true =>
        obtain ⟨k', h1, h2⟩ := hp.yes rfl
        have := hG.step_det hst ⟨nd, hb, List.mem_of_getElem? h1, h2⟩
        subst this
        exact ⟨rfl, h1, (List.getElem?_eq_some_iff.1 h1).1⟩
    have HG := Lib.hid hG; have HM := Lib.hid hM; have HB := Lib.hid hb; have HREC := Lib.hid hrec; have HFI := Lib.hid hfind; have HKD := Lib.hid hkd; have HKP := Lib.hid hkp
    have hfew := hG.few b nd hb
    have hblt := hM.lt hb
    have hn0 : (((ts.length : Nat) : Int) + 1 == 0) = false := by simp; omega
    simp only [List.length_cons] at hl
    have HKM := Lib.hid hkm
    clear hG hM hb hgo hv hvs hown hgk hst hkm hkt hkd hkp hkt' hgk0 hrec hfind ih
    go_enter Tryd.func60, Tryd.ntmps60
    go_wp2_with fail
    refine HPL.out.mono ?_
    rintro e w2 ⟨i, fd, rfl, hp, hb2⟩
    obtain ⟨rfl, hik, hil⟩ := HFI.out i fd hp
    clear hp HPL HFI
    have hM2 := HM.out.next hb2
    obtain ⟨c0, c1, c2, c3, cf⟩ := node_of (hM2.node b nd HB.out)
    have hblt2 := hM2.lt HB.out
    obtain ⟨gk, offk, capk, ev, hcapk, hcell⟩ : ∃ gk off cap, vf b = .slice (some ⟨gk, off, none⟩) nd.kids.length cap ∧ nd.kids.length ≤ cap ∧ w2.cell? ⟨gk, off + i, none⟩ = some (.pointer (some ⟨k, 0, none⟩)) := by
      have hrow := hM2.row b nd HB.out
      rcases hrow.2 with ⟨_, h0⟩ | ⟨gk, off, cap, cur, ev, hg, h1, _⟩
      · omega
      · rw [ev] at hrow
        exact ⟨gk, off, cap, ev, h1, by rw [(hrow.cell i (by omega)).1, kidsV_get, hik]; rfl⟩
    rw [ev] at c1
    have HRC := Lib.hid (HREC.out w2 hb2)
    have HB2 := Lib.hid hb2; have HIK := Lib.hid hik; have HM2 := Lib.hid hM2
    clear HREC hb2 hik hM2 c0 c2 c3
    have hil2 : (i : Int) < (nd.kids.length : Nat) := by omega
    obtain ⟨m, hm⟩ : ∃ m, nd.kids.length = m + 1 := ⟨nd.kids.length - 1, by omega⟩
    have HMM := Lib.hid hm
    rw [hm] at c1 hil hil2 hcapk hfew
    have hil3 : (i : Int) < (m : Int) + 1 := by omega
    have hq1 : (1 : Int) ≤ ((ts.length : Nat) : Int) + 1 := by omega
    have hq2 : ((ts.length : Nat) : Int) + 1 ≤ (cap : Int) := by omega
    have hq3 : 1 ≤ ts.length + 1 := by omega
    clear hm ev
    generalize hql : ts.length = q at hq1 hq2 hq3 hcap hl hn0 HRC ⊢
    by_cases hc1 : cap = 1
    · subst hc1
      obtain rfl : q = 0 := by omega
      rw [if_pos rfl, show 1 - 1 = 0 from rfl] at HRC
      go_wp2_with fail
      go_still_tail 9, (by kernel_rfl)
      change wpList _ _ _ _ _ w2.drew
      go_wp2_with fail
      with_reducible refine HRC.out.mono ?_
      rintro e w3 ⟨H1, fl, kd1, rfl, hnx, hden, hk1, hkp1, hfl, hfr⟩
      have hb1 : H1 b = some nd := hfr b nd HB.out (by rw [HKP.out]; exact not_prefix_snoc _ _)
      have hnx0 := hnx.from (HB2.out.trans ((Below.refl _ _).drew.mono HB2.out.size))
      obtain ⟨hG1, ⟨M1, vf1, hM1, hs1⟩, ht1⟩ := hnx0
      obtain ⟨d0, d1, d2, d3, df⟩ := node_of (hM1.node b nd hb1)
      have hblt3 := hM1.lt hb1
      obtain ⟨gj, offj, capj, ev, hcapj⟩ : ∃ gk off cap, vf1 b = .slice (some ⟨gk, off, none⟩) nd.kids.length cap ∧ nd.kids.length ≤ cap := by
        have hrow := hM1.row b nd hb1
        have := HMM.out
        rcases hrow.2 with ⟨_, h0⟩ | ⟨gk, off, cap, cur, ev, hg, h1, _⟩
        · omega
        · exact ⟨gk, off, cap, ev, h1⟩
      rw [HMM.out] at ev hcapj
      have hm0 : (((m : Nat) : Int) + 1 == 0) = false := by simp; omega
      have hdenP : ∀ us mm, Den H1 x us mm ↔ us ≠ nd.path ++ t :: ts ∧ Den H x us mm := fun us mm => by
        rw [hden, HKP.out, List.append_assoc]; rfl
      have hfrP : ∀ y ny, H y = some ny → ¬ nd.path <+: ny.path → H1 y = some ny := fun y ny hy hp => hfr y ny hy (fun h => hp (by rw [HKP.out] at h; exact (List.prefix_append _ _).trans h))
      clear c1 hcell HRC hnx hden hfr
      cases fl with
      | false =>
        have hne : nd.kids.isEmpty = false := by have := HMM.out; cases h : nd.kids with | nil => rw [h] at this; simp at this | cons a l => rfl
        have HF := Lib.hid (show DropPost W M x N H cnt b nd (t :: ts) w (.returned (.bool false)) w3 from ⟨H1, false, nd, rfl, ⟨hG1, ⟨M1, vf1, hM1, hs1⟩, ht1⟩, hdenP, hb1, rfl, by rw [hne, Bool.and_false], hfrP⟩)
        rw [ev] at d1
        clear hdenP hfrP hM1 hG1 hs1 ht1 hk1 hkp1 hfl hb1 hne ev d0 d3
        cases hh : nd.has with
        | true =>
          rw [hh] at d2
          clear hh
          go_wp2_with fail
          go_ret
          exact HF.out
        | false =>
          rw [hh] at d2
          clear hh
          go_wp2_with fail
          go_ret
          exact HF.out
      | true =>
        obtain ⟨hkh, hkk⟩ : kd1.has = false ∧ kd1.kids = [] := by
          simp only [Bool.true_eq, Bool.and_eq_true, Bool.not_eq_true', List.isEmpty_iff] at hfl
          exact hfl
        have hkb : k ≠ b := fun e => by
          subst e
          have h1 := HKD.out
          rw [HB.out] at h1
          cases h1
          have := congrArg List.length HKP.out
          simp at this
        have hrow1 := hM1.row b nd hb1
        rw [ev, HMM.out] at hrow1
        have HDE := Lib.hid (Ins.delete_any (i := i) gj offj capj (by omega) (by omega) hrow1 (kidsV_one _))
        have hdd := fun us mm => den_del (i := i) (b := x) (ts := us) (m := mm) hb1 HIK.out hk1 hkk hkh hkb
        have hndel := fun (w5 : World) (v' : Value) hr5 ht5 ho => next_del (i := i) (w5 := w5) (v' := v') hG1 hM1 hb1 HMM.out (by omega) hr5 ht5 ho
        have hblk := hM1.node b nd hb1
        have hown1 := own_ne hblk (hM1.row b nd hb1)
        rw [ev] at d1 hown1 hblk
        have HND := Lib.hid hndel; have HDD := Lib.hid hdd; have HBK := Lib.hid hblk; have HOW := Lib.hid hown1; have HDP := Lib.hid hdenP; have HFP := Lib.hid hfrP; have HS1 := Lib.hid hs1; have HNX := Lib.hid (show Next W M x N cnt w H1 w3 from ⟨hG1, ⟨M1, vf1, hM1, hs1⟩, ht1⟩); have HEV := Lib.hid ev; have HB1 := Lib.hid hb1
        clear hdenP hfrP hM1 hG1 hs1 ht1 hk1 hkp1 hfl hb1 ev hrow1 hdd hndel hblk hown1 d0 d2 d3 hkh hkk
        have hwi : IntKind.i64.wrap ((i : Int) + 1) = (i : Int) + 1 := IntWalk.i64_in _ (by omega)
        go_wp2_with fail
        with_reducible refine HDE.out.mono ?_
        rintro e w5 ⟨rfl, hr5, ht5⟩
        have hn5 := (ht5.block b (heap_lt HBK.out) HOW.out).trans HBK.out
        have hnx2 := HND.out w5 _ hr5 (by rw [HEV.out]; exact ht5) (fun j hj => by rw [HEV.out]; simp only [own, Value.ownBlock] at hj ⊢; exact hj)
        obtain ⟨d0, d1, d2, d3, df5⟩ := node_of hn5
        have hblt5 := heap_lt hn5
        have hnb : (({ nd with kids := nd.kids.eraseIdx i } : NodeP).kids.isEmpty) = decide (m = 0) := by
          have h1 : (nd.kids.eraseIdx i).length = m := by have := HMM.out; rw [List.length_eraseIdx]; split <;> omega
          show (nd.kids.eraseIdx i).isEmpty = _
          cases h2 : nd.kids.eraseIdx i with
          | nil => rw [h2] at h1; simp at h1; simp [← h1]
          | cons a l => rw [h2] at h1; simp at h1; simp; omega
        have hF := fun (fl : Bool) (hfl : fl = (!nd.has && decide (m = 0))) => (show DropPost W M x N H cnt b nd (t :: ts) w (.returned (.bool fl)) (w5.setCell ⟨b, 1, none⟩ (.slice (some ⟨gj, offj, none⟩) m capj)) from
          ⟨_, fl, _, rfl, HNX.out.trans HS1.out hnx2, fun us mm => (HDD.out us mm).trans (HDP.out us mm), upd_at _ _ _, rfl, by rw [hnb]; exact hfl, fun y ny hy hp => by
            have hne : y ≠ b := fun e => by subst e; rw [HB.out] at hy; cases hy; exact hp (List.prefix_refl _)
            unfold delH
            rw [upd_ne _ _ hne]; exact HFP.out y ny hy hp⟩)
        have HF := Lib.hid hF
        clear hF hnb hnx2 hr5 ht5 hn5 d0 d3 HDE HND HDD HBK HOW HDP HFP HS1 HNX HEV HB1
        have hmz : (((m : Nat) : Int) == 0) = decide (m = 0) := Subj.nat_beq_zero m
        cases hh : nd.has with
        | true =>
          rw [hh] at d2
          have HX := Lib.hid (HF.out false (by rw [hh]; rfl))
          clear hh HF
          go_wp2_with fail
          go_ret
          exact HX.out
        | false =>
          rw [hh] at d2
          have HX := Lib.hid (HF.out (decide (m = 0)) (by rw [hh]; rfl))
          rw [← hmz] at HX
          clear hh HF hmz
          go_wp2_with fail
          go_ret
          exact HX.out
    · rw [if_neg hc1] at HRC
      go_wp2_with fail
      go_still_tail 9, (by kernel_rfl)
      change wpList _ _ _ _ _ w2.drew
      go_wp2_with fail
      with_reducible refine HRC.out.mono ?_
      rintro e w3 ⟨H1, fl, kd1, rfl, hnx, hden, hk1, hkp1, hfl, hfr⟩
      have hb1 : H1 b = some nd := hfr b nd HB.out (by rw [HKP.out]; exact not_prefix_snoc _ _)
      have hnx0 := hnx.from (HB2.out.trans ((Below.refl _ _).drew.mono HB2.out.size))
      obtain ⟨hG1, ⟨M1, vf1, hM1, hs1⟩, ht1⟩ := hnx0
      obtain ⟨d0, d1, d2, d3, df⟩ := node_of (hM1.node b nd hb1)
      have hblt3 := hM1.lt hb1
      obtain ⟨gj, offj, capj, ev, hcapj⟩ : ∃ gk off cap, vf1 b = .slice (some ⟨gk, off, none⟩) nd.kids.length cap ∧ nd.kids.length ≤ cap := by
        have hrow := hM1.row b nd hb1
        have := HMM.out
        rcases hrow.2 with ⟨_, h0⟩ | ⟨gk, off, cap, cur, ev, hg, h1, _⟩
        · omega
        · exact ⟨gk, off, cap, ev, h1⟩
      rw [HMM.out] at ev hcapj
      have hm0 : (((m : Nat) : Int) + 1 == 0) = false := by simp; omega
      have hdenP : ∀ us mm, Den H1 x us mm ↔ us ≠ nd.path ++ t :: ts ∧ Den H x us mm := fun us mm => by
        rw [hden, HKP.out, List.append_assoc]; rfl
      have hfrP : ∀ y ny, H y = some ny → ¬ nd.path <+: ny.path → H1 y = some ny := fun y ny hy hp => hfr y ny hy (fun h => hp (by rw [HKP.out] at h; exact (List.prefix_append _ _).trans h))
      clear c1 hcell HRC hnx hden hfr
      cases fl with
      | false =>
        have hne : nd.kids.isEmpty = false := by have := HMM.out; cases h : nd.kids with | nil => rw [h] at this; simp at this | cons a l => rfl
        have HF := Lib.hid (show DropPost W M x N H cnt b nd (t :: ts) w (.returned (.bool false)) w3 from ⟨H1, false, nd, rfl, ⟨hG1, ⟨M1, vf1, hM1, hs1⟩, ht1⟩, hdenP, hb1, rfl, by rw [hne, Bool.and_false], hfrP⟩)
        rw [ev] at d1
        clear hdenP hfrP hM1 hG1 hs1 ht1 hk1 hkp1 hfl hb1 hne ev d0 d3
        cases hh : nd.has with
        | true =>
          rw [hh] at d2
          clear hh
          go_wp2_with fail
          go_ret
          exact HF.out
        | false =>
          rw [hh] at d2
          clear hh
          go_wp2_with fail
          go_ret
          exact HF.out
      | true =>
        obtain ⟨hkh, hkk⟩ : kd1.has = false ∧ kd1.kids = [] := by
          simp only [Bool.true_eq, Bool.and_eq_true, Bool.not_eq_true', List.isEmpty_iff] at hfl
          exact hfl
        have hkb : k ≠ b := fun e => by
          subst e
          have h1 := HKD.out
          rw [HB.out] at h1
          cases h1
          have := congrArg List.length HKP.out
          simp at this
        have hrow1 := hM1.row b nd hb1
        rw [ev, HMM.out] at hrow1
        have HDE := Lib.hid (Ins.delete_any (i := i) gj offj capj (by omega) (by omega) hrow1 (kidsV_one _))
        have hdd := fun us mm => den_del (i := i) (b := x) (ts := us) (m := mm) hb1 HIK.out hk1 hkk hkh hkb
        have hndel := fun (w5 : World) (v' : Value) hr5 ht5 ho => next_del (i := i) (w5 := w5) (v' := v') hG1 hM1 hb1 HMM.out (by omega) hr5 ht5 ho
        have hblk := hM1.node b nd hb1
        have hown1 := own_ne hblk (hM1.row b nd hb1)
        rw [ev] at d1 hown1 hblk
        have HND := Lib.hid hndel; have HDD := Lib.hid hdd; have HBK := Lib.hid hblk; have HOW := Lib.hid hown1; have HDP := Lib.hid hdenP; have HFP := Lib.hid hfrP; have HS1 := Lib.hid hs1; have HNX := Lib.hid (show Next W M x N cnt w H1 w3 from ⟨hG1, ⟨M1, vf1, hM1, hs1⟩, ht1⟩); have HEV := Lib.hid ev; have HB1 := Lib.hid hb1
        clear hdenP hfrP hM1 hG1 hs1 ht1 hk1 hkp1 hfl hb1 ev hrow1 hdd hndel hblk hown1 d0 d2 d3 hkh hkk
        have hwi : IntKind.i64.wrap ((i : Int) + 1) = (i : Int) + 1 := IntWalk.i64_in _ (by omega)
        go_wp2_with fail
        with_reducible refine HDE.out.mono ?_
        rintro e w5 ⟨rfl, hr5, ht5⟩
        have hn5 := (ht5.block b (heap_lt HBK.out) HOW.out).trans HBK.out
        have hnx2 := HND.out w5 _ hr5 (by rw [HEV.out]; exact ht5) (fun j hj => by rw [HEV.out]; simp only [own, Value.ownBlock] at hj ⊢; exact hj)
        obtain ⟨d0, d1, d2, d3, df5⟩ := node_of hn5
        have hblt5 := heap_lt hn5
        have hnb : (({ nd with kids := nd.kids.eraseIdx i } : NodeP).kids.isEmpty) = decide (m = 0) := by
          have h1 : (nd.kids.eraseIdx i).length = m := by have := HMM.out; rw [List.length_eraseIdx]; split <;> omega
          show (nd.kids.eraseIdx i).isEmpty = _
          cases h2 : nd.kids.eraseIdx i with
          | nil => rw [h2] at h1; simp at h1; simp [← h1]
          | cons a l => rw [h2] at h1; simp at h1; simp; omega
        have hF := fun (fl : Bool) (hfl : fl = (!nd.has && decide (m = 0))) => (show DropPost W M x N H cnt b nd (t :: ts) w (.returned (.bool fl)) (w5.setCell ⟨b, 1, none⟩ (.slice (some ⟨gj, offj, none⟩) m capj)) from
          ⟨_, fl, _, rfl, HNX.out.trans HS1.out hnx2, fun us mm => (HDD.out us mm).trans (HDP.out us mm), upd_at _ _ _, rfl, by rw [hnb]; exact hfl, fun y ny hy hp => by
            have hne : y ≠ b := fun e => by subst e; rw [HB.out] at hy; cases hy; exact hp (List.prefix_refl _)
            unfold delH
            rw [upd_ne _ _ hne]; exact HFP.out y ny hy hp⟩)
        have HF := Lib.hid hF
        clear hF hnb hnx2 hr5 ht5 hn5 d0 d3 HDE HND HDD HBK HOW HDP HFP HS1 HNX HEV HB1
        have hmz : (((m : Nat) : Int) == 0) = decide (m = 0) := Subj.nat_beq_zero m
        cases hh : nd.has with
        | true =>
          rw [hh] at d2
          have HX := Lib.hid (HF.out false (by rw [hh]; rfl))
          clear hh HF
          go_wp2_with fail
          go_ret
          exact HX.out
        | false =>
          rw [hh] at d2
          have HX := Lib.hid (HF.out (decide (m = 0)) (by rw [hh]; rfl))
          rw [← hmz] at HX
          clear hh HF hmz
          go_wp2_with fail
          go_ret
          exact HX.out
end
end Go.Proofs.YtapmhpnkpjgefaaDoor.Idx
