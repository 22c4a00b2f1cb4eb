/- Parts of the proof, joined: (*Index).Drop, Get, Count; New, walked. -/
import Derived.Test.YtapmhpnkpjgefaaDoorConsumerRulesUptoM11
namespace Go.Proofs.YtapmhpnkpjgefaaDoor.Idx
open Go.RowKit Heap
open Subj (Tok ML pieces StrsAt strAt Strs)

/-- What 'Drop' does. -/
def DropAllPost (W : World) (M : Nat → Prop) (x N : Nat) (H : Hp) (cnt : Nat) (er : Nat) (ts : List Subj.Tok) (w : World) (e : Ending) (w' : World) : Prop :=
  ∃ (H' : Hp) (cnt' r : Nat), e = .returned (.int .i64 r) ∧ Next W M x N cnt' w H' w' ∧
    ((er ≠ 0 ∧ r = er ∧ cnt' = cnt ∧ SameDen H H' x) ∨
     (er = 0 ∧ (∀ m, ¬ Den H x ts m) ∧ r = 4 ∧ cnt' = cnt ∧ SameDen H H' x) ∨
     (er = 0 ∧ (∃ m, Den H x ts m) ∧ r = 0 ∧ cnt' = cnt - 1 ∧ ∀ us m, Den H' x us m ↔ us ≠ ts ∧ Den H x us m))

/-- What 'Get' answers. -/
def GetPost (H : Hp) (x er : Nat) (ts : List Subj.Tok) (w : World) (e : Ending) (w' : World) : Prop :=
  Below w.heap.size w w' ∧ ∃ (a : Int) (r : Nat), e = .returned (.tuple #[.int .i64 a, .int .i64 r]) ∧
    ((er ≠ 0 ∧ a = 0 ∧ r = er) ∨ (er = 0 ∧ (∀ m, ¬ Den H x ts m) ∧ a = 0 ∧ r = 4) ∨ (er = 0 ∧ Den H x ts a ∧ r = 0))

section
variable {W w : World} {M : Nat → Prop} {x : Nat} {H : Hp} {vf : Nat → Value} {cnt N : Nat}

theorem count_any (hG : Good N H x) (hM : IdxAt W M x H vf cnt w) :
    Calls Tryd.prog 48 #[ptrV x] w fun e w' => e = .returned (.int .i64 cnt) ∧ w = w' := by
  obtain ⟨rd, hrd, _⟩ := hG.root
  have hroot := root_of (hM.node x rd hrd)
  have hx := hM.lt hrd
  clear hG hM hrd
  go_enter Tryd.func48, Tryd.ntmps48
  go_wp2
  go_ret
  exact ⟨rfl, rfl⟩

/-- What is told of a node: by whether it is there, and has something. -/
theorem found_cases (hG : Good N H x) {ts : List Subj.Tok} {e : Ending} (h : Found H x ts e) :
    (∃ c nd, e = .returned (ptrV c) ∧ Go H x ts c ∧ H c = some nd ∧ nd.has = true ∧ Den H x ts nd.n) ∨ (∃ c nd, e = .returned (ptrV c) ∧ H c = some nd ∧ nd.has = false ∧ ∀ m, ¬ Den H x ts m) ∨ (e = .returned (.pointer none) ∧ ∀ m, ¬ Den H x ts m) := by
  rcases h with ⟨c, nd, rfl, h1, h2⟩ | ⟨rfl, h1⟩
  · cases hh : nd.has with
    | true => exact .inl ⟨c, nd, rfl, h1, h2, hh, c, nd, h1, h2, hh, rfl⟩
    | false =>
      refine .inr (.inl ⟨c, nd, rfl, h2, hh, ?_⟩)
      rintro m ⟨c', nd', g', e', h', _⟩
      have := hG.go_det h1 g'
      subst this
      rw [h2] at e'; cases e'
      rw [hh] at h'; cases h'
  · exact .inr (.inr ⟨rfl, fun m ⟨c', nd', g', _⟩ => h1 c' g'⟩)

set_option maxHeartbeats 4000000 in
set_option maxRecDepth 100000 in
theorem get_any (hG : Good N H x) (hM : IdxAt W M x H vf cnt w) (hN : N ≤ 90000) (hm : ML W) (s : ByteArray) (hs : s.size ≤ 1048576) :
    Calls Tryd.prog 47 #[ptrV x, .string s] w (GetPost H x (Subj.err false s.data.toList) (pieces s.data.toList) w) := by
  have HSU := Lib.hid (Subj.subject_any s w hs (hm.below hM.below))
  have HFI := Lib.hid (fun w1 (hb : Below w.heap.size w w1) => find_any hG (hM.next hb) (by omega) (hm.below (hM.next hb).below) s hs)
  generalize Subj.err false s.data.toList = er at *
  generalize pieces s.data.toList = l at *
  have HG := Lib.hid hG; have HM := Lib.hid hM
  clear hG hM hm hs
  go_enter Tryd.func47, Tryd.ntmps47
  go_wp2_with fail
  refine HSU.out.mono ?_
  rintro e w1 ⟨rfl, hb1⟩
  have HB1 := Lib.hid hb1
  clear hb1 HSU
  by_cases he : er = 0
  · subst he
    go_wp2_with fail
    refine (HFI.out w1 HB1.out).mono ?_
    rintro e w2 ⟨hfd, hb2⟩
    have HB2 := Lib.hid (HB1.out.trans (hb2.mono HB1.out.size))
    have HM2 := Lib.hid (HM.out.next HB2.out)
    clear hb2 HFI HB1
    rcases found_cases HG.out hfd with ⟨c, nd, rfl, _, hnd, hh, hden⟩ | ⟨c, nd, rfl, hnd, hh, hno⟩ | ⟨rfl, hno⟩
    · obtain ⟨c0, c1, c2, c3, cf⟩ := node_of (HM2.out.node c nd hnd)
      have hclt := HM2.out.lt hnd
      rw [hh] at c2
      have HD := Lib.hid hden
      clear hfd hnd hh hden c0 c1
      go_wp2_with fail
      go_ret2
      exact ⟨HB2.out, nd.n, 0, rfl, .inr (.inr ⟨rfl, HD.out, rfl⟩)⟩
    · obtain ⟨c0, c1, c2, c3, cf⟩ := node_of (HM2.out.node c nd hnd)
      have hclt := HM2.out.lt hnd
      rw [hh] at c2
      have HD := Lib.hid hno
      clear hfd hnd hh hno c0 c1
      go_wp2_with fail
      go_ret2
      exact ⟨HB2.out, 0, 4, rfl, .inr (.inl ⟨rfl, HD.out, rfl, rfl⟩)⟩
    · have HD := Lib.hid hno
      clear hfd hno
      go_wp2_with fail
      go_ret2
      exact ⟨HB2.out, 0, 4, rfl, .inr (.inl ⟨rfl, HD.out, rfl, rfl⟩)⟩
  · have he0 : ((er : Int) != 0) = true := by simpa using he
    have HE := Lib.hid he
    clear he
    go_wp2_with fail
    go_ret2
    exact ⟨HB1.out, 0, er, rfl, .inl ⟨HE.out, rfl, rfl⟩⟩

set_option maxHeartbeats 4000000 in
set_option maxRecDepth 100000 in
theorem dropAll_any (hG : Good N H x) (hM : IdxAt W M x H vf cnt w) (hN : N ≤ 90000) (hm : ML W) (s : ByteArray) (hs : s.size ≤ 1048576) (hc : cnt ≤ 100) (hpos : (∃ ts m, Den H x ts m) → 1 ≤ cnt) :
    Calls Tryd.prog 49 #[ptrV x, .string s] w (DropAllPost W M x N H cnt (Subj.err false s.data.toList) (pieces s.data.toList) w) := by
  have HSU := Lib.hid (Subj.subject_any s w hs (hm.below hM.below))
  have HFI := Lib.hid (fun w1 (hb : Below w.heap.size w w1) => find_any hG (hM.next hb) (by omega) (hm.below (hM.next hb).below) s hs)
  have HSP := Lib.hid (fun w1 hm1 => split_dot s w1 hs hm1)
  have hpl := Subj.pieces_size s hs
  have hne := Subj.pieces_ne s.data.toList
  generalize Subj.err false s.data.toList = er at *
  generalize pieces s.data.toList = l at *
  obtain ⟨rd, hrd, hrp⟩ := hG.root
  have hx := hM.lt hrd
  have HG := Lib.hid hG; have HM := Lib.hid hM; have HRD := Lib.hid hrd; have HML := Lib.hid hm; have HPO := Lib.hid hpos; have HRP := Lib.hid hrp; have HNE := Lib.hid hne
  clear hG hM hm hs hrd hpos hrp hne
  go_enter Tryd.func49, Tryd.ntmps49
  go_wp2_with fail
  refine HSU.out.mono ?_
  rintro e w1 ⟨rfl, hb1⟩
  have HB1 := Lib.hid hb1
  clear hb1 HSU
  by_cases he : er = 0
  · subst he
    go_wp2_with fail
    refine (HFI.out w1 HB1.out).mono ?_
    rintro e w2 ⟨hfd, hb2⟩
    have HB2 := Lib.hid (HB1.out.trans (hb2.mono HB1.out.size))
    have HM2 := Lib.hid (HM.out.next HB2.out)
    clear hb2 HFI HB1
    have HNO := Lib.hid (fun (hno : ∀ m, ¬ Den H x l m) => show DropAllPost W M x N H cnt 0 l w (.returned (.int .i64 4)) w2 from ⟨H, cnt, 4, rfl, (Next.refl HG.out HM.out).below' HB2.out, .inr (.inl ⟨rfl, hno, rfl, rfl, fun _ _ => Iff.rfl⟩)⟩)
    rcases found_cases HG.out hfd with ⟨c, nd, rfl, hgo, hnd, hh, hden⟩ | ⟨c, nd, rfl, hnd, hh, hno⟩ | ⟨rfl, hno⟩
    · obtain ⟨c0, c1, c2, c3, cf⟩ := node_of (HM2.out.node c nd hnd)
      have hclt := HM2.out.lt hnd
      rw [hh] at c2
      have hcp : 1 ≤ cnt := HPO.out ⟨l, nd.n, hden⟩
      have HD := Lib.hid hden; have HGO := Lib.hid hgo
      have HSP2 := Lib.hid (HSP.out w2.drew (HML.out.below ((HM2.out.next (Below.refl _ _).drew).below)))
      obtain ⟨g, hgg⟩ : ∃ g, w2.drew.heap.size = g := ⟨_, rfl⟩
      have HDR := Lib.hid (fun (w3 : World) (hst : StrsAt w3 g 0 l) (hb3 : Below w2.drew.heap.size w2.drew w3) => drop_any (N := N) l (v := .slice (some ⟨g, 0, none⟩) l.length l.length) HG.out ((HM2.out.next (Below.refl _ _).drew).next hb3) hN hpl HRD.out (by rw [HRP.out]; exact .nil x) ⟨c, HGO.out⟩ ⟨_, l.length, rfl, Nat.le_refl _, fun _ => ⟨g, 0, rfl, hst⟩⟩ (fun j hj hMj => by
        simp only [own, Value.ownBlock, Option.some.injEq] at hj
        have := (HM2.out.next (Below.refl _ _).drew).bM j hMj
        omega))
      have hgw : w.heap.size ≤ g := by rw [← hgg]; exact HB2.out.size
      rw [hgg] at HSP2 HDR
      have HBB := Lib.hid (show Below w.heap.size w w2.drew from HB2.out.drew)
      clear hfd hnd hh hden hgo c0 c1 c3 HNO HSP hgg
      go_wp2_with fail
      go_region_with (first
        | (go_at_call 54; (with_reducible refine HSP2.out.mono ?_); rintro e w3 ⟨rfl, hst, hb3⟩; have HST := Lib.hid hst; have HB3 := Lib.hid hb3; clear hst hb3)
        | (go_at_call 60; (with_reducible refine (HDR.out _ HST.out HB3.out).mono ?_); rintro e w4 ⟨H1, fl, nd', rfl, hnx, hdn, hb1, _, _, _⟩))
      have hnx0 := hnx.from (HBB.out.trans (HB3.out.mono hgw))
      obtain ⟨hG1, ⟨M1, vf1, hM1, hs1⟩, ht1⟩ := hnx0
      have hroot := root_of (hM1.node x nd' hb1)
      obtain ⟨d0, d1, d2, d3, df⟩ := node_of (hM1.node x nd' hb1)
      have hx4 := hM1.lt hb1
      obtain ⟨hM5, ht5⟩ := hM1.count hb1 (cnt - 1)
      rw [show ((cnt - 1 : Nat) : Int) = (cnt : Int) - 1 by omega] at hM5 ht5
      have HF := Lib.hid (show DropAllPost W M x N H cnt 0 l w (.returned (.int .i64 0)) (w4.setCell ⟨x, 4, none⟩ (.int .i64 ((cnt : Int) - 1))) from
        ⟨H1, cnt - 1, 0, rfl, ⟨hG1, ⟨M1, vf1, hM5, hs1⟩, ht1.trans ht5 fun k hk hf => by
          rcases hs1 k hf with h | h
          · exact h
          · omega⟩, .inr (.inr ⟨rfl, ⟨_, HD.out⟩, rfl, rfl, fun us m => by rw [hdn, HRP.out]; rfl⟩)⟩)
      have hwr : IntKind.i64.wrap ((cnt : Int) - 1) = (cnt : Int) - 1 := IntWalk.i64_in _ (by omega)
      clear hnx hdn hG1 hM1 hs1 ht1 hM5 ht5 hb1 d0 d1 d2 d3
      go_wp2_with fail
      go_ret
      exact HF.out
    · obtain ⟨c0, c1, c2, c3, cf⟩ := node_of (HM2.out.node c nd hnd)
      have hclt := HM2.out.lt hnd
      rw [hh] at c2
      have HD := Lib.hid (HNO.out hno)
      clear hfd hnd hh hno c0 c1 HNO
      go_wp2_with fail
      go_ret
      exact HD.out
    · have HD := Lib.hid (HNO.out hno)
      clear hfd hno HNO
      go_wp2_with fail
      go_ret
      exact HD.out
  · have he0 : ((er : Int) != 0) = true := by simpa using he
    have HF := Lib.hid (show DropAllPost W M x N H cnt er l w (.returned (.int .i64 er)) w1 from ⟨H, cnt, er, rfl, (Next.refl HG.out HM.out).below' HB1.out, .inl ⟨he, rfl, rfl, fun _ _ => Iff.rfl⟩⟩)
    clear he
    go_wp2_with fail
    go_ret
    exact HF.out
end

/-! ### New -/
def newH (x : Nat) : Hp := fun b => if b = x then some ⟨[], [], false, 0, []⟩ else none

theorem good_new (x : Nat) : Good 0 (newH x) x := by
  have key : ∀ b nd, newH x b = some nd → b = x ∧ nd = ⟨[], [], false, 0, []⟩ := by
    intro b nd h
    unfold newH at h
    split at h
    · rename_i e; cases h; exact ⟨e, rfl⟩
    · cases h
  refine ⟨⟨_, if_pos rfl, rfl⟩, fun b nd h => ?_, fun b nd h t ht => ?_, fun b nd k h hk => ?_, fun b nd h => ?_, fun b nd h => ?_⟩
  all_goals obtain ⟨rfl, rfl⟩ := key _ _ h
  · simp
  · simp at ht
  · simp at hk
  · exact List.Pairwise.nil
  · simp

theorem den_new (x : Nat) (ts : List Subj.Tok) (m : Int) : ¬ Den (newH x) x ts m := by
  rintro ⟨c, nd, g, e, h, _⟩
  unfold newH at e
  split at e
  · cases e; cases h
  · cases e

theorem idx_new {W w : World} (hb : Below W.heap.size W w) :
    IdxAt W (fun k => k = w.heap.size) w.heap.size (newH w.heap.size) (fun _ => .slice none 0 0) 0 (w.alloc (.cells #[.string ⟨#[]⟩, .slice none 0 0, .bool false, .int .i64 0, .int .i64 0] 117)) := by
  have key : ∀ b nd, newH w.heap.size b = some nd → b = w.heap.size ∧ nd = ⟨[], [], false, 0, []⟩ := by
    intro b nd h
    unfold newH at h
    split at h
    · rename_i e; cases h; exact ⟨e, rfl⟩
    · cases h
  refine ⟨hb.alloc hb.size _, fun k hk => by subst hk; exact hb.size, fun k hk => by subst hk; simp, fun b nd h => ?_, fun b nd h => ?_, fun b nd h => ?_, fun b nd c nc k h1 h2 _ _ => ?_⟩
  · obtain ⟨rfl, rfl⟩ := key _ _ h
    rw [heap_alloc_new]
    unfold nodeO
    rw [if_pos rfl]; rfl
  · obtain ⟨rfl, rfl⟩ := key _ _ h
    exact Row.nil _ _ _
  · obtain ⟨rfl, rfl⟩ := key _ _ h
    exact ⟨rfl, fun k hk => by simp [own, Value.ownBlock] at hk⟩
  · rw [(key _ _ h1).1, (key _ _ h2).1]

theorem new_any (w : World) : Calls Tryd.prog 35 #[] w fun e w' => e = .returned (ptrV w.heap.size) ∧ w' = w.alloc (.cells #[.string ⟨#[]⟩, .slice none 0 0, .bool false, .int .i64 0, .int .i64 0] 117) := by
  go_enter Tryd.func35, Tryd.ntmps35
  go_wp2
  go_ret
  exact ⟨rfl, rfl⟩
end Go.Proofs.YtapmhpnkpjgefaaDoor.Idx
