/- Parts of the proof, joined: (*Index).Drop, Get, Count; New, walked.; slices.Insert of one element of 2 cells, walked. -/
import Derived.Test.YtbgchhgdlceceaaGreatDoorStrmBaseM16
namespace Go.Proofs.YtbgchhgdlceceaaGreatDoor.Idx
open Go.RowKit Heap
open Subj (Tok ML pieces StrsAt strAt Strs)

/-- What 'Drop' does. -/
def DropAllPost (W : World) (M : Nat → Prop) (x N : Nat) (H : Hp) (cnt : Nat) (er : Nat) (ts : List Tok) (w : World) (e : Ending) (w' : World) : Prop :=
  ∃ (H' : Hp) (cnt' r : Nat), e = .returned (.int .i64 r) ∧ Next W M x N cnt' w H' w' ∧
    ((er ≠ 0 ∧ r = er ∧ cnt' = cnt ∧ SameDen H H' x) ∨
     (er = 0 ∧ (∀ m, ¬ Den H x ts m) ∧ r = 4 ∧ cnt' = cnt ∧ SameDen H H' x) ∨
     (er = 0 ∧ (∃ m, Den H x ts m) ∧ r = 0 ∧ cnt' = cnt - 1 ∧ ∀ us m, Den H' x us m ↔ us ≠ ts ∧ Den H x us m))

/-- What 'Get' answers. -/
def GetPost (H : Hp) (x er : Nat) (ts : List Tok) (w : World) (e : Ending) (w' : World) : Prop :=
  Below w.heap.size w w' ∧ ∃ (a : Int) (r : Nat), e = .returned (.tuple #[.int .i64 a, .int .i64 r]) ∧
    ((er ≠ 0 ∧ a = 0 ∧ r = er) ∨ (er = 0 ∧ (∀ m, ¬ Den H x ts m) ∧ a = 0 ∧ r = 4) ∨ (er = 0 ∧ Den H x ts a ∧ r = 0))

section
variable {W w : World} {M : Nat → Prop} {x : Nat} {H : Hp} {vf : Nat → Value} {cnt N : Nat}

theorem count_any (hG : Good N H x) (hM : IdxAt W M x H vf cnt w) :
    Calls Tryz.prog 145 #[ptrV x] w fun e w' => e = .returned (.int .i64 cnt) ∧ w = w' := by
  obtain ⟨rd, hrd, _⟩ := hG.root
  have hroot := root_of (hM.node x rd hrd)
  have hx := hM.lt hrd
  clear hG hM hrd
  go_enter Tryz.func145, Tryz.ntmps145
  go_wp2
  go_ret
  exact ⟨rfl, rfl⟩

/-- What is told of a node: by whether it is there, and has something. -/
theorem found_cases (hG : Good N H x) {ts : List Tok} {e : Ending} (h : Found H x ts e) :
    (∃ c nd, e = .returned (ptrV c) ∧ Go H x ts c ∧ H c = some nd ∧ nd.has = true ∧ Den H x ts nd.n) ∨ (∃ c nd, e = .returned (ptrV c) ∧ H c = some nd ∧ nd.has = false ∧ ∀ m, ¬ Den H x ts m) ∨ (e = .returned (.pointer none) ∧ ∀ m, ¬ Den H x ts m) := by
  rcases h with ⟨c, nd, rfl, h1, h2⟩ | ⟨rfl, h1⟩
  · cases hh : nd.has with
    | true => exact .inl ⟨c, nd, rfl, h1, h2, hh, c, nd, h1, h2, hh, rfl⟩
    | false =>
      refine .inr (.inl ⟨c, nd, rfl, h2, hh, ?_⟩)
      rintro m ⟨c', nd', g', e', h', _⟩
      have := hG.go_det h1 g'
      subst this
      rw [h2] at e'; cases e'
      rw [hh] at h'; cases h'
  · exact .inr (.inr ⟨rfl, fun m ⟨c', nd', g', _⟩ => h1 c' g'⟩)

set_option maxHeartbeats 4000000 in
set_option maxRecDepth 100000 in
theorem get_any (hG : Good N H x) (hM : IdxAt W M x H vf cnt w) (hN : N ≤ 90000) (hm : ML W) (s : ByteArray) (hs : s.size ≤ 1048576) :
    Calls Tryz.prog 144 #[ptrV x, .string s] w (GetPost H x (Subj.err false s.data.toList) (pieces s.data.toList) w) := by
  have HSU := Lib.hid (Subj.subject_any s w hs (hm.below hM.below))
  have HFI := Lib.hid (fun w1 (hb : Below w.heap.size w w1) => find_any hG (hM.next hb) (by omega) (hm.below (hM.next hb).below) s hs)
  generalize Subj.err false s.data.toList = er at *
  generalize pieces s.data.toList = l at *
  have HG := Lib.hid hG; have HM := Lib.hid hM
  clear hG hM hm hs
  go_enter Tryz.func144, Tryz.ntmps144
  go_wp2_with fail
  refine HSU.out.mono ?_
  rintro e w1 ⟨rfl, hb1⟩
  have HB1 := Lib.hid hb1
  clear hb1 HSU
  by_cases he : er = 0
  · subst he
    go_wp2_with fail
    refine (HFI.out w1 HB1.out).mono ?_
    rintro e w2 ⟨hfd, hb2⟩
    have HB2 := Lib.hid (HB1.out.trans (hb2.mono HB1.out.size))
    have HM2 := Lib.hid (HM.out.next HB2.out)
    clear hb2 HFI HB1
    rcases found_cases HG.out hfd with ⟨c, nd, rfl, _, hnd, hh, hden⟩ | ⟨c, nd, rfl, hnd, hh, hno⟩ | ⟨rfl, hno⟩
    · obtain ⟨c0, c1, c2, c3, cf⟩ := node_of (HM2.out.node c nd hnd)
      have hclt := HM2.out.lt hnd
      rw [hh] at c2
      have HD := Lib.hid hden
      clear hfd hnd hh hden c0 c1
      go_wp2_with fail
      go_ret2
      exact ⟨HB2.out, nd.n, 0, rfl, .inr (.inr ⟨rfl, HD.out, rfl⟩)⟩
    · obtain ⟨c0, c1, c2, c3, cf⟩ := node_of (HM2.out.node c nd hnd)
      have hclt := HM2.out.lt hnd
      rw [hh] at c2
      have HD := Lib.hid hno
      clear hfd hnd hh hno c0 c1
      go_wp2_with fail
      go_ret2
      exact ⟨HB2.out, 0, 4, rfl, .inr (.inl ⟨rfl, HD.out, rfl, rfl⟩)⟩
    · have HD := Lib.hid hno
      clear hfd hno
      go_wp2_with fail
      go_ret2
      exact ⟨HB2.out, 0, 4, rfl, .inr (.inl ⟨rfl, HD.out, rfl, rfl⟩)⟩
  · have he0 : ((er : Int) != 0) = true := by simpa using he
    have HE := Lib.hid he
    clear he
    go_wp2_with fail
    go_ret2
    exact ⟨HB1.out, 0, er, rfl, .inl ⟨HE.out, rfl, rfl⟩⟩

set_option maxHeartbeats 4000000 in
set_option maxRecDepth 100000 in
theorem dropAll_any (hG : Good N H x) (hM : IdxAt W M x H vf cnt w) (hN : N ≤ 90000) (hm : ML W) (s : ByteArray) (hs : s.size ≤ 1048576) (hc : cnt ≤ 100) (hpos : (∃ ts m, Den H x ts m) → 1 ≤ cnt) :
    Calls Tryz.prog 146 #[ptrV x, .string s] w (DropAllPost W M x N H cnt (Subj.err false s.data.toList) (pieces s.data.toList) w) := by
  have HSU := Lib.hid (Subj.subject_any s w hs (hm.below hM.below))
  have HFI := Lib.hid (fun w1 (hb : Below w.heap.size w w1) => find_any hG (hM.next hb) (by omega) (hm.below (hM.next hb).below) s hs)
  have HSP := Lib.hid (fun w1 hm1 => split_dot s w1 hs hm1)
  have hpl := Subj.pieces_size s hs
  have hne := Subj.pieces_ne s.data.toList
  generalize Subj.err false s.data.toList = er at *
  generalize pieces s.data.toList = l at *
  obtain ⟨rd, hrd, hrp⟩ := hG.root
  have hx := hM.lt hrd
  have HG := Lib.hid hG; have HM := Lib.hid hM; have HRD := Lib.hid hrd; have HML := Lib.hid hm; have HPO := Lib.hid hpos; have HRP := Lib.hid hrp; have HNE := Lib.hid hne
  clear hG hM hm hs hrd hpos hrp hne
  go_enter Tryz.func146, Tryz.ntmps146
  go_wp2_with fail
  refine HSU.out.mono ?_
  rintro e w1 ⟨rfl, hb1⟩
  have HB1 := Lib.hid hb1
  clear hb1 HSU
  by_cases he : er = 0
  · subst he
    go_wp2_with fail
    refine (HFI.out w1 HB1.out).mono ?_
    rintro e w2 ⟨hfd, hb2⟩
    have HB2 := Lib.hid (HB1.out.trans (hb2.mono HB1.out.size))
    have HM2 := Lib.hid (HM.out.next HB2.out)
    clear hb2 HFI HB1
    have HNO := Lib.hid (fun (hno : ∀ m, ¬ Den H x l m) => show DropAllPost W M x N H cnt 0 l w (.returned (.int .i64 4)) w2 from ⟨H, cnt, 4, rfl, (Next.refl HG.out HM.out).below' HB2.out, .inr (.inl ⟨rfl, hno, rfl, rfl, fun _ _ => Iff.rfl⟩)⟩)
    rcases found_cases HG.out hfd with ⟨c, nd, rfl, hgo, hnd, hh, hden⟩ | ⟨c, nd, rfl, hnd, hh, hno⟩ | ⟨rfl, hno⟩
    · obtain ⟨c0, c1, c2, c3, cf⟩ := node_of (HM2.out.node c nd hnd)
      have hclt := HM2.out.lt hnd
      rw [hh] at c2
      have hcp : 1 ≤ cnt := HPO.out ⟨l, nd.n, hden⟩
      have HD := Lib.hid hden; have HGO := Lib.hid hgo
      have HSP2 := Lib.hid (HSP.out w2.drew (HML.out.below ((HM2.out.next (Below.refl _ _).drew).below)))
      obtain ⟨g, hgg⟩ : ∃ g, w2.drew.heap.size = g := ⟨_, rfl⟩
      have HDR := Lib.hid (fun (w3 : World) (hst : StrsAt w3 g 0 l) (hb3 : Below w2.drew.heap.size w2.drew w3) => drop_any (N := N) l (v := .slice (some ⟨g, 0, none⟩) l.length l.length) HG.out ((HM2.out.next (Below.refl _ _).drew).next hb3) hN hpl HRD.out (by rw [HRP.out]; exact .nil x) ⟨c, HGO.out⟩ ⟨_, l.length, rfl, Nat.le_refl _, fun _ => ⟨g, 0, rfl, hst⟩⟩ (fun j hj hMj => by
        simp only [own, Value.ownBlock, Option.some.injEq] at hj
        have := (HM2.out.next (Below.refl _ _).drew).bM j hMj
        omega))
      have hgw : w.heap.size ≤ g := by rw [← hgg]; exact HB2.out.size
      rw [hgg] at HSP2 HDR
      have HBB := Lib.hid (show Below w.heap.size w w2.drew from HB2.out.drew)
      clear hfd hnd hh hden hgo c0 c1 c3 HNO HSP hgg
      go_wp2_with fail
      go_region_with (first
        | (go_at_call 151; (with_reducible refine HSP2.out.mono ?_); rintro e w3 ⟨rfl, hst, hb3⟩; have HST := Lib.hid hst; have HB3 := Lib.hid hb3; clear hst hb3)
        | (go_at_call 202; (with_reducible refine (HDR.out _ HST.out HB3.out).mono ?_); rintro e w4 ⟨H1, fl, nd', rfl, hnx, hdn, hb1, _, _, _⟩))
      have hnx0 := hnx.from (HBB.out.trans (HB3.out.mono hgw))
      obtain ⟨hG1, ⟨M1, vf1, hM1, hs1⟩, ht1⟩ := hnx0
      have hroot := root_of (hM1.node x nd' hb1)
      obtain ⟨d0, d1, d2, d3, df⟩ := node_of (hM1.node x nd' hb1)
      have hx4 := hM1.lt hb1
      obtain ⟨hM5, ht5⟩ := hM1.count hb1 (cnt - 1)
      rw [show ((cnt - 1 : Nat) : Int) = (cnt : Int) - 1 by omega] at hM5 ht5
      have HF := Lib.hid (show DropAllPost W M x N H cnt 0 l w (.returned (.int .i64 0)) (w4.setCell ⟨x, 4, none⟩ (.int .i64 ((cnt : Int) - 1))) from
        ⟨H1, cnt - 1, 0, rfl, ⟨hG1, ⟨M1, vf1, hM5, hs1⟩, ht1.trans ht5 fun k hk hf => by
          rcases hs1 k hf with h | h
          · exact h
          · omega⟩, .inr (.inr ⟨rfl, ⟨_, HD.out⟩, rfl, rfl, fun us m => by rw [hdn, HRP.out]; rfl⟩)⟩)
      have hwr : IntKind.i64.wrap ((cnt : Int) - 1) = (cnt : Int) - 1 := IntWalk.i64_in _ (by omega)
      clear hnx hdn hG1 hM1 hs1 ht1 hM5 ht5 hb1 d0 d1 d2 d3
      go_wp2_with fail
      go_ret
      exact HF.out
    · obtain ⟨c0, c1, c2, c3, cf⟩ := node_of (HM2.out.node c nd hnd)
      have hclt := HM2.out.lt hnd
      rw [hh] at c2
      have HD := Lib.hid (HNO.out hno)
      clear hfd hnd hh hno c0 c1 HNO
      go_wp2_with fail
      go_ret
      exact HD.out
    · have HD := Lib.hid (HNO.out hno)
      clear hfd hno HNO
      go_wp2_with fail
      go_ret
      exact HD.out
  · have he0 : ((er : Int) != 0) = true := by simpa using he
    have HF := Lib.hid (show DropAllPost W M x N H cnt er l w (.returned (.int .i64 er)) w1 from ⟨H, cnt, er, rfl, (Next.refl HG.out HM.out).below' HB1.out, .inl ⟨he, rfl, rfl, fun _ _ => Iff.rfl⟩⟩)
    clear he
    go_wp2_with fail
    go_ret
    exact HF.out
end

/-! ### New -/
def newH (x : Nat) : Hp := fun b => if b = x then some ⟨[], [], false, 0, []⟩ else none

theorem good_new (x : Nat) : Good 0 (newH x) x := by
  have key : ∀ b nd, newH x b = some nd → b = x ∧ nd = ⟨[], [], false, 0, []⟩ := by
    intro b nd h
    unfold newH at h
    split at h
    · rename_i e; cases h; exact ⟨e, rfl⟩
    · cases h
  refine ⟨⟨_, if_pos rfl, rfl⟩, fun b nd h => ?_, fun b nd h t ht => ?_, fun b nd k h hk => ?_, fun b nd h => ?_, fun b nd h => ?_⟩
  all_goals obtain ⟨rfl, rfl⟩ := key _ _ h
  · simp
  · simp at ht
  · simp at hk
  · exact List.Pairwise.nil
  · simp

theorem den_new (x : Nat) (ts : List Tok) (m : Int) : ¬ Den (newH x) x ts m := by
  rintro ⟨c, nd, g, e, h, _⟩
  unfold newH at e
  split at e
  · cases e; cases h
  · cases e

theorem idx_new {W w : World} (hb : Below W.heap.size W w) :
    IdxAt W (fun k => k = w.heap.size) w.heap.size (newH w.heap.size) (fun _ => .slice none 0 0) 0 (w.alloc (.cells #[.string ⟨#[]⟩, .slice none 0 0, .bool false, .int .i64 0, .int .i64 0] 222)) := by
  have key : ∀ b nd, newH w.heap.size b = some nd → b = w.heap.size ∧ nd = ⟨[], [], false, 0, []⟩ := by
    intro b nd h
    unfold newH at h
    split at h
    · rename_i e; cases h; exact ⟨e, rfl⟩
    · cases h
  refine ⟨hb.alloc hb.size _, fun k hk => by subst hk; exact hb.size, fun k hk => by subst hk; simp, fun b nd h => ?_, fun b nd h => ?_, fun b nd h => ?_, fun b nd c nc k h1 h2 _ _ => ?_⟩
  · obtain ⟨rfl, rfl⟩ := key _ _ h
    rw [heap_alloc_new]
    unfold nodeO
    rw [if_pos rfl]; rfl
  · obtain ⟨rfl, rfl⟩ := key _ _ h
    exact Row.nil _ _ _
  · obtain ⟨rfl, rfl⟩ := key _ _ h
    exact ⟨rfl, fun k hk => by simp [own, Value.ownBlock] at hk⟩
  · rw [(key _ _ h1).1, (key _ _ h2).1]

theorem new_any (w : World) : Calls Tryz.prog 69 #[] w fun e w' => e = .returned (ptrV w.heap.size) ∧ w' = w.alloc (.cells #[.string ⟨#[]⟩, .slice none 0 0, .bool false, .int .i64 0, .int .i64 0] 222) := by
  go_enter Tryz.func69, Tryz.ntmps69
  go_wp2
  go_ret
  exact ⟨rfl, rfl⟩
end Go.Proofs.YtbgchhgdlceceaaGreatDoor.Idx

namespace Go.Proofs.YtbgchhgdlceceaaGreatDoor.Shf.Ins
open Go.RowKit Heap

/-- 'copy' into a row of elements of so many cells each. -/
theorem run_copyN {P : Program} (w : World) (dT sT ty elem : TypeId) (size g o dLen dCap : Nat) (a : Addr) (sLen sCap : Nat) (cur : Array Value) (t : TypeId) (cs : List Value) (m : Nat)
    (hu : P.underlying dT = some (.slice elem)) (hs : (P.info? elem).map (·.size) = some size)
    (hg : w.heap[g]? = some (.cells cur t (0, 0))) (hm : Nat.min sLen dLen = m) (hn : cs.length = m * size)
    (hsrc : ∀ j v, cs[j]? = some v → w.cell? (a.add j) = some v) (hfit : o + cs.length ≤ cur.size) (h1 : ∀ v ∈ cs, v.oneCell' = true) :
    (Builtin.copy_ #[dT, sT] ty #[.slice (some ⟨g, o, none⟩) dLen dCap, .slice (some a) sLen sCap]).run P w =
      .ok (goInt m) (w.setRow g (cur.toList.take o ++ cs ++ cur.toList.drop (o + cs.length)).toArray) := by
  have hl := run_loadCells_list (P := P) w a cs hsrc
  have hst := run_storeCells_at P g o t cs 0 cur w hg (by simpa using hfit) h1
  cases hq : P.info? elem with
  | none => simp [hq] at hs
  | some i =>
    have hi : i.size = size := by simpa [hq] using hs
    rw [hn] at hl hst
    simp [Builtin.copy_, run_underlying hu, Builtin.lenOf, Builtin.firstCells, sizeOf, typeInfo, hq, hi, hm, hl, hst, hn]

theorem shift_list {P X1 X2 R N : List Value} {A : List Value} (hA : A.length = P.length + X1.length + N.length) (hAt : A.take (P.length + X1.length) = P ++ X1) :
    (A ++ X2 ++ R).take (P.length + X1.length) ++ N ++ (A ++ X2 ++ R).drop (P.length + X1.length + N.length) = P ++ (X1 ++ N ++ X2) ++ R := by
  rw [List.append_assoc A, List.take_append, hAt, List.drop_append, ← hA, List.drop_length, Nat.sub_self, List.drop_zero]
  rw [show P.length + X1.length - A.length = 0 by omega, List.take_zero]
  simp

theorem setRow_other (w : World) (g k : Nat) (cs : Array Value) (h : k ≠ g) : (w.setRow g cs).heap[k]? = w.heap[k]? := by
  simp only [World.setRow, Array.getElem?_modify]
  rw [if_neg (fun e => h e.symm)]

theorem touch_setRow {F : Nat → Prop} {a w : World} (h : Heap.Touch F a w) {g : Nat} (hg : F g) (cs : Array Value) : Heap.Touch F a (w.setRow g cs) :=
  ⟨h.os, h.tape, h.output, by simp [World.setRow]; exact h.size, fun k hk hn => by rw [setRow_other _ _ _ _ (fun e => hn (by rw [e]; exact hg))]; exact h.block k hk hn⟩

/-- The array behind an insertion in place. -/
theorem room_list {cur N X1 X2 : List Value} {off i n cap : Nat} (hi : i < n) (hroom : n + 1 ≤ cap) (hN : N.length = 2) (h3 : off + cap * 2 ≤ cur.length) (hx : (cur.drop off).take (n * 2) = X1 ++ X2) (h1 : X1.length = i * 2) (h2 : X2.length = (n - i) * 2) :
    let c1 := cur.take (off + (i + 1) * 2) ++ X2 ++ cur.drop (off + (i + 1) * 2 + (n - i) * 2)
    let c2 := c1.take (off + i * 2) ++ N ++ c1.drop (off + i * 2 + 2)
    (c2.drop off).take ((n + 1) * 2) = X1 ++ N ++ X2 ∧ c2.length = cur.length ∧ c1.length = cur.length := by
  have hP : (cur.take off).length = off := by rw [List.length_take]; omega
  have hX1 : (cur.take (off + (i + 1) * 2)).take (off + i * 2) = cur.take off ++ X1 := by
    rw [List.take_take, show min (off + i * 2) (off + (i + 1) * 2) = off + i * 2 by omega]
    have e1 : X1 = (X1 ++ X2).take (i * 2) := by rw [← h1]; exact (List.take_left).symm
    have this : X1 = (cur.drop off).take (i * 2) := by
      rw [e1, ← hx, List.take_take, show min (i * 2) (n * 2) = i * 2 by omega]
    rw [this, List.take_add]
  have hA : (cur.take (off + (i + 1) * 2)).length = (cur.take off).length + X1.length + N.length := by rw [hP, h1, hN, List.length_take]; omega
  have hs := shift_list (X2 := X2) (R := cur.drop (off + (i + 1) * 2 + (n - i) * 2)) (N := N) hA (by rw [hP, h1]; exact hX1)
  rw [hP, h1, hN] at hs
  intro c1 c2
  have e2 : c2 = cur.take off ++ (X1 ++ N ++ X2) ++ cur.drop (off + (i + 1) * 2 + (n - i) * 2) := hs
  have hl : (X1 ++ N ++ X2).length = (n + 1) * 2 := by simp only [List.length_append, h1, h2, hN]; omega
  refine ⟨?_, ?_, ?_⟩
  · rw [e2, List.append_assoc, List.drop_append, hP, Nat.sub_self, List.drop_zero, List.drop_of_length_le (by omega), List.nil_append, List.take_append, hl, Nat.sub_self, List.take_zero, List.append_nil, List.take_of_length_le (by omega)]
  · rw [e2]
    simp only [List.length_append, hP, List.length_drop] at hl ⊢
    omega
  · show (cur.take (off + (i + 1) * 2) ++ X2 ++ cur.drop (off + (i + 1) * 2 + (n - i) * 2)).length = _
    simp only [List.length_append, List.length_take, List.length_drop, h2]
    omega

/-- The new array. -/
theorem grow_list {row N X1 X2 : List Value} {i n G : Nat} (hi : i < n) (hG : n + 1 ≤ G) (hN : N.length = 2) (hr : row.length = G * 2) (hx : row.take (i * 2) = X1) (h1 : X1.length = i * 2) (h2 : X2.length = (n - i) * 2) :
    let c1 := row.take (i * 2) ++ N ++ row.drop (i * 2 + 2)
    let c2 := c1.take ((i + 1) * 2) ++ X2 ++ c1.drop ((i + 1) * 2 + (n - i) * 2)
    c2.take ((n + 1) * 2) = X1 ++ N ++ X2 ∧ c2.length = G * 2 ∧ c1.length = G * 2 := by
  intro c1 c2
  have e1 : c1.take ((i + 1) * 2) = X1 ++ N := by
    show (row.take (i * 2) ++ N ++ row.drop (i * 2 + 2)).take ((i + 1) * 2) = _
    rw [hx]
    have : (X1 ++ N).length = (i + 1) * 2 := by rw [List.length_append, h1, hN]; omega
    rw [← this]; exact List.take_left
  have l1 : c1.length = G * 2 := by
    show (row.take (i * 2) ++ N ++ row.drop (i * 2 + 2)).length = _
    rw [hx]
    simp only [List.length_append, List.length_drop, h1, hN, hr]; omega
  refine ⟨?_, ?_, l1⟩
  · show (c1.take ((i + 1) * 2) ++ X2 ++ c1.drop ((i + 1) * 2 + (n - i) * 2)).take ((n + 1) * 2) = _
    rw [e1]
    have : (X1 ++ N ++ X2).length = (n + 1) * 2 := by simp only [List.length_append, h1, h2, hN]; omega
    rw [← this]; exact List.take_left
  · show (c1.take ((i + 1) * 2) ++ X2 ++ c1.drop ((i + 1) * 2 + (n - i) * 2)).length = _
    rw [e1]
    simp only [List.length_append, List.length_drop, h1, h2, hN, l1]; omega

theorem info_el : (Tryz.prog.info? 124).map (fun i => (i.zero, i.size, i.bytes)) = some (some (Value.agg #[.string ⟨#[]⟩, .int .i64 0]), 2, 24) := by kernel_rfl

/-- What is behind it all. -/
def InsPost (w : World) (v : Value) (n i : Nat) (xs N : List Value) (e : Ending) (w' : World) : Prop :=
  ∃ v', e = .returned v' ∧ Row w' 124 2 v' (n + 1) (xs.take (i * 2) ++ N ++ xs.drop (i * 2)) ∧ Heap.Touch (own v) w w' ∧ ∀ k, own v' k → own v k ∨ w.heap.size ≤ k

section
variable {w : World} {n i vb : Nat} {xs N : List Value}

set_option maxHeartbeats 2000000 in
set_option maxRecDepth 100000 in
/-- At the end. -/
theorem insert_end (v : Value) (hn : n ≤ 200000) (hrow : Row w 124 2 v n xs) (hN : N.length = 2) (hone : ∀ u ∈ N, u.oneCell' = true) (hvb : w.heap[vb]? = some (.cells N.toArray 124 (0, 0))) :
    Calls Tryz.prog 223 #[v, .int .i64 n, .slice (some ⟨vb, 0, none⟩) 1 1] w (InsPost w v n n xs N) := by
  have HR := Lib.hid hrow
  have hnews : ∀ j u, N[j]? = some u → w.cell? ((⟨vb, 0, none⟩ : Addr).add j) = some u := fun j u hj => by
    rw [Addr.add_lit, cell_of_row w vb (0 + j) _ _ _ hvb, Nat.zero_add, List.getElem?_toArray]; exact hj
  have hN1 : N.length = 1 * 2 := hN
  have HE := Lib.hid (show xs.take (n * 2) ++ N ++ xs.drop (n * 2) = xs ++ N from by
    have := hrow.1
    rw [List.take_of_length_le (by omega), List.drop_of_length_le (by omega), List.append_nil])
  unfold InsPost
  rw [HE.out]
  have HNW := Lib.hid hnews; have HO := Lib.hid hone; have HN1 := Lib.hid hN1
  clear hnews hone hN hN1
  obtain ⟨i0, hi, hz0, hz1, hz2⟩ := info_parts info_el
  rcases hrow.2 with ⟨rfl, rfl⟩ | ⟨g, off, cap, cur, rfl, hg, h1, h2, _⟩
  · clear hrow hvb
    go_enter Tryz.func223, Tryz.ntmps223
    go_wp2_with (at_builtin; refine Heap.wpList_append_row _ rfl (.tmp 23) (.tmp 24) 120 rfl 124 i0 _ 2 24 Tryz.underlying120 hi hz0 hz1 hz2 rfl (by decide) _ 0 _ rfl HR.out ⟨vb, 0, none⟩ 1 1 N rfl HN1.out HNW.out HO.out (by unfold maxLen; omega) (by omega) ?_)
    intro v2 w3 r3 t3 o3
    have HF := Lib.hid (⟨r3, t3, o3⟩ : Row w3 124 2 v2 (0 + 1) (xs ++ N) ∧ Heap.Touch (own (.slice none 0 0)) w w3 ∧ ∀ k, own v2 k → own (.slice none 0 0) k ∨ w.heap.size ≤ k)
    clear r3 t3 o3
    go_wp2
    go_ret
    exact ⟨_, rfl, HF.out⟩
  · clear hrow hvb hg
    have hnc : (n : Int) ≤ (n : Int) := Int.le_refl _
    go_enter Tryz.func223, Tryz.ntmps223
    go_wp2_with (at_builtin; refine Heap.wpList_append_row _ rfl (.tmp 23) (.tmp 24) 120 rfl 124 i0 _ 2 24 Tryz.underlying120 hi hz0 hz1 hz2 rfl (by decide) _ n _ rfl HR.out ⟨vb, 0, none⟩ 1 1 N rfl HN1.out HNW.out HO.out (by unfold maxLen; omega) (by omega) ?_)
    all_goals
      intro v2 w3 r3 t3 o3
      have HF := Lib.hid (⟨r3, t3, o3⟩ : Row w3 124 2 v2 (n + 1) (xs ++ N) ∧ Heap.Touch (own (.slice (some ⟨g, off, none⟩) n cap)) w w3 ∧ ∀ k, own v2 k → own (.slice (some ⟨g, off, none⟩) n cap) k ∨ w.heap.size ≤ k)
      clear r3 t3 o3
      go_wp2
      go_ret
      exact ⟨_, rfl, HF.out⟩

set_option maxHeartbeats 4000000 in
set_option maxRecDepth 100000 in
theorem insert_room (g off cap : Nat) (hn : n ≤ 200000) (hi : i < n) (hroom : n + 1 ≤ cap) (hrow : Row w 124 2 (.slice (some ⟨g, off, none⟩) n cap) n xs) (hones : ∀ u ∈ xs, u.oneCell' = true) (hN : N.length = 2) (hone : ∀ u ∈ N, u.oneCell' = true) (hvb : w.heap[vb]? = some (.cells N.toArray 124 (0, 0))) (hne : vb ≠ g) :
    Calls Tryz.prog 223 #[.slice (some ⟨g, off, none⟩) n cap, .int .i64 i, .slice (some ⟨vb, 0, none⟩) 1 1] w (InsPost w (.slice (some ⟨g, off, none⟩) n cap) n i xs N) := by
  have hrow2 := hrow.2
  have hxl := hrow.1
  rcases hrow2 with ⟨h2, _⟩ | ⟨g', off', cap', cur, hv, hg, h1, h2, h3, h4⟩
  · cases h2
  simp only [Value.slice.injEq, Option.some.injEq, Addr.mk.injEq] at hv
  obtain ⟨⟨rfl, rfl, _⟩, _, rfl⟩ := hv
  have hX : xs = xs.take (i * 2) ++ xs.drop (i * 2) := (List.take_append_drop _ _).symm
  have hX1 : (xs.take (i * 2)).length = i * 2 := by rw [List.length_take, hxl]; omega
  have hX2 : (xs.drop (i * 2)).length = (n - i) * 2 := by rw [List.length_drop, hxl, Nat.sub_mul]
  have hlist := room_list (N := N) hi hroom hN (by rw [Array.length_toList]; exact h3) (h4.trans hX) hX1 hX2
  obtain ⟨C1, hC1⟩ : ∃ C1 : Array Value, C1 = (cur.toList.take (off + (i + 1) * 2) ++ xs.drop (i * 2) ++ cur.toList.drop (off + (i + 1) * 2 + (n - i) * 2)).toArray := ⟨_, rfl⟩
  obtain ⟨C2, hC2⟩ : ∃ C2 : Array Value, C2 = (C1.toList.take (off + i * 2) ++ N ++ C1.toList.drop (off + i * 2 + 2)).toArray := ⟨_, rfl⟩
  have hc1s : C1.size = cur.size := by rw [hC1, List.size_toArray, hlist.2.2, Array.length_toList]
  have hc2 : (C2.toList.drop off).take ((n + 1) * 2) = xs.take (i * 2) ++ N ++ xs.drop (i * 2) ∧ C2.size = cur.size := by
    rw [hC2, hC1]
    exact ⟨hlist.1, by rw [List.size_toArray, hlist.2.1, Array.length_toList]⟩
  have hcn : ∀ j u, N[j]? = some u → w.cell? ((⟨vb, 0, none⟩ : Addr).add j) = some u := fun j u hj => by
    rw [Addr.add_lit, cell_of_row w vb (0 + j) _ _ _ hvb, Nat.zero_add, List.getElem?_toArray]; exact hj
  have hov : ∀ lb cb, (callFunc 252 #[.slice (some ⟨vb, 0, none⟩) 1 1, .slice (some ⟨g, off + (i + 1) * 2, none⟩) lb cb]).run Tryz.prog w = .ok (.value (.bool false)) w := fun lb cb => by
    have hsz : cur.size ≠ 0 := by omega
    rw [run_callFunc_extern Tryz.func252 (by kernel_rfl) (by kernel_rfl) (by kernel_rfl) (e := Extern.SlicesOverlaps.overlaps #[120, 120] #[4]) (by kernel_rfl),
      Lib.run_overlaps_apart w 120 4 124 Tryz.underlying120 2 Tryz.sizeOf124 ⟨vb, 0, none⟩ ⟨g, off + (i + 1) * 2, none⟩ 1 1 lb cb hne 124 124 2 cur.size (by simp [World.shape?, hvb, hN]) (by simp [World.shape?, hg]) hsz (frozen_of_row w vb 0 _ _ hvb) (frozen_of_row w vb 2 _ _ hvb)]
    rfl
  have hcp1 : ∀ ty dc sc, (Builtin.copy_ #[120, 120] ty #[.slice (some ⟨g, off + (i + 1) * 2, none⟩) (n - i) dc, .slice (some ⟨g, off + i * 2, none⟩) (n + 1 - i) sc]).run Tryz.prog w.drew = .ok (goInt ((n - i : Nat) : Int)) (w.drew.setRow g C1) := fun ty dc sc => by
    have h := run_copyN w.drew 120 120 ty 124 2 g (off + (i + 1) * 2) (n - i) dc ⟨g, off + i * 2, none⟩ (n + 1 - i) sc cur 124 (xs.drop (i * 2)) (n - i) Tryz.underlying120 (by kernel_rfl) hg (by simp only [Nat.min_def]; split <;> omega) hX2
      (fun j v hj => by
        rw [List.getElem?_drop] at hj
        rw [Addr.add_lit]
        have hjl := (List.getElem?_eq_some_iff.1 hj).1
        rw [hxl] at hjl
        have := (hrow.cell (i * 2 + j) (by omega)).1
        rw [← Nat.add_assoc] at this
        exact this.trans hj) (by rw [hX2]; omega) (fun v hv => hones v (List.mem_of_mem_drop hv))
    rw [hX2] at h
    rw [hC1]
    exact h
  have hg1 : (w.drew.setRow g C1).heap[g]? = some (.cells C1 124 (0, 0)) := setRow_heap w.drew g cur C1 _ (0, 0) hg
  have hcp2 : ∀ ty dc, (Builtin.copy_ #[120, 120] ty #[.slice (some ⟨g, off + i * 2, none⟩) (n + 1 - i) dc, .slice (some ⟨vb, 0, none⟩) 1 1]).run Tryz.prog (w.drew.setRow g C1) = .ok (goInt 1) ((w.drew.setRow g C1).setRow g C2) := fun ty dc => by
    have h := run_copyN (w.drew.setRow g C1) 120 120 ty 124 2 g (off + i * 2) (n + 1 - i) dc ⟨vb, 0, none⟩ 1 1 C1 124 N 1 Tryz.underlying120 (by kernel_rfl) hg1 (by simp only [Nat.min_def]; split <;> omega) hN
      (fun j v hj => by
        have hvb1 : (w.drew.setRow g C1).heap[vb]? = some (.cells N.toArray 124 (0, 0)) := (setRow_other _ _ _ _ hne).trans hvb
        rw [Addr.add_lit, cell_of_row _ vb (0 + j) _ _ _ hvb1, Nat.zero_add, List.getElem?_toArray]; exact hj) (by rw [hc1s, hN]; omega) hone
    rw [hN] at h
    rw [hC2]
    exact h
  have hend : Row ((w.drew.setRow g C1).setRow g C2) 124 2 (.slice (some ⟨g, off, none⟩) (n + 1) cap) (n + 1) (xs.take (i * 2) ++ N ++ xs.drop (i * 2)) ∧ Heap.Touch (own (.slice (some ⟨g, off, none⟩) n cap)) w ((w.drew.setRow g C1).setRow g C2) := by
    refine ⟨⟨by simp only [List.length_append, hX1, hX2, hN]; omega, .inr ⟨g, off, cap, C2, rfl, setRow_heap _ g C1 C2 _ (0, 0) hg1, hroom, h2, by rw [hc2.2]; exact h3, hc2.1⟩⟩, touch_setRow (touch_setRow (Heap.Touch.refl _ w).drew (by simp [own, Value.ownBlock]) _) (by simp [own, Value.ownBlock]) _⟩
  have HEND := Lib.hid hend
  have hz2 : ¬ ((i : Int) = (n : Int)) := by omega
  have hw1 : IntKind.i64.wrap ((i : Int) + 1) = (i : Int) + 1 := IntWalk.i64_in _ (by omega)
  have hw2 : IntKind.i64.wrap ((n : Int) + 1) = (n : Int) + 1 := IntWalk.i64_in _ (by omega)
  have hb1 : (0 : Int) ≤ (i : Int) + 1 := by omega
  have hin : i ≤ n := by omega
  have htn : ((i : Int) + 1).toNat = i + 1 := by omega
  have htn2 : ((n : Int) + 1).toNat = n + 1 := by omega
  have hb2 : ¬ (cap = i + 1) := by omega
  have hb3 : (i : Int) ≤ (n : Int) + 1 := by omega
  have hb3' : (i : Int) + 1 ≤ (n : Int) + 1 := by omega
  have hb4 : ¬ (cap = i) := by omega
  have hb5 : (n : Int) + 1 ≤ cap := by omega
  clear hX hX1 hX2 hones hone hlist hC1 hC2 hc1s hc2 hg1 hend h1 h3 h4 hg hrow hvb hxl hcn hN
  skip
  go_enter Tryz.func223, Tryz.ntmps223
  go_wp2_with (simp only [hov])
  go_region_law ((refine step_copy_runI rfl _ _ 120 120 rfl _ _ (by simp [Act.eval, Act.put]) (by simp [Act.eval, Act.put]) (hcp1 _ _ _) ?_))
  go_wp2_with (at_builtin; refine wpList_copy_runI _ rfl _ _ 120 120 rfl _ _ rfl rfl (hcp2 _ _) ?_)
  go_ret
  exact ⟨_, rfl, HEND.out.1, HEND.out.2, fun k hk => .inl hk⟩

set_option maxHeartbeats 4000000 in
set_option maxRecDepth 100000 in
theorem insert_grow (g off cap : Nat) (hn : n ≤ 200000) (hi : i < n) (hroom : cap < n + 1) (hrow : Row w 124 2 (.slice (some ⟨g, off, none⟩) n cap) n xs) (hones : ∀ u ∈ xs, u.oneCell' = true) (hN : N.length = 2) (hone : ∀ u ∈ N, u.oneCell' = true) (hvb : w.heap[vb]? = some (.cells N.toArray 124 (0, 0))) :
    Calls Tryz.prog 223 #[.slice (some ⟨g, off, none⟩) n cap, .int .i64 i, .slice (some ⟨vb, 0, none⟩) 1 1] w (InsPost w (.slice (some ⟨g, off, none⟩) n cap) n i xs N) := by
  obtain ⟨hncap, hcapm⟩ := hrow.cap_le
  have hxl := hrow.1
  have hX1 : (xs.take (i * 2)).length = i * 2 := by rw [List.length_take, hxl]; omega
  have hX2 : (xs.drop (i * 2)).length = (n - i) * 2 := by rw [List.length_drop, hxl, Nat.sub_mul]
  have hcellR : ∀ j v, xs[j]? = some v → w.cell? ⟨g, off + j, none⟩ = some v := fun j v hj => by
    have hjl := (List.getElem?_eq_some_iff.1 hj).1
    rw [hxl] at hjl
    exact (hrow.cell j (by omega)).1.trans hj
  obtain ⟨i0, hi0, hz0, hzs, hzb⟩ := info_parts info_el
  have hglt : g < w.heap.size := by
    have := hrow.lt g (by simp [own, Value.ownBlock]); exact this
  have hvlt : vb < w.heap.size := heap_lt hvb
  have hkk : (n : Int) + 1 - (i : Int) = ((n + 1 - i : Nat) : Int) := by omega
  have hik : i + (n + 1 - i) = n + 1 := by omega
  have hold : (Builtin.firstCells i0.size i (.slice (some ⟨g, off, none⟩) i cap)).run Tryz.prog w.drew = .ok (xs.take (i * 2)).toArray w.drew := by
    rw [hzs]
    exact run_firstCells_some w.drew 2 i ⟨g, off, none⟩ i cap _ hX1 (fun j v hj => by
      rw [Addr.add_lit]
      rw [List.getElem?_take] at hj
      split at hj
      · exact hcellR j v hj
      · cases hj)
  obtain ⟨G, hG⟩ : ∃ G, G = grownCap w (n + 1) cap 124 := ⟨_, rfl⟩
  obtain ⟨ROW, hROW⟩ : ∃ ROW : Array Value, ROW = (xs.take (i * 2)).toArray ++ Builtin.zeroCells (Value.agg #[.string ⟨#[]⟩, .int .i64 0]).cells (n + 1 - i) ++ Builtin.zeroCells (Value.agg #[.string ⟨#[]⟩, .int .i64 0]).cells (G - (n + 1)) := ⟨_, rfl⟩
  obtain ⟨W1, hW1⟩ : ∃ W1, W1 = w.drew.alloc (.cells ROW 124) := ⟨_, rfl⟩
  have hrz : ∀ ty, (Builtin.append_ #[120, 3] ty #[.slice (some ⟨g, off, none⟩) i cap, .int .i64 ((n : Int) + 1 - (i : Int))]).run Tryz.prog w = .ok (.slice (some ⟨w.heap.size, 0, none⟩) (n + 1) G) W1 := fun ty => by
    have h := Lib.run_append_grow_zeros w 120 3 ty 124 i0 _ .i64 .i64 Tryz.underlying120 Tryz.underlying3 hi0 hz0 (some ⟨g, off, none⟩) i cap _ hold (n + 1 - i) (by omega) (by omega) (by omega) (by omega) (by rw [hzb]; omega) (by rw [hzb, hik]; exact growslice_fits hroom (by omega))
    rw [hik] at h
    rw [hkk, hW1, hROW, hG]
    exact h
  have hGn : n + 1 ≤ G := by rw [hG]; exact grownCap_ge w _ _ _
  have hGm : G ≤ maxLen := by rw [hG]; exact grownCap_le_maxLen w (n + 1) cap 124 (by unfold maxLen; omega)
  have hRl : ROW.toList.length = G * 2 := by
    rw [hROW]
    simp [Builtin.zeroCells, Value.cells, hxl]
    omega
  have hRt : ROW.toList.take (i * 2) = xs.take (i * 2) := by
    rw [hROW]
    simp only [Array.toList_append]
    rw [List.append_assoc, List.take_append, hX1, Nat.sub_self, List.take_zero, List.append_nil, List.take_of_length_le (by rw [hX1]; omega)]
  have hheap : W1.heap = w.heap.push (.cells ROW 124) := by rw [hW1]; rfl
  have hN1 : W1.heap[w.heap.size]? = some (.cells ROW 124 (0, 0)) := by rw [hheap, Array.getElem?_push_size]
  have hold1 : ∀ k, k < w.heap.size → W1.heap[k]? = w.heap[k]? := fun k hk => by rw [hheap, Array.getElem?_push_lt hk, Array.getElem?_eq_getElem hk]
  have ht1 : Heap.Touch (fun _ => False) w W1 := by rw [hW1]; exact ((Heap.Touch.refl _ w).drew).alloc _
  have hlist := grow_list (N := N) hi hGn hN hRl hRt hX1 hX2
  obtain ⟨C1, hC1⟩ : ∃ C1 : Array Value, C1 = (ROW.toList.take (i * 2) ++ N ++ ROW.toList.drop (i * 2 + 2)).toArray := ⟨_, rfl⟩
  obtain ⟨C2, hC2⟩ : ∃ C2 : Array Value, C2 = (C1.toList.take ((i + 1) * 2) ++ xs.drop (i * 2) ++ C1.toList.drop ((i + 1) * 2 + (n - i) * 2)).toArray := ⟨_, rfl⟩
  have hc1s : C1.size = G * 2 := by rw [hC1, List.size_toArray]; exact hlist.2.2
  have hc2 : C2.toList.take ((n + 1) * 2) = xs.take (i * 2) ++ N ++ xs.drop (i * 2) ∧ C2.size = G * 2 := by
    rw [hC2, hC1]
    exact ⟨hlist.1, by rw [List.size_toArray]; exact hlist.2.1⟩
  have hcpA : ∀ ty dc, (Builtin.copy_ #[120, 120] ty #[.slice (some ⟨w.heap.size, i * 2, none⟩) (n + 1 - i) dc, .slice (some ⟨vb, 0, none⟩) 1 1]).run Tryz.prog W1 = .ok (goInt 1) (W1.setRow w.heap.size C1) := fun ty dc => by
    have h := run_copyN W1 120 120 ty 124 2 w.heap.size (i * 2) (n + 1 - i) dc ⟨vb, 0, none⟩ 1 1 ROW 124 N 1 Tryz.underlying120 (by kernel_rfl) hN1 (by simp only [Nat.min_def]; split <;> omega) hN
      (fun j v hj => by
        rw [Addr.add_lit, cell_of_row _ vb (0 + j) _ _ _ ((hold1 vb hvlt).trans hvb), Nat.zero_add, List.getElem?_toArray]; exact hj) (by rw [← Array.length_toList, hRl, hN]; omega) hone
    rw [hN] at h
    rw [hC1]
    exact h
  have hg1 : (W1.setRow w.heap.size C1).heap[w.heap.size]? = some (.cells C1 124 (0, 0)) := setRow_heap W1 _ ROW C1 _ (0, 0) hN1
  have hcpB : ∀ ty dc sc, (Builtin.copy_ #[120, 120] ty #[.slice (some ⟨w.heap.size, (i + 1) * 2, none⟩) (n - i) dc, .slice (some ⟨g, off + i * 2, none⟩) (n - i) sc]).run Tryz.prog (W1.setRow w.heap.size C1).drew = .ok (goInt ((n - i : Nat) : Int)) ((W1.setRow w.heap.size C1).drew.setRow w.heap.size C2) := fun ty dc sc => by
    have h := run_copyN (W1.setRow w.heap.size C1).drew 120 120 ty 124 2 w.heap.size ((i + 1) * 2) (n - i) dc ⟨g, off + i * 2, none⟩ (n - i) sc C1 124 (xs.drop (i * 2)) (n - i) Tryz.underlying120 (by kernel_rfl) hg1 (by simp) hX2
      (fun j v hj => by
        rw [List.getElem?_drop] at hj
        rw [Addr.add_lit]
        have h9 := hcellR (i * 2 + j) v hj
        rw [← Nat.add_assoc] at h9
        show (W1.setRow w.heap.size C1).cell? _ = _
        rw [World.cell?_of_block (a := ⟨g, off + i * 2 + j, none⟩) ((setRow_other W1 w.heap.size g C1 (by omega)).trans (hold1 g hglt))]
        exact h9) (by rw [hX2, hc1s]; omega) (fun v hv => hones v (List.mem_of_mem_drop hv))
    rw [hX2] at h
    rw [hC2]
    exact h
  have hend : Row ((W1.setRow w.heap.size C1).drew.setRow w.heap.size C2) 124 2 (.slice (some ⟨w.heap.size, 0, none⟩) (n + 1) G) (n + 1) (xs.take (i * 2) ++ N ++ xs.drop (i * 2)) ∧ Heap.Touch (own (.slice (some ⟨g, off, none⟩) n cap)) w ((W1.setRow w.heap.size C1).drew.setRow w.heap.size C2) := by
    refine ⟨⟨by simp only [List.length_append, hX1, hX2, hN]; omega, .inr ⟨w.heap.size, 0, G, C2, rfl, setRow_heap _ _ C1 C2 _ (0, 0) hg1, hGn, hGm, by rw [hc2.2]; omega, by rw [List.drop_zero]; exact hc2.1⟩⟩, ?_⟩
    have h5 : Heap.Touch (fun k => k = w.heap.size) w ((W1.setRow w.heap.size C1).drew.setRow w.heap.size C2) := touch_setRow (F := fun k => k = w.heap.size) (touch_setRow (F := fun k => k = w.heap.size) (ht1.mono fun _ _ h => h.elim) rfl C1).drew rfl C2
    exact h5.mono fun k hk e => by omega
  have HEND := Lib.hid hend
  have hz2 : ¬ ((i : Int) = (n : Int)) := by omega
  have hw1 : IntKind.i64.wrap ((i : Int) + 1) = (i : Int) + 1 := IntWalk.i64_in _ (by omega)
  have hw2 : IntKind.i64.wrap ((n : Int) + 1) = (n : Int) + 1 := IntWalk.i64_in _ (by omega)
  have hw3 : IntKind.i64.wrap ((n : Int) + 1 - (i : Int)) = (n : Int) + 1 - (i : Int) := IntWalk.i64_in _ (by omega)
  have hb1 : (0 : Int) ≤ (i : Int) + 1 := by omega
  have hin : i ≤ n := by omega
  have htn : ((i : Int) + 1).toNat = i + 1 := by omega
  have hb3 : (i : Int) ≤ (n : Int) + 1 := by omega
  have hb3' : (i : Int) + 1 ≤ (n : Int) + 1 := by omega
  have hb4 : ¬ (cap = i) := by omega
  have hb5 : (cap : Int) < (n : Int) + 1 := by omega
  have hb6 : ¬ (G = i) := by omega
  have hb7 : ¬ (G = i + 1) := by omega
  clear hX1 hX2 hones hone hlist hC1 hC2 hc1s hc2 hg1 hend hrow hvb hold hROW hW1 hG hRl hRt hheap hN1 hold1 ht1 hkk hik hcellR hxl hN
  skip
  go_enter Tryz.func223, Tryz.ntmps223
  go_wp2_with (first
    | (at_builtin; refine Lib.wpList_append_run _ rfl _ _ _ _ rfl _ _ rfl rfl _ _ (hrz _) ?_)
    | (at_builtin; refine wpList_copy_runI _ rfl _ _ 120 120 rfl _ _ rfl rfl (hcpA _ _) ?_))
  go_region_law ((refine step_copy_runI rfl _ _ 120 120 rfl _ _ (by simp [Act.eval, Act.put]) (by simp [Act.eval, Act.put]) (hcpB _ _ _) ?_))
  go_wp2
  go_ret
  exact ⟨_, rfl, HEND.out.1, HEND.out.2, fun k hk => .inr (by simp [own, Value.ownBlock] at hk; omega)⟩

/-- In whatever place. -/
theorem insert_any (v : Value) (hn : n ≤ 200000) (hi : i ≤ n) (hrow : Row w 124 2 v n xs) (hones : ∀ u ∈ xs, u.oneCell' = true) (hN : N.length = 2) (hone : ∀ u ∈ N, u.oneCell' = true) (hvb : w.heap[vb]? = some (.cells N.toArray 124 (0, 0))) (hne : ¬ own v vb) :
    Calls Tryz.prog 223 #[v, .int .i64 i, .slice (some ⟨vb, 0, none⟩) 1 1] w (InsPost w v n i xs N) := by
  by_cases he : i = n
  · subst he
    exact insert_end v hn hrow hN hone hvb
  · rcases hrow.2 with ⟨rfl, h0⟩ | ⟨g, off, cap, cur, rfl, _⟩
    · omega
    · by_cases hr : n + 1 ≤ cap
      · exact insert_room g off cap hn (by omega) hr hrow hones hN hone hvb (fun e => hne (by rw [e]; simp [own, Value.ownBlock]))
      · exact insert_grow g off cap hn (by omega) (by omega) hrow hones hN hone hvb
end
end Go.Proofs.YtbgchhgdlceceaaGreatDoor.Shf.Ins
