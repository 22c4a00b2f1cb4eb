/- (*Index).find, walked. -/
import Derived.Test.YtpmffneohcbhbaaDoorIdxPlace
import Derived.Deep.CutRange
namespace Go.Proofs.YtpmffneohcbhbaaDoor.Idx
open Go.RowKit Heap
open Subj (Tok ML pieces StrsAt strAt)

set_option maxRecDepth 100000 in
theorem split_dot (s : ByteArray) (w : World) (hs : s.size ≤ 1048576) (hm : ML w) :
    Calls Tryd.prog 50 #[.string s, .string ⟨#[46]⟩] w fun e w' => e = .returned (.slice (some ⟨w.heap.size, 0, none⟩) (pieces s.data.toList).length (pieces s.data.toList).length) ∧ StrsAt w' w.heap.size 0 (pieces s.data.toList) ∧ Below w.heap.size w w' := by
  obtain ⟨m, hm⟩ := hm
  have hc := Tryd.strings_Split s ⟨#[46]⟩ m w (by omega) hm (by decide)
  rw [Subj.countB_dot] at hc
  refine hc.mono ?_
  rintro e w' ⟨rfl, rfl⟩
  exact ⟨rfl, Subj.strsAt_made w s 9, (Below.refl w.heap.size w).alloc (Nat.le_refl _) _⟩

theorem strsAt_lt {w : World} {g off : Nat} {l : List Tok} (h : StrsAt w g off l) (hl : l ≠ []) : g < w.heap.size :=
  World.block_lt_of_cell? w _ (h 0 (List.length_pos_iff.2 hl))

section
variable {W w : World} {M : Nat → Prop} {x : Nat} {H : Hp} {vf : Nat → Value} {cnt N : Nat}

/-- What 'find' answers. -/
def Found (H : Hp) (x : Nat) (ts : List Tok) (e : Ending) : Prop :=
  (∃ c nd, e = .returned (ptrV c) ∧ Go H x ts c ∧ H c = some nd) ∨ (e = .returned (.pointer none) ∧ ∀ c, ¬ Go H x ts c)

/-- One step further. -/
theorem go_more (h : Good N H x) {l : List Tok} {k c j : Nat} (hk : k < l.length) (hg : Go H x (l.take k) c) (hs : Step H c (l.getD k []) j) : Go H x (l.take (k + 1)) j := by
  have e : l.take (k + 1) = l.take k ++ [l.getD k []] := by
    rw [List.take_add_one, List.getElem?_eq_getElem hk]; simp [List.getD, hk]
  rw [e]
  exact go_app hg (go_one hs)

theorem go_stops (h : Good N H x) {l : List Tok} {k c : Nat} {nd : NodeP} (hk : k < l.length) (hg : Go H x (l.take k) c) (hc : H c = some nd) (hn : ∀ j ∈ nd.kids, tokH H j ≠ l.getD k []) : ∀ d, ¬ Go H x l d := fun d hd => by
  have e : l = l.take k ++ (l.getD k [] :: l.drop (k + 1)) := by
    have := List.drop_eq_getElem_cons hk
    have h2 : l.getD k [] = l[k] := by simp [List.getD, hk]
    rw [h2, ← this, List.take_append_drop]
  rw [e] at hd
  obtain ⟨c', h1, h2⟩ := go_split hd
  have := h.go_det h1 hg
  subst this
  cases h2 with
  | cons s _ =>
    obtain ⟨nd', e2, h3, h4⟩ := s
    rw [hc] at e2; cases e2
    exact hn _ h3 h4

set_option maxHeartbeats 2000000 in
set_option maxRecDepth 100000 in
theorem find_any (hG : Good N H x) (hM : IdxAt W M x H vf cnt w) (hN : N ≤ 100000) (hm : ML w) (s : ByteArray) (hs : s.size ≤ 1048576) :
    Calls Tryd.prog 49 #[ptrV x, .string s] w fun e w' => Found H x (pieces s.data.toList) e ∧ Below w.heap.size w w' := by
  have HS := Lib.hid (split_dot s w hs hm)
  obtain ⟨rd, hrd, _⟩ := hG.root
  have hx := hM.lt hrd
  have HG := Lib.hid hG; have HM := Lib.hid hM; have HRD := Lib.hid hrd
  have hpl := Subj.pieces_size s hs
  clear hG hM hm hs hrd
  generalize pieces s.data.toList = l at *
  obtain ⟨n, hn⟩ : ∃ n, l.length = n := ⟨_, rfl⟩
  rw [hn] at HS hpl
  have HL := Lib.hid hn
  clear hn
  go_enter Tryd.func49, Tryd.ntmps49
  go_wp2_with fail
  refine HS.out.mono ?_
  rintro e w1 ⟨rfl, hst, hb1⟩
  have HST := Lib.hid hst; have HB := Lib.hid hb1
  clear hst hb1 HS
  obtain ⟨g, hgg⟩ : ∃ g, w.heap.size = g := ⟨_, rfl⟩
  have HGG := Lib.hid hgg
  rw [hgg] at HST ⊢
  clear hgg
  go_wp2_with fail
  go_loopw [5, 16] (fun a i wr => ∃ (k c : Nat), k ≤ n ∧ i = .int .i64 k ∧ a = .pointer (some ⟨c, 0, none⟩) ∧ Hid (Go H x (l.take k) c ∧ ∃ nd, H c = some nd) ∧ Hid (Below w1.heap.size w1 wr)) (fun _ i _ => n - (intOf i).toNat)
  case atStart => exact ⟨0, x, Nat.zero_le _, rfl, rfl, Lib.hid ⟨.nil x, rd, HRD.out⟩, Lib.hid (Below.refl _ _)⟩
  case round =>
    obtain ⟨k, c, hk, rfl, rfl, HGO, HBW⟩ := hrel
    obtain ⟨nd, hnd⟩ := HGO.out.2
    by_cases hlt : k < n
    · have hltz : (k : Int) < n := by omega
      have hlt' : k < l.length := by rw [HL.out]; exact hlt
      have hM2 := (HM.out.next HB.out).next HBW.out
      have hcell := (HST.out.below (HBW.out)) k hlt'
      rw [Nat.zero_add] at hcell
      have HPL := Lib.hid (show Calls Tryd.prog 51 #[.pointer (some ⟨c, 0, none⟩), .string (strAt l k)] wr _ from place_any HG.out hM2 hnd hN (l.getD k []))
      have HND := Lib.hid hnd; have HM2 := Lib.hid hM2; have HLT := Lib.hid hlt'
      clear hM2 hnd hlt'
      go_wp2_with fail
      refine HPL.out.mono ?_
      rintro e w2 ⟨i, fd, rfl, hp, hb2⟩
      clear hcell HPL
      cases fd with
      | false =>
        have HF := Lib.hid (show Found H x l (.returned (.pointer none)) ∧ Below w.heap.size w w2 from ⟨.inr ⟨rfl, go_stops HG.out HLT.out HGO.out.1 HND.out (hp.no rfl)⟩, (HB.out.trans (HBW.out.mono HB.out.size)).trans (hb2.mono (Nat.le_trans HB.out.size HBW.out.size))⟩)
        clear hp hb2
        go_wp2
        go_ret
        exact HF.out
      | true =>
        obtain ⟨j, hj, ht⟩ := hp.yes rfl
        have hM3 := HM2.out.next hb2
        obtain ⟨c0, c1, c2, c3, cf⟩ := node_of (hM3.node c nd HND.out)
        have hrow := hM3.row c nd HND.out
        have hil : i < nd.kids.length := (List.getElem?_eq_some_iff.1 hj).1
        obtain ⟨gk, off, cap, ev, hcap, hcell⟩ : ∃ gk off cap, vf c = .slice (some ⟨gk, off, none⟩) nd.kids.length cap ∧ nd.kids.length ≤ cap ∧ w2.cell? ⟨gk, off + i, none⟩ = some (.pointer (some ⟨j, 0, none⟩)) := by
          rcases hrow.2 with ⟨_, h0⟩ | ⟨gk, off, cap, cur, ev, hg, h1, _⟩
          · omega
          · rw [ev] at hrow
            exact ⟨gk, off, cap, ev, h1, by rw [(hrow.cell i (by omega)).1, kidsV_get, hj]; rfl⟩
        rw [ev] at c1
        have hclt := hM3.lt HND.out
        have HN2 := Lib.hid (show Go H x (l.take (k + 1)) j ∧ (∃ nd, H j = some nd) ∧ Below w1.heap.size w1 w2 from
          ⟨go_more HG.out HLT.out HGO.out.1 ⟨nd, HND.out, List.mem_of_getElem? hj, ht⟩, (let ⟨kd, h, _⟩ := HG.out.kid c nd j HND.out (List.mem_of_getElem? hj); ⟨kd, h⟩), HBW.out.trans (hb2.mono HBW.out.size)⟩)
        have hil2 : (i : Int) < (nd.kids.length : Nat) := by omega
        generalize nd.kids.length = m at *
        clear hp hb2 hM3 hrow hj ht ev c0 c2 c3
        go_wp2_with fail
        exact ⟨⟨k + 1, j, by omega, by go_num, rfl, Lib.hid ⟨HN2.out.1, HN2.out.2.1⟩, Lib.hid HN2.out.2.2⟩, by simp [intOf]; omega⟩
    · obtain rfl : k = n := by omega
      have HF := Lib.hid (show Found H x l (.returned (.pointer (some ⟨c, 0, none⟩))) ∧ Below w.heap.size w wr from ⟨.inl ⟨c, nd, rfl, by have := HGO.out.1; rw [List.take_of_length_le (by rw [HL.out]; exact Nat.le_refl _)] at this; exact this, hnd⟩, HB.out.trans (HBW.out.mono HB.out.size)⟩)
      clear hnd
      go_wp2
      go_ret
      exact HF.out
end
end Go.Proofs.YtpmffneohcbhbaaDoor.Idx
