/- Parts of the proof, joined: A token's place among a node's kids: slices.BinarySearchFunc, walked. -/
import Derived.Test.YtapmhpnkpjgefaaDoorConsumerRulesUptoM7
import Derived.Deep.LoopGhost
namespace Go.Proofs.YtapmhpnkpjgefaaDoor.Idx
open Go.RowKit Heap
open Subj (Tok ML pieces)

/-- i kids stand ahead of the token; is it there? -/
structure Placed (H : Hp) (ks : List Nat) (t : Subj.Tok) (i : Nat) (fd : Bool) : Prop where
  le : i ≤ ks.length
  lo : ∀ x ∈ ks.take i, cb (tokH H x) t < 0
  hi : ∀ x ∈ ks.drop i, 0 ≤ cb (tokH H x) t
  yes : fd = true → ∃ k, ks[i]? = some k ∧ tokH H k = t
  no : fd = false → ∀ k ∈ ks, tokH H k ≠ t

theorem Placed.hi' {H : Hp} {ks : List Nat} {t : Subj.Tok} {i : Nat} (h : Placed H ks t i false) : ∀ x ∈ ks.drop i, cb t (tokH H x) < 0 := fun x hx => by
  have h1 := h.hi x hx
  have h2 := h.no rfl x (List.mem_of_mem_drop hx)
  rcases cb_cases (tokH H x) t with ⟨_, e⟩ | ⟨e, _⟩ | ⟨_, e⟩
  · exact absurd e h2
  · omega
  · omega

theorem mem_take_get {α : Type} {l : List α} {n : Nat} {x : α} (h : x ∈ l.take n) : ∃ j, j < n ∧ l[j]? = some x := by
  obtain ⟨j, hj, e⟩ := List.mem_iff_getElem?.1 h |>.imp fun j hj => (⟨(by
    have := (List.getElem?_eq_some_iff.1 hj).1; rw [List.length_take] at this; omega : j < n), hj⟩ : j < n ∧ (l.take n)[j]? = some x)
  rw [List.getElem?_take, if_pos hj] at e
  exact ⟨j, hj, e⟩
theorem mem_drop_get {α : Type} {l : List α} {n : Nat} {x : α} (h : x ∈ l.drop n) : ∃ j, n ≤ j ∧ l[j]? = some x := by
  obtain ⟨j, hj⟩ := List.mem_iff_getElem?.1 h
  rw [List.getElem?_drop] at hj
  exact ⟨n + j, by omega, hj⟩

section
variable {W w : World} {M : Nat → Prop} {x : Nat} {H : Hp} {vf : Nat → Value} {cnt N : Nat}

/-- The comparison with one kid. -/
theorem cmp_any {nd : NodeP} {b : Nat} (h : w.heap[b]? = some (nodeO x cnt b nd (vf b))) (t : Subj.Tok) :
    Calls Tryd.prog 67 #[ptrV b, .string ⟨t.toArray⟩] w fun e w' => e = .returned (.int .i64 (cb nd.tok t)) ∧ Below w.heap.size w w' := by
  obtain ⟨c0, c1, c2, c3, cf⟩ := node_of h
  have hb : b < w.heap.size := heap_lt h
  have hC := fun w => Tryd.strings_Compare ⟨nd.tok.toArray⟩ ⟨t.toArray⟩ w
  simp only at hC
  clear h
  go_enter Tryd.func67, Tryd.ntmps67
  go_wp2_with fail
  refine (hC _).mono ?_
  rintro e w' ⟨rfl, rfl⟩
  go_wp2
  go_ret
  exact ⟨rfl, Below.refl _ _⟩

set_option maxHeartbeats 2000000 in
set_option maxRecDepth 100000 in
theorem search_any (hG : Good N H x) (hM : IdxAt W M x H vf cnt w) {b : Nat} {nd : NodeP} (hb : H b = some nd) (hN : N ≤ 100000) (t : Subj.Tok) :
    Calls Tryd.prog 66 #[vf b, .string ⟨t.toArray⟩, .func (.func 67) #[] #[]] w fun e w' =>
      ∃ i fd, e = .returned (.tuple #[.int .i64 (i : Nat), .bool fd]) ∧ Placed H nd.kids t i fd ∧ Below w.heap.size w w' := by
  have hrow := hM.row b nd hb
  have hfew := hG.few b nd hb
  have hcmp : ∀ (w1 : World) (i k : Nat), Below w.heap.size w w1 → nd.kids[i]? = some k → Calls Tryd.prog 67 #[ptrV k, .string ⟨t.toArray⟩] w1 fun e w' => e = .returned (.int .i64 (cb (tokH H k) t)) ∧ Below w1.heap.size w1 w' := fun w1 i k hb1 hk => by
    obtain ⟨kd, hkd, _⟩ := hG.kid b nd k hb (List.mem_of_getElem? hk)
    have := cmp_any ((hM.next hb1).node k kd hkd) t
    rw [tokH_some hkd]; exact this
  have hs := hG.sorted b nd hb
  obtain ⟨n, hn⟩ : ∃ n, nd.kids.length = n := ⟨_, rfl⟩
  have hpw : ∀ (i j : Nat) (k l : Nat), i < j → nd.kids[i]? = some k → nd.kids[j]? = some l → cb (tokH H k) (tokH H l) < 0 := fun i j k l hij h1 h2 => by
    obtain ⟨hi, rfl⟩ := List.getElem?_eq_some_iff.1 h1
    obtain ⟨hj, rfl⟩ := List.getElem?_eq_some_iff.1 h2
    exact List.pairwise_iff_getElem.1 hs i j hi hj hij
  rw [hn] at hrow hfew
  have HN := Lib.hid hn; have HC := Lib.hid hcmp; have HP := Lib.hid hpw
  clear hs hcmp hpw hn
  rcases hrow.2 with ⟨e, h0⟩ | ⟨g, off, cap, cur, e, hg, hle, hcapm, _⟩
  · rw [e]
    subst h0
    have hk0 : nd.kids = [] := List.eq_nil_of_length_eq_zero HN.out
    have HF := Lib.hid (show Placed H nd.kids t 0 false from ⟨Nat.zero_le _, fun x hx => by simp at hx, fun x hx => by rw [hk0] at hx; simp at hx, fun h => (by cases h), fun _ k hk => by rw [hk0] at hk; simp at hk⟩)
    clear hrow hG hM hb e HC HP hk0
    go_enter Tryd.func66, Tryd.ntmps66
    go_wp2_with fail
    go_loopw [9, 10] (fun a b wr => a = .int .i64 0 ∧ b = .int .i64 0 ∧ wr = w) (fun _ _ _ => 0)
    case atStart => exact ⟨rfl, rfl, rfl⟩
    case round =>
      obtain ⟨rfl, rfl, rfl⟩ := hrel
      go_wp2
      go_ret2
      exact ⟨0, false, rfl, HF.out, Below.refl _ _⟩
  · rw [e] at hrow ⊢
    have HR := Lib.hid hrow
    have hglt : g < w.heap.size := heap_lt hg
    clear hrow hG hM hb e hg
    go_enter Tryd.func66, Tryd.ntmps66
    go_wp2_with fail
    go_loopw [9, 10] (fun a b wr => ∃ lo hi : Nat, a = .int .i64 lo ∧ b = .int .i64 hi ∧ lo ≤ hi ∧ hi ≤ n ∧ Below w.heap.size w wr ∧ Hid ((∀ j k, j < lo → nd.kids[j]? = some k → cb (tokH H k) t < 0) ∧ (∀ j k, hi ≤ j → nd.kids[j]? = some k → 0 ≤ cb (tokH H k) t))) (fun a b _ => (intOf b).toNat - (intOf a).toNat)
    case atStart => exact ⟨0, n, rfl, rfl, Nat.zero_le _, Nat.le_refl _, Below.refl _ _, Lib.hid ⟨fun j k hj => absurd hj (Nat.not_lt_zero _), fun j k hj hk => by have h1 := (List.getElem?_eq_some_iff.1 hk).1; rw [HN.out] at h1; omega⟩⟩
    case round =>
      obtain ⟨lo, hi, rfl, rfl, hlh, hin, BW, I⟩ := hrel
      have BB := Lib.hid BW
      by_cases hlt : lo < hi
      · obtain ⟨k, hk⟩ : ∃ k, nd.kids[(lo + hi) / 2]? = some k := ⟨_, List.getElem?_eq_getElem (by rw [HN.out]; omega)⟩
        have hrow' := HR.out.kept (w' := wr) (fun j _ hj => BW.block j hj)
        have cm : wr.cell? ⟨g, off + (lo + hi) / 2, none⟩ = some (ptrV k) := by
          rw [(hrow'.cell ((lo + hi) / 2) (by omega)).1, kidsV_get, hk]; rfl
        have hc := HC.out wr _ k BW hk
        have K := Lib.hid hk
        clear hrow' hk BW
        by_cases hyx : cb (tokH H k) t < 0
        · generalize hz : cb (tokH H k) t = z at hc hyx
          have Z := Lib.hid hz
          clear hz
          go_wp2_with fail
          refine hc.mono ?_
          rintro e w' ⟨rfl, hb'⟩
          go_wp2_with fail
          refine ⟨⟨(lo + hi) / 2 + 1, hi, by rw [show ((lo : Int) + (hi : Int)) / 2 + 1 = (((lo + hi) / 2 + 1 : Nat) : Int) by omega], rfl, by omega, hin, BB.out.trans (hb'.mono BB.out.size), Lib.hid ⟨fun j k' hj hk' => ?_, I.out.2⟩⟩, by simp [intOf]; omega⟩
          by_cases e : j = (lo + hi) / 2
          · subst e
            rw [K.out] at hk'
            cases hk'
            rw [Z.out]; exact hyx
          · exact cb_lt_trans (HP.out j _ _ _ (by omega) hk' K.out) (by rw [Z.out]; exact hyx)
        · generalize hz : cb (tokH H k) t = z at hc hyx
          have Z := Lib.hid hz
          clear hz
          go_wp2_with fail
          refine hc.mono ?_
          rintro e w' ⟨rfl, hb'⟩
          go_wp2_with fail
          refine ⟨⟨lo, (lo + hi) / 2, rfl, by rw [show ((lo : Int) + (hi : Int)) / 2 = (((lo + hi) / 2 : Nat) : Int) by omega], by omega, by omega, BB.out.trans (hb'.mono BB.out.size), Lib.hid ⟨I.out.1, fun j k' hj hk' => ?_⟩⟩, by simp [intOf]; omega⟩
          by_cases e : j = (lo + hi) / 2
          · subst e
            rw [K.out] at hk'
            cases hk'
            rw [Z.out]; omega
          · refine Int.not_lt.1 fun h => ?_
            have h9 := cb_lt_trans (HP.out _ j _ _ (by omega) K.out hk') h
            rw [Z.out] at h9
            omega
      · obtain rfl : hi = lo := by omega
        have HLO := Lib.hid (show (∀ y ∈ nd.kids.take hi, cb (tokH H y) t < 0) ∧ (∀ y ∈ nd.kids.drop hi, 0 ≤ cb (tokH H y) t) from
          ⟨fun y hy => let ⟨j, hj, e⟩ := mem_take_get hy; I.out.1 j y hj e, fun y hy => let ⟨j, hj, e⟩ := mem_drop_get hy; I.out.2 j y hj e⟩)
        by_cases hlt2 : hi < n
        · obtain ⟨k, hk⟩ : ∃ k, nd.kids[hi]? = some k := ⟨_, List.getElem?_eq_getElem (by rw [HN.out]; omega)⟩
          have hrow' := HR.out.kept (w' := wr) (fun j _ hj => BW.block j hj)
          have cm : wr.cell? ⟨g, off + hi, none⟩ = some (ptrV k) := by
            rw [(hrow'.cell hi (by omega)).1, kidsV_get, hk]; rfl
          have hc := HC.out wr _ k BW hk
          have K := Lib.hid hk
          clear hrow' hk BW
          by_cases hyx : cb (tokH H k) t = 0
          · have Z := Lib.hid hyx
            rw [hyx] at hc
            clear hyx
            go_wp2_with fail
            refine hc.mono ?_
            rintro e w' ⟨rfl, hb'⟩
            go_wp2_with fail
            go_ret2
            exact ⟨hi, true, rfl, ⟨by rw [HN.out]; exact hin, HLO.out.1, HLO.out.2, fun _ => ⟨k, K.out, cb_eq.1 Z.out⟩, fun h => (by cases h)⟩, BB.out.trans (hb'.mono BB.out.size)⟩
          · generalize hz : cb (tokH H k) t = z at hc hyx
            have Z := Lib.hid hz
            have hz0 : (z == 0) = false := by simpa using hyx
            clear hz
            go_wp2_with fail
            refine hc.mono ?_
            rintro e w' ⟨rfl, hb'⟩
            go_wp2_with fail
            go_ret2
            refine ⟨hi, false, by simp, ⟨by rw [HN.out]; exact hin, HLO.out.1, HLO.out.2, fun h => (by cases h), fun _ y hy e => ?_⟩, BB.out.trans (hb'.mono BB.out.size)⟩
            have h1 := cb_eq.2 e
            rw [← List.take_append_drop hi nd.kids, List.mem_append] at hy
            rcases hy with hy | hy
            · have := HLO.out.1 y hy; omega
            · obtain ⟨j, hj, e2⟩ := mem_drop_get hy
              by_cases e3 : j = hi
              · subst e3
                rw [K.out] at e2; cases e2
                exact hyx (Z.out.symm.trans h1)
              · have h2 := HP.out hi j k y (by omega) K.out e2
                have h3 := HLO.out.2 k (List.mem_iff_getElem?.2 ⟨0, by rw [List.getElem?_drop, Nat.add_zero]; exact K.out⟩)
                rw [e] at h2
                omega
        · obtain rfl : hi = n := by omega
          have HF := Lib.hid (show Placed H nd.kids t hi false from ⟨by rw [HN.out]; exact hin, HLO.out.1, HLO.out.2, fun h => (by cases h), fun _ y hy e => by
            have h1 := cb_eq.2 e
            rw [← List.take_of_length_le (l := nd.kids) (i := hi) (by rw [HN.out]; exact Nat.le_refl _)] at hy
            have := HLO.out.1 y hy; omega⟩)
          clear BW
          go_wp2
          go_ret2
          exact ⟨hi, false, rfl, HF.out, BB.out⟩

set_option maxRecDepth 100000 in
theorem place_any (hG : Good N H x) (hM : IdxAt W M x H vf cnt w) {b : Nat} {nd : NodeP} (hb : H b = some nd) (hN : N ≤ 100000) (t : Subj.Tok) :
    Calls Tryd.prog 61 #[ptrV b, .string ⟨t.toArray⟩] w fun e w' =>
      ∃ i fd, e = .returned (.tuple #[.int .i64 (i : Nat), .bool fd]) ∧ Placed H nd.kids t i fd ∧ Below w.heap.size w w' := by
  obtain ⟨c0, c1, c2, c3, cf⟩ := node_of (hM.node b nd hb)
  have hlt := hM.lt hb
  have HS := Lib.hid (search_any hG hM hb hN t)
  clear hG hM hb
  go_enter Tryd.func61, Tryd.ntmps61
  go_wp2_with fail
  refine HS.out.mono ?_
  rintro e w' ⟨i, fd, rfl, hp, hb'⟩
  have HF := Lib.hid (show Placed H nd.kids t i fd ∧ Below w.heap.size w w' from ⟨hp, hb'⟩)
  clear hp hb'
  go_wp2
  go_ret2
  exact ⟨i, fd, rfl, HF.out⟩
end
end Go.Proofs.YtapmhpnkpjgefaaDoor.Idx
