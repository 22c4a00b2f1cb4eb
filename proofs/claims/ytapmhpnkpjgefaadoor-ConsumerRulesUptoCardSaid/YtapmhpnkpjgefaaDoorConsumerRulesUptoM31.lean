/- Parts of the proof, joined: A number's place among pending deliveries: slices.BinarySearchFunc and (*Consumer).find, walked. -/
import Derived.Test.YtapmhpnkpjgefaaDoorConsumerRulesUptoM9
import Derived.Test.YtapmhpnkpjgefaaDoorConsumerRulesUptoM27
import Derived.Deep.LoopGhost
namespace Go.Proofs.YtapmhpnkpjgefaaDoor.Con
open Go.RowKit Heap
open Subj (Tok TakerP)
open Rec (far)
open Idx (mem_take_get mem_drop_get)

/-- The comparison. -/
def cmpP (q : Int) (r : Pd) : Int := IntKind.i64.wrap (r.seq - q)

theorem cmpP_in {q : Int} {r : Pd} (h1 : 0 ≤ r.seq ∧ r.seq ≤ far) (h2 : -4611686018427387904 ≤ q ∧ q ≤ 9223372036854775807) : cmpP q r = r.seq - q := by
  unfold cmpP
  unfold far at h1
  exact IntWalk.i64_in _ (by omega)

theorem cmpP_zero {q : Int} {r : Pd} (h1 : 0 ≤ r.seq ∧ r.seq ≤ far) (h2 : -9223372036854775808 ≤ q ∧ q ≤ 9223372036854775807) (h : cmpP q r = 0) : r.seq = q := by
  unfold cmpP at h
  unfold far at h1
  rw [IntKind.wrap_i64] at h
  omega

set_option maxRecDepth 100000 in
theorem cmp_pd (r : Pd) (q : Int) (w : World) : Calls Tryd.prog 45 #[.agg #[.int .i64 r.seq, .int .i64 r.nth, .int .i64 r.due], .int .i64 q] w fun e w' => e = .returned (.int .i64 (cmpP q r)) ∧ Below w.heap.size w w' := by
  obtain ⟨z, hz⟩ : ∃ z, cmpP q r = z := ⟨_, rfl⟩
  have HZ := Lib.hid hz
  rw [hz]
  unfold cmpP at hz
  go_enter Tryd.func45, Tryd.ntmps45
  go_wp2
  go_ret
  exact ⟨ret_int rfl, (Below.refl _ _).alloc (Nat.le_refl _) _⟩

/-- Where a search ends. -/
structure Found (L : List Pd) (q : Int) (i : Nat) (fd : Bool) : Prop where
  le : i ≤ L.length
  yes : fd = true → ∃ r, L[i]? = some r ∧ cmpP q r = 0
  no : fd = false → ∀ r, L[i]? = some r → cmpP q r ≠ 0
  sides : (∀ (j k : Nat) (a b : Pd), j < k → L[j]? = some a → L[k]? = some b → cmpP q a < cmpP q b) → (∀ r ∈ L.take i, cmpP q r < 0) ∧ ∀ r ∈ L.drop i, 0 ≤ cmpP q r

def Mono (L : List Pd) (q : Int) : Prop := ∀ (j k : Nat) (a b : Pd), j < k → L[j]? = some a → L[k]? = some b → cmpP q a < cmpP q b

section
variable {w : World}

set_option maxHeartbeats 4000000 in
set_option maxRecDepth 100000 in
theorem search_pd {v : Value} {L : List Pd} (hrow : Row w 70 3 v L.length (pdsV L)) (hfew : L.length ≤ 100000) (q : Int) :
    Calls Tryd.prog 44 #[v, .int .i64 q, .func (.func 45) #[] #[]] w fun e w' =>
      ∃ i fd, e = .returned (.tuple #[.int .i64 (i : Nat), .bool fd]) ∧ Found L q i fd ∧ Below w.heap.size w w' := by
  obtain ⟨n, hn⟩ : ∃ n, L.length = n := ⟨_, rfl⟩
  rw [hn] at hrow hfew
  have HN := Lib.hid hn
  clear hn
  rcases hrow.2 with ⟨e, h0⟩ | ⟨g, off, cap, cur, e, hg, hle, hcapm, _⟩
  · rw [e]
    subst h0
    have hk0 : L = [] := List.eq_nil_of_length_eq_zero HN.out
    have HF := Lib.hid (show Found L q 0 false from ⟨Nat.zero_le _, (fun h => by cases h), (fun _ r h => by rw [hk0] at h; simp at h), fun _ => ⟨(fun r h => by simp at h), (fun r h => by rw [hk0] at h; simp at h)⟩⟩)
    clear hrow e hk0
    go_enter Tryd.func44, Tryd.ntmps44
    go_wp2_with fail
    go_loopw [9, 10] (fun a b wr => a = .int .i64 0 ∧ b = .int .i64 0 ∧ wr = w) (fun _ _ _ => 0)
    case atStart => exact ⟨rfl, rfl, rfl⟩
    case round =>
      obtain ⟨rfl, rfl, rfl⟩ := hrel
      go_wp2
      go_ret2
      exact ⟨0, false, rfl, HF.out, Below.refl _ _⟩
  · rw [e] at hrow ⊢
    have HR := Lib.hid hrow
    have hglt : g < w.heap.size := heap_lt hg
    clear hrow e hg
    go_enter Tryd.func44, Tryd.ntmps44
    go_wp2_with fail
    go_loopw [9, 10] (fun a b wr => ∃ lo hi : Nat, a = .int .i64 lo ∧ b = .int .i64 hi ∧ lo ≤ hi ∧ hi ≤ n ∧ Below w.heap.size w wr ∧ Hid (Mono L q → (∀ j k, j < lo → L[j]? = some k → cmpP q k < 0) ∧ (∀ j k, hi ≤ j → L[j]? = some k → 0 ≤ cmpP q k))) (fun a b _ => (intOf b).toNat - (intOf a).toNat)
    case atStart => exact ⟨0, n, rfl, rfl, Nat.zero_le _, Nat.le_refl _, Below.refl _ _, Lib.hid fun _ => ⟨fun j k hj => absurd hj (Nat.not_lt_zero _), fun j k hj hk => by have h1 := (List.getElem?_eq_some_iff.1 hk).1; rw [HN.out] at h1; omega⟩⟩
    case round =>
      obtain ⟨lo, hi, rfl, rfl, hlh, hin, BW, I⟩ := hrel
      have BB := Lib.hid BW
      by_cases hlt : lo < hi
      · obtain ⟨k, hk⟩ : ∃ k, L[(lo + hi) / 2]? = some k := ⟨_, List.getElem?_eq_getElem (by rw [HN.out]; omega)⟩
        have hrow' := HR.out.kept (w' := wr) (fun j _ hj => BW.block j hj)
        obtain ⟨m0, m1, m2, _, _⟩ := cells_pd hrow' ((lo + hi) / 2) k hk (by omega)
        have hc := cmp_pd k q wr
        have K := Lib.hid hk
        clear hrow' hk BW
        by_cases hyx : cmpP q k < 0
        · generalize hz : cmpP q k = z at hc hyx
          have Z := Lib.hid hz
          clear hz
          go_wp2_with fail
          refine hc.mono ?_
          rintro e w' ⟨rfl, hb'⟩
          go_wp2_with fail
          refine ⟨⟨(lo + hi) / 2 + 1, hi, by rw [show ((lo : Int) + (hi : Int)) / 2 + 1 = (((lo + hi) / 2 + 1 : Nat) : Int) by omega], rfl, by omega, hin, BB.out.trans (hb'.mono BB.out.size), Lib.hid fun hP => ⟨fun j k' hj hk' => ?_, (I.out hP).2⟩⟩, by simp [intOf]; omega⟩
          by_cases e : j = (lo + hi) / 2
          · subst e
            rw [K.out] at hk'
            cases hk'
            rw [Z.out]; exact hyx
          · have h9 := hP j _ _ _ (show j < (lo + hi) / 2 by omega) hk' K.out
            rw [Z.out] at h9
            omega
        · generalize hz : cmpP q k = z at hc hyx
          have Z := Lib.hid hz
          clear hz
          go_wp2_with fail
          refine hc.mono ?_
          rintro e w' ⟨rfl, hb'⟩
          go_wp2_with fail
          refine ⟨⟨lo, (lo + hi) / 2, rfl, by rw [show ((lo : Int) + (hi : Int)) / 2 = (((lo + hi) / 2 : Nat) : Int) by omega], by omega, by omega, BB.out.trans (hb'.mono BB.out.size), Lib.hid fun hP => ⟨(I.out hP).1, fun j k' hj hk' => ?_⟩⟩, by simp [intOf]; omega⟩
          by_cases e : j = (lo + hi) / 2
          · subst e
            rw [K.out] at hk'
            cases hk'
            rw [Z.out]; omega
          · have h9 := hP _ j _ _ (show (lo + hi) / 2 < j by omega) K.out hk'
            rw [Z.out] at h9
            omega
      · obtain rfl : hi = lo := by omega
        have HLO := Lib.hid (show Mono L q → (∀ y ∈ L.take hi, cmpP q y < 0) ∧ (∀ y ∈ L.drop hi, 0 ≤ cmpP q y) from fun hP =>
          ⟨fun y hy => let ⟨j, hj, e⟩ := mem_take_get hy; (I.out hP).1 j y hj e, fun y hy => let ⟨j, hj, e⟩ := mem_drop_get hy; (I.out hP).2 j y hj e⟩)
        by_cases hlt2 : hi < n
        · obtain ⟨k, hk⟩ : ∃ k, L[hi]? = some k := ⟨_, List.getElem?_eq_getElem (by rw [HN.out]; omega)⟩
          have hrow' := HR.out.kept (w' := wr) (fun j _ hj => BW.block j hj)
          obtain ⟨m0, m1, m2, _, _⟩ := cells_pd hrow' hi k hk (by omega)
          have hc := cmp_pd k q wr
          have K := Lib.hid hk
          clear hrow' hk BW
          by_cases hyx : cmpP q k = 0
          · have Z := Lib.hid hyx
            rw [hyx] at hc
            clear hyx
            go_wp2_with fail
            refine hc.mono ?_
            rintro e w' ⟨rfl, hb'⟩
            go_wp2_with fail
            go_ret2
            exact ⟨hi, true, rfl, ⟨by rw [HN.out]; exact hin, fun _ => ⟨k, K.out, Z.out⟩, (fun h => by cases h), HLO.out⟩, BB.out.trans (hb'.mono BB.out.size)⟩
          · generalize hz : cmpP q k = z at hc hyx
            have Z := Lib.hid hz
            have hz0 : (z == 0) = false := by simpa using hyx
            clear hz
            go_wp2_with fail
            refine hc.mono ?_
            rintro e w' ⟨rfl, hb'⟩
            go_wp2_with fail
            go_ret2
            exact ⟨hi, false, by simp, ⟨by rw [HN.out]; exact hin, (fun h => by cases h), (fun _ r hr => by
              rw [K.out] at hr
              cases hr
              rw [Z.out]; exact hyx), HLO.out⟩, BB.out.trans (hb'.mono BB.out.size)⟩
        · obtain rfl : hi = n := by omega
          have HF := Lib.hid (show Found L q hi false from ⟨by rw [HN.out]; exact hin, (fun h => by cases h), (fun _ r hr => by
            have h1 := (List.getElem?_eq_some_iff.1 hr).1
            rw [HN.out] at h1; omega), HLO.out⟩)
          clear BW
          go_wp2
          go_ret2
          exact ⟨hi, false, rfl, HF.out, BB.out⟩

variable {L : List Pd}

def hasP (L : List Pd) (q : Int) : Bool := L.any fun r => r.seq == q

/-- Every number's place among rising ones. -/
theorem Found.in {i : Nat} {fd : Bool} {q : Int} (h : Found L q i fd) (hr : L.Pairwise fun a b => a.seq < b.seq) (hs : ∀ r ∈ L, 0 ≤ r.seq ∧ r.seq ≤ far) (hq : -4611686018427387904 ≤ q ∧ q ≤ 9223372036854775807) :
    (∀ r ∈ L.take i, r.seq < q) ∧ (∀ r ∈ L.drop i, q ≤ r.seq) ∧ fd = hasP L q ∧ (fd = true → ∃ r, L[i]? = some r ∧ r.seq = q) := by
  have hz : ∀ r ∈ L, cmpP q r = r.seq - q := fun r hr => cmpP_in (hs r hr) hq
  have hm : Mono L q := fun j k a b hjk h1 h2 => by
    rw [hz a (List.mem_of_getElem? h1), hz b (List.mem_of_getElem? h2)]
    obtain ⟨hi, rfl⟩ := List.getElem?_eq_some_iff.1 h1
    obtain ⟨hj, rfl⟩ := List.getElem?_eq_some_iff.1 h2
    have := List.pairwise_iff_getElem.1 hr j k hi hj hjk
    omega
  obtain ⟨hl, hu⟩ := h.sides hm
  have hl' : ∀ r ∈ L.take i, r.seq < q := fun r hr => by
    have := hl r hr
    rw [hz r (List.mem_of_mem_take hr)] at this; omega
  have hu' : ∀ r ∈ L.drop i, q ≤ r.seq := fun r hr => by
    have := hu r hr
    rw [hz r (List.mem_of_mem_drop hr)] at this; omega
  refine ⟨hl', hu', ?_, fun hf => ?_⟩
  · cases fd with
    | true =>
      obtain ⟨r, h1, h2⟩ := h.yes rfl
      have h3 := List.mem_of_getElem? h1
      rw [hz r h3] at h2
      symm
      unfold hasP
      rw [List.any_eq_true]
      exact ⟨r, h3, by simp; omega⟩
    | false =>
      symm
      unfold hasP
      rw [List.any_eq_false]
      intro r hrm he
      have he : r.seq = q := by simpa using he
      rw [← List.take_append_drop i L, List.mem_append] at hrm
      rcases hrm with h1 | h1
      · have := hl' r h1; omega
      · obtain ⟨j, hj, e⟩ := mem_drop_get h1
        by_cases e3 : j = i
        · subst e3
          have h4 := h.no rfl r e
          rw [hz r (List.mem_of_getElem? e)] at h4
          omega
        · have hjl := (List.getElem?_eq_some_iff.1 e).1
          obtain ⟨k, hk⟩ : ∃ k, L[i]? = some k := ⟨_, List.getElem?_eq_getElem (by omega)⟩
          have h5 := hm i j k r (by omega) hk e
          rw [hz k (List.mem_of_getElem? hk), hz r (List.mem_of_getElem? e)] at h5
          have h6 := hu' k (List.mem_iff_getElem?.2 ⟨0, by rw [List.getElem?_drop, Nat.add_zero]; exact hk⟩)
          omega
  · subst hf
    obtain ⟨r, h1, h2⟩ := h.yes rfl
    rw [hz r (List.mem_of_getElem? h1)] at h2
    exact ⟨r, h1, by omega⟩
end

def idxI (l : List Pd) (q : Int) : Int := match idxP l q with
  | none => -1
  | some i => i

theorem found_idx {L : List Pd} {i : Nat} {fd : Bool} {q : Int} (h : Found L q i fd) (hr : L.Pairwise fun a b => a.seq < b.seq) (hs : ∀ r ∈ L, 0 ≤ r.seq ∧ r.seq ≤ far) (hq : -9223372036854775808 ≤ q ∧ q ≤ 9223372036854775807) :
    idxP L q = if fd then some i else none := by
  by_cases hin : 0 ≤ q
  · obtain ⟨h1, h2, h3, h4⟩ := h.in hr hs ⟨by omega, hq.2⟩
    cases fd with
    | false =>
      rw [if_neg (by simp)]
      refine find_no _ fun x hx => ?_
      unfold hasP at h3
      have h5 := List.any_eq_false.1 h3.symm x hx
      simpa using h5
    | true =>
      obtain ⟨p, hp, hpq⟩ := h4 rfl
      rw [if_pos rfl]
      exact find_at _ hp (by simpa using hpq) fun x hx => by have := h1 x hx; simp; omega
  · have hno : ∀ r ∈ L, r.seq ≠ q := fun r hm e => by have := hs r hm; omega
    have hn : idxP L q = none := find_no _ fun x hx => by simpa using hno x hx
    cases fd with
    | false => rw [if_neg (by simp)]; exact hn
    | true =>
      obtain ⟨r, h1, h2⟩ := h.yes rfl
      have hm := List.mem_of_getElem? h1
      exact absurd (cmpP_zero (hs r hm) hq h2) (hno r hm)

section
variable {W w : World} {K : Nat} {t : TakerP} {vb v : Value} {c : Cn} {k : Nat}

theorem Ok.seqs (h : Ok k c) : ∀ p ∈ c.l, 0 ≤ p.seq ∧ p.seq ≤ far := fun p hp => by
  have h1 := (h.in_ p hp).1
  have h2 := h.place
  omega

set_option maxRecDepth 100000 in
theorem find_c (h : CAt 63 70 W K t vb v c w) (hk : Ok k c) (hfew : c.l.length ≤ 100000) (q : Int) (hq : -9223372036854775808 ≤ q ∧ q ≤ 9223372036854775807) :
    Calls Tryd.prog 27 #[.pointer (some ⟨K, 0, none⟩), .int .i64 q] w fun e w' => e = .returned (.int .i64 (idxI c.l q)) ∧ Below w.heap.size w w' := by
  obtain ⟨c0, c1, c2, c3, c4, c5, c6, c7, c8, c9, c10, c11, c12, cf⟩ := h.cells
  have hlt := heap_lt h.cell
  have HS := Lib.hid (search_pd h.row hfew q)
  have HK := Lib.hid hk
  clear h hk c0 c1 c2 c3 c4 c5 c6 c7 c8 c9 c10 c11
  go_enter Tryd.func27, Tryd.ntmps27
  go_wp2_with fail
  refine HS.out.mono ?_
  rintro e w' ⟨i, fd, rfl, hp, hb'⟩
  have hid := found_idx hp HK.out.rise HK.out.seqs hq
  have HB := Lib.hid hb'
  cases fd with
  | true =>
    have HI := Lib.hid (show idxI c.l q = (i : Int) from by unfold idxI; rw [hid]; rfl)
    clear hp hb' hid
    go_wp2_with fail
    go_ret
    exact ⟨by rw [HI.out]; rfl, HB.out⟩
  | false =>
    have HI := Lib.hid (show idxI c.l q = -1 from by unfold idxI; rw [hid]; rfl)
    clear hp hb' hid
    go_wp2_with fail
    go_ret
    exact ⟨by rw [HI.out]; rfl, HB.out⟩
end
end Go.Proofs.YtapmhpnkpjgefaaDoor.Con
