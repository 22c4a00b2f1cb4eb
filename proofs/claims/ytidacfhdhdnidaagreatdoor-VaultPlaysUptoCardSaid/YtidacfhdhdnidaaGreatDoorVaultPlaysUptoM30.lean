/- Parts of the proof, joined: rillref.before, walked.; The reference's index: Put.; (*rillref.Shelf).Find, walked; two slices of entries compared (slices.Equal). -/
import Derived.Test.YtidacfhdhdnidaaGreatDoorVaultPlaysUptoM29
namespace Go.Proofs.YtidacfhdhdnidaaGreatDoor.Shf
open Go.RowKit Heap Idx
open Subj (Tok ML pieces Strs strAt StrsAt)

theorem bytesLess_cb : ∀ a b : Tok, Op.bytesLess a b = decide (cb a b < 0)
  | [], [] => rfl
  | _ :: _, [] => rfl
  | [], _ :: _ => rfl
  | x :: a, y :: b => by
    unfold Op.bytesLess
    rw [bytesLess_cb a b]
    show _ = decide (Lib.compareBytes (x :: a) (y :: b) < 0)
    have e0 : Lib.compareBytes (x :: a) (y :: b) = if x < y then -1 else if y < x then 1 else Lib.compareBytes a b := by rw [Lib.compareBytes]
    rw [e0]
    by_cases h : x < y
    · simp [h]
    · by_cases h2 : y < x
      · have hne : (x == y) = false := by
          simp only [beq_eq_false_iff_ne, ne_eq]
          rintro rfl; exact h h2
        simp [h, h2, hne]
      · have e : x = y := UInt8.le_antisymm (UInt8.not_lt.1 h2) (UInt8.not_lt.1 h)
        subst e
        rw [if_neg h, if_neg h, decide_eq_false h, beq_self_eq_true, Bool.true_and, Bool.false_or]

theorem before_drop {a b : List Tok} {k : Nat} (h : a.take k = b.take k) : before a b = before (a.drop k) (b.drop k) := by
  conv => lhs; rw [← List.take_append_drop k a, ← List.take_append_drop k b, h]
  exact before_app _ _ _

theorem before_step {a b : List Tok} {k : Nat} (ha : k < a.length) (hb : k < b.length) : before (a.drop k) (b.drop k) = if a.getD k [] = b.getD k [] then before (a.drop (k + 1)) (b.drop (k + 1)) else decide (cb (a.getD k []) (b.getD k []) < 0) := by
  rw [List.drop_eq_getElem_cons ha, List.drop_eq_getElem_cons hb]
  conv => lhs; unfold before
  simp [List.getD, ha, hb]

theorem before_end {a b : List Tok} {k : Nat} (ha : k ≤ a.length) (hb : k ≤ b.length) (h : ¬ (k < a.length ∧ k < b.length)) : before (a.drop k) (b.drop k) = decide (a.length < b.length) := by
  by_cases e : k = b.length
  · subst e
    rw [List.drop_length]
    have : ¬ a.length < b.length := by omega
    rw [decide_eq_false this]
    unfold before; rfl
  · have e2 : k = a.length := by omega
    subst e2
    rw [List.drop_length]
    have h3 : a.length < b.length := by omega
    rw [decide_eq_true h3, List.drop_eq_getElem_cons h3]
    rfl

theorem drew_more {w w1 : World} (h : ∃ q, w1 = w.drewN q) (n : Nat) : ∃ q, w1.drewN n = w.drewN q := by
  obtain ⟨q, rfl⟩ := h
  exact ⟨q + n, by simp [World.drewN, Nat.add_assoc]⟩

set_option maxHeartbeats 2000000 in
set_option maxRecDepth 100000 in
theorem before_any (a b : List Tok) (va vb : Value) (w : World) (ha : a.length ≤ 1048577) (hb : b.length ≤ 1048577) (hva : Strs w va a) (hvb : Strs w vb b) :
    Calls Tryz.prog 190 #[va, vb] w fun e w' => e = .returned (.bool (before a b)) ∧ ∃ q, w' = w.drewN q := by
  obtain ⟨r, hr⟩ : ∃ r, before a b = r := ⟨_, rfl⟩
  rw [hr]
  obtain ⟨aa, ca, rfl, hca, haa⟩ := hva
  obtain ⟨ab, cb', rfl, hcb, hab⟩ := hvb
  obtain ⟨n, hn⟩ : ∃ n, a.length = n := ⟨_, rfl⟩
  obtain ⟨m, hm⟩ : ∃ m, b.length = m := ⟨_, rfl⟩
  rw [hn] at ha hca ⊢
  rw [hm] at hb hcb ⊢
  have HAA := Lib.hid haa; have HAB := Lib.hid hab; have HR := Lib.hid hr; have HN := Lib.hid hn; have HM := Lib.hid hm
  clear haa hab hr hn hm
  go_enter Tryz.func190, Tryz.ntmps190
  go_wp2_with fail
  go_loopw [5] (fun i wr => ∃ k : Nat, k ≤ n ∧ k ≤ m ∧ i = .int .i64 k ∧ (∃ q, wr = w.drewN q) ∧ Hid (a.take k = b.take k)) (fun i _ => n - (intOf i).toNat)
  case atStart => exact ⟨0, Nat.zero_le _, Nat.zero_le _, rfl, ⟨0, rfl⟩, Lib.hid rfl⟩
  case round =>
    obtain ⟨k, hka, hkb, rfl, ⟨q, rfl⟩, HT⟩ := hrel
    by_cases h1 : k < n ∧ k < m
    · obtain ⟨hlta, hltb⟩ := h1
      have hza : (k : Int) < n := by omega
      have hzb : (k : Int) < m := by omega
      have hla : k < a.length := by rw [HN.out]; exact hlta
      have hlb : k < b.length := by rw [HM.out]; exact hltb
      obtain ⟨ga, oa, rfl, hsa⟩ := HAA.out (by intro e; rw [e] at hla; simp at hla)
      obtain ⟨gb, ob, rfl, hsb⟩ := HAB.out (by intro e; rw [e] at hlb; simp at hlb)
      have xa : w.cell? ⟨ga, oa + k, none⟩ = some (.string (strAt a k)) := hsa k hla
      have xb : w.cell? ⟨gb, ob + k, none⟩ = some (.string (strAt b k)) := hsb k hlb
      have e1 : (strAt a k).toList = a.getD k [] := Subj.strAt_toList a k
      have e2 : (strAt b k).toList = b.getD k [] := Subj.strAt_toList b k
      have hst := before_step hla hlb
      have hdr := (before_drop HT.out).symm.trans HR.out
      rw [hst] at hdr
      have htk : a.getD k [] = b.getD k [] → a.take (k + 1) = b.take (k + 1) := fun e => by
        have f1 : a.take (k + 1) = a.take k ++ [a.getD k []] := by
          rw [List.take_add_one, List.getElem?_eq_getElem hla]; simp [List.getD, hla]
        have f2 : b.take (k + 1) = b.take k ++ [b.getD k []] := by
          rw [List.take_add_one, List.getElem?_eq_getElem hlb]; simp [List.getD, hlb]
        rw [f1, f2, HT.out, e]
      generalize strAt a k = p at xa e1
      generalize strAt b k = p2 at xb e2
      rw [← e1, ← e2] at hdr
      rw [← e1, ← e2] at htk
      have HTK := Lib.hid htk; have HDR := Lib.hid hdr
      clear hst htk hdr e1 e2 hla hlb hsa hsb
      by_cases heq : p.toList = p2.toList
      · have hb2 : (p.toList == p2.toList) = true := by simpa using heq
        have HNX := Lib.hid (HTK.out heq)
        clear heq HDR HTK
        go_wp2_with fail
        go_quiet (fail)
        go_wp2_with fail
        exact ⟨⟨k + 1, by omega, by omega, by go_num, ⟨_, rfl⟩, HNX⟩, by simp [intOf]; omega⟩
      · have hb2 : (p.toList == p2.toList) = false := by simpa using heq
        have hrr : r = Op.bytesLess p.toList p2.toList := by
          have h9 := HDR.out
          rw [if_neg heq, ← bytesLess_cb] at h9
          exact h9.symm
        subst hrr
        clear heq HDR HTK
        go_wp2_with fail
        go_quiet (fail)
        go_wp2_with fail
        go_quiet (fail)
        go_wp2_with fail
        go_ret
        exact ⟨rfl, drew_more (drew_more ⟨q, rfl⟩ _) _⟩
    · have hdr := (before_drop HT.out).symm.trans HR.out
      rw [before_end (by rw [HN.out]; exact hka) (by rw [HM.out]; exact hkb) (by rw [HN.out, HM.out]; exact h1), HN.out, HM.out] at hdr
      have hzr : ((n : Int) < (m : Int)) ↔ n < m := by omega
      by_cases hlta : k < n
      · have hza : (k : Int) < n := by omega
        have hzb : ¬ (k : Int) < m := by omega
        have hf : ¬ n < m := by omega
        have hfz : ¬ (n : Int) < (m : Int) := by omega
        obtain rfl : r = false := by rw [← hdr, decide_eq_false hf]
        clear h1 hzr hdr
        go_wp2_with fail
        go_ret
        exact ⟨rfl, _, rfl⟩
      · have hza : ¬ (k : Int) < n := by omega
        clear h1
        by_cases hf : n < m
        · have hfz : (n : Int) < (m : Int) := by omega
          obtain rfl : r = true := by rw [← hdr, decide_eq_true hf]
          clear hzr hdr
          go_wp2_with fail
          go_ret
          exact ⟨rfl, _, rfl⟩
        · have hfz : ¬ (n : Int) < (m : Int) := by omega
          obtain rfl : r = false := by rw [← hdr, decide_eq_false hf]
          clear hzr hdr
          go_wp2_with fail
          go_ret
          exact ⟨rfl, _, rfl⟩
end Go.Proofs.YtidacfhdhdnidaaGreatDoor.Shf

namespace Go.Proofs.YtidacfhdhdnidaaGreatDoor.Shf
open Go.RowKit Heap Idx
open Subj (Tok ML pieces Strs strAt StrsAt)

/-- A right subject is short. -/
theorem err_short {l : List UInt8} (h : Subj.err false l = 0) : l.length ≤ 200 := by
  obtain ⟨h1, h2⟩ := err_toks h
  have h3 := joinT_len (pieces l) (fun t ht => (h2 t ht).2)
  rw [join_pieces] at h3
  omega

theorem entV_set (L : Ents) (k : Nat) (p : Tok × Int) (s : Tok) (n : Int) (h : L[k]? = some p) (hp : p.1 = s) : (entV L).set (k * 2 + 1) (.int .i64 n) = entV (L.set k (s, n)) := by
  induction L generalizing k with
  | nil => simp at h
  | cons a r ih =>
    cases k with
    | zero =>
      simp at h; subst h; subst hp; rfl
    | succ k =>
      have h2 : r[k]? = some p := by simpa using h
      rw [entV_cons, List.set_cons_succ, entV_cons, ← ih k h2]
      show ((entC a) ++ entV r).set _ _ = _
      rw [List.set_append, if_neg (by simp [entC]; omega), show (k + 1) * 2 + 1 - (entC a).length = k * 2 + 1 from by simp [entC]; omega]

theorem cntL_true {L : Ents} {s : Tok} {k : Nat} (h : k < cntL L s) : ∃ p, L[k]? = some p ∧ before (pieces p.1) (pieces s) = true := by
  have hl : k < L.length := Nat.lt_of_lt_of_le h (cntL_le L s)
  refine ⟨L[k], List.getElem?_eq_getElem hl, ?_⟩
  have h1 := (takeWhile_split (fun x : Tok × Int => before (pieces x.1) (pieces s)) L).1
  have h2 : L[k] ∈ L.takeWhile (fun x => before (pieces x.1) (pieces s)) := by
    rw [← h1]
    exact List.mem_iff_getElem?.2 ⟨k, by rw [List.getElem?_take, if_pos (show k < (L.takeWhile fun x => before (pieces x.1) (pieces s)).length from h)]; exact List.getElem?_eq_getElem hl⟩
  have h3 := List.all_takeWhile (p := fun x : Tok × Int => before (pieces x.1) (pieces s)) (l := L)
  exact List.all_eq_true.1 h3 _ h2

theorem cntL_false {L : Ents} {s : Tok} (h : cntL L s < L.length) : ∃ p, L[cntL L s]? = some p ∧ before (pieces p.1) (pieces s) = false := by
  refine ⟨L[cntL L s], List.getElem?_eq_getElem h, ?_⟩
  have h1 := (takeWhile_split (fun x : Tok × Int => before (pieces x.1) (pieces s)) L).2
  have h2 := List.head?_dropWhile_not (fun x : Tok × Int => before (pieces x.1) (pieces s)) L
  rw [← h1] at h2
  have h3 : (L.drop (L.takeWhile fun x => before (pieces x.1) (pieces s)).length).head? = some L[cntL L s] := by
    rw [List.head?_drop]; exact List.getElem?_eq_getElem h
  rw [h3] at h2
  simpa using h2

section
variable {W w : World} {G : Nat → Prop} {E : Nat} {A : Ents}

/-- Pieces, as a row of texts. -/
theorem pieces_strs (s : ByteArray) (w : World) (hs : s.size ≤ 1048576) :
    Calls Tryz.prog 135 #[.string s, .int .u8 46] w fun e w' => ∃ v, e = .returned v ∧ Strs w' v (pieces s.data.toList) ∧ Below w.heap.size w w' :=
  (Subj.pieces_any s w hs).mono fun _ _ ⟨v, a, b, c⟩ => ⟨v, a, Strs.own b, c⟩

set_option maxHeartbeats 4000000 in
set_option maxRecDepth 100000 in
theorem put_hit (h : ShelfAt W G E A w) (s : ByteArray) (n : Int) (hs : s.size ≤ 1048576) (he : Subj.err false s.data.toList = 0) (k : Nat) (p : Tok × Int) (e1 : idxL A s.data.toList = (k : Int)) (e2 : A[k]? = some p) (e3 : p.1 = s.data.toList) :
    Calls Tryz.prog 168 #[.pointer (some ⟨E, 0, none⟩), .string s, .int .i64 n] w fun e w' => e = .returned (.int .i64 0) ∧ NextS W G E w (setL A k s.data.toList n) w' := by
  have HSU := Lib.hid (Subj.refSubject_any s w hs)
  have HA := Lib.hid (fun w1 (hb : Below w.heap.size w w1) => at_any (h.next hb) s)
  have HH := Lib.hid h
  have hshort := err_short he
  rw [he] at HSU
  rw [e1] at HA
  generalize s.data.toList = t at *
  have HP := Lib.hid e2; have HP1 := Lib.hid e3; have HSH := Lib.hid hshort
  have hkl := (List.getElem?_eq_some_iff.1 e2).1
  obtain ⟨m, hm⟩ : ∃ m, A.length = m := ⟨_, rfl⟩
  have HN := Lib.hid hm
  have hfew := h.few
  rw [hm] at hkl hfew
  clear h e1 e2 e3 hm he hs hshort
  go_enter Tryz.func168, Tryz.ntmps168
  go_wp2_with fail
  refine HSU.out.mono ?_
  rintro e w1 ⟨rfl, hb1⟩
  have HB1 := Lib.hid hb1
  clear hb1 HSU
  go_wp2_with fail
  refine (HA.out w1 HB1.out).mono ?_
  rintro e w2 ⟨rfl, hb2⟩
  have HB2 := Lib.hid (HB1.out.trans (hb2.mono HB1.out.size))
  have hS := HH.out.next HB2.out
  obtain ⟨v, h1, h2, h3⟩ := hS.mem
  obtain ⟨c0, cf⟩ := oneC h1
  have hEl := heap_lt h1
  rw [HN.out] at h2
  have hrow := h2.2
  rcases hrow with ⟨_, h0⟩ | ⟨g, off, cap, cur, rfl, _⟩
  · omega
  obtain ⟨d0, d1⟩ := cells_pull h2 k p HP.out hkl
  obtain ⟨f0, f1⟩ := frozen_pull h2 k hkl
  have hglt := World.block_lt_of_cell? w2 _ d1
  have hset := h2.set (k * 2 + 1) (by omega) (.int .i64 n)
  rw [entV_set A k p t n HP.out HP1.out, ← Nat.add_assoc] at hset
  have hEg : E ≠ g := fun e => ne_row h1 h2 (by rw [e]; simp [own, Value.ownBlock])
  have hg : G g := h3 g (by simp [own, Value.ownBlock])
  have HF := Lib.hid (show NextS W G E w (setL A k t n) (w2.setCell ⟨g, off + k * 2 + 1, none⟩ (.int .i64 n)) from by
    have tg : Heap.Touch G w2 (w2.setCell ⟨g, off + k * 2 + 1, none⟩ (.int .i64 n)) := (Heap.Touch.refl _ w2).setCell (.inl hg) _
    have hl : (setL A k t n).length = m := by unfold setL; rw [List.length_set, HN.out]
    refine ⟨⟨G, ⟨by rw [hl]; exact hfew, fun e he => ?_, hS.below.trans (tg.below hS.below.size hS.newG), hS.newG, fun j hj => Nat.lt_of_lt_of_le (hS.bG j hj) tg.size, hS.gE, _, (heap_setCell_other _ _ _ _ hEg).trans h1, by rw [hl]; exact hset, h3⟩, fun _ hk => .inl hk⟩, (Heap.Touch.ofBelow HB2.out).after tg⟩
    unfold setL at he
    rcases List.mem_or_eq_of_mem_set he with he | rfl
    · exact HH.out.short e he
    · exact HSH.out)
  clear hb2 hS h1 h2 h3 hset hg hEg
  go_wp2_with fail
  go_ret
  exact ⟨rfl, HF.out⟩

/-- A new entry is laid in its place. -/
theorem ins_tail {wz : World} {v : Value} (h : ShelfAt W G E A w) (hb : Below w.heap.size w wz) (hm : A.length < 100) {t : Tok} {s : ByteArray} (hsh : t.length ≤ 200) (hst : (⟨t.toArray⟩ : ByteArray) = s) (n : Int)
    (h1 : wz.heap[E]? = some (.cells #[v] 247 (0, 0))) (h2 : Row wz 197 2 v A.length (entV A)) (h3 : ∀ k, own v k → G k) :
    Calls Tryz.prog 191 #[v, .int .i64 (cntL A t : Nat), .slice (some ⟨wz.heap.size, 0, none⟩) 1 1] (wz.alloc (.cells #[.string s, .int .i64 n] 197)) fun e w6 => ∃ a c, e = .returned (.slice a (A.length + 1) c) ∧ w6.heap[E]? = some (.cells #[v] 247 (0, 0)) ∧ NextS W G E w (insL A t n) (w6.setCell ⟨E, 0, none⟩ (.slice a (A.length + 1) c)) := by
  have hba : Below wz.heap.size wz (wz.alloc (.cells #[.string s, .int .i64 n] 197)) := (Below.refl _ _).alloc (Nat.le_refl _) _
  have hra := h2.kept (w' := wz.alloc (.cells #[.string s, .int .i64 n] 197)) fun j _ hj => hba.block j hj
  have hvb := heap_alloc_new wz (.cells #[.string s, .int .i64 n] 197)
  have hno : ¬ own v wz.heap.size := fun ho => by have := h2.lt _ ho; omega
  refine (Ins.insert_any (N := [.string s, .int .i64 n]) v (by omega) (cntL_le A t) hra (entV_one _) rfl (by
    intro u hu
    simp only [List.mem_cons, List.not_mem_nil, or_false] at hu
    rcases hu with rfl | rfl <;> rfl) hvb hno).mono ?_
  rintro e w6 ⟨v', rfl, r6, t6, o6⟩
  have hEa := (hba.block E (heap_lt h1)).trans h1
  have hE6 := (t6.block E (heap_lt hEa) (ne_row hEa hra)).trans hEa
  obtain ⟨a6, c6, rfl⟩ := r6.slice
  refine ⟨a6, c6, rfl, hE6, ShelfAt.put h (by rw [insL_len]; omega) (fun e he => ?_) hE6 (((Heap.Touch.ofBelow hb).after ((Heap.Touch.refl _ wz).alloc _ |>.mono fun _ _ hk => hk)).trans t6 fun k _ hk => h3 k hk) ?_ (fun k hk => ?_) (fun ho => ?_)⟩
  · rcases mem_insL.1 he with rfl | he
    · exact hsh
    · exact h.short e he
  · have e1 : entV (insL A t n) = (entV A).take (cntL A t * 2) ++ [.string s, .int .i64 n] ++ (entV A).drop (cntL A t * 2) := by
      rw [entV_take, entV_drop, insL, entV_append, entV_cons, ← hst, List.append_assoc]
      rfl
    rw [insL_len, e1]; exact r6
  · rcases o6 k hk with h9 | h9
    · exact .inl (h3 k h9)
    · exact .inr (by have := hb.size; have := hba.size; omega)
  · rcases o6 E ho with h9 | h9
    · exact ne_row hEa hra h9
    · have := heap_lt h1; have := hba.size; omega

set_option maxHeartbeats 4000000 in
set_option maxRecDepth 100000 in
theorem put_new (h : ShelfAt W G E A w) (s : ByteArray) (n : Int) (hs : s.size ≤ 1048576) (he : Subj.err false s.data.toList = 0) (e1 : idxL A s.data.toList = -1) (hlen : A.length ≠ 100) :
    Calls Tryz.prog 168 #[.pointer (some ⟨E, 0, none⟩), .string s, .int .i64 n] w fun e w' => e = .returned (.int .i64 0) ∧ NextS W G E w (insL A s.data.toList n) w' := by
  have HSU := Lib.hid (Subj.refSubject_any s w hs)
  have HA := Lib.hid (fun w1 (hb : Below w.heap.size w w1) => at_any (h.next hb) s)
  have HPS := Lib.hid (fun w1 => pieces_strs s w1 hs)
  have HH := Lib.hid h
  have hshort := err_short he
  rw [he] at HSU
  rw [e1] at HA
  have hpz := Subj.pieces_size s hs
  have hst : (⟨s.data.toList.toArray⟩ : ByteArray) = s := rfl
  have HST := Lib.hid hst
  generalize s.data.toList = t at *
  have HSH := Lib.hid hshort
  have hct := cntL_le A t
  obtain ⟨m, hm⟩ : ∃ m, A.length = m := ⟨_, rfl⟩
  have HN := Lib.hid hm
  have hfew := h.few
  rw [hm] at hct hfew hlen
  obtain ⟨ct, hc⟩ : ∃ ct, cntL A t = ct := ⟨_, rfl⟩
  have HCT := Lib.hid hc
  rw [hc] at hct
  have hmz : ((m : Int) == 100) = false := by
    have : ¬ (m : Int) = 100 := by omega
    simpa using this
  clear h e1 hm he hs hshort hst hc
  go_enter Tryz.func168, Tryz.ntmps168
  go_wp2_with fail
  refine HSU.out.mono ?_
  rintro e w1 ⟨rfl, hb1⟩
  have HB1 := Lib.hid hb1
  clear hb1 HSU
  go_wp2_with fail
  refine (HA.out w1 HB1.out).mono ?_
  rintro e w2 ⟨rfl, hb2⟩
  have HB2 := Lib.hid (HB1.out.trans (hb2.mono HB1.out.size))
  have HS := Lib.hid (HH.out.next HB2.out)
  obtain ⟨v, h1, h2, h3⟩ := HS.out.mem
  obtain ⟨c0, cf⟩ := oneC h1
  have hEl := heap_lt h1
  rw [HN.out] at h2
  obtain ⟨va, vc, rfl⟩ := h2.slice
  have H1 := Lib.hid h1; have H2 := Lib.hid h2; have H3 := Lib.hid h3
  clear hb2 HB1 h1 h2 h3 HA
  go_wp2_with fail
  clear c0 cf hEl
  go_loopw [9] (fun i wr => ∃ k : Nat, k ≤ ct ∧ i = .int .i64 k ∧ Hid (Below w2.heap.size w2 wr)) (fun i _ => m - (intOf i).toNat)
  case atStart => exact ⟨0, Nat.zero_le _, rfl, Lib.hid (Below.refl _ _)⟩
  case round =>
    obtain ⟨k, hk, rfl, HW⟩ := hrel
    have x1 := (HW.out.block E (heap_lt H1.out)).trans H1.out
    have x2 := H2.out.kept (w' := wr) fun j _ hj => HW.out.block j hj
    obtain ⟨c0, cf⟩ := oneC x1
    have hEl := heap_lt x1
    have X1 := Lib.hid x1; have X2 := Lib.hid x2
    clear x1 x2
    by_cases hkm : k < m
    · have hkz : (k : Int) < m := by omega
      obtain ⟨p, B, hp, HBF, hBk⟩ : ∃ (p : Tok × Int) (B : Bool), A[k]? = some p ∧ Hid (before (pieces p.1) (pieces t) = B) ∧ (B = true → k < ct) ∧ (B = false → k = ct) := by
        by_cases hlt : k < ct
        · obtain ⟨p, h1, h2⟩ := cntL_true (L := A) (s := t) (k := k) (by rw [HCT.out]; exact hlt)
          exact ⟨p, true, h1, h2, fun _ => hlt, fun h => by cases h⟩
        · have hke : k = ct := by omega
          obtain ⟨p, h1, h2⟩ := cntL_false (L := A) (s := t) (by rw [HCT.out, HN.out]; omega)
          rw [HCT.out, ← hke] at h1
          exact ⟨p, false, h1, h2, fun h => (by cases h), fun _ => hke⟩
      have hrow := X2.out.2
      rcases hrow with ⟨_, h0⟩ | ⟨g, off, cap, cur, ev, _⟩
      · omega
      simp only [Value.slice.injEq, true_and] at ev
      obtain ⟨rfl, rfl⟩ := ev
      obtain ⟨d0, d1⟩ := cells_pull X2.out k p hp hkm
      have hpsz : (⟨p.1.toArray⟩ : ByteArray).size ≤ 1048576 := by
        have := HH.out.short p (List.mem_of_getElem? hp)
        show p.1.toArray.size ≤ _
        rw [List.size_toArray]; omega
      have HP1 := Lib.hid (fun w1 => pieces_strs ⟨p.1.toArray⟩ w1 hpsz)
      have HP1z := Lib.hid (Subj.pieces_size ⟨p.1.toArray⟩ hpsz)
      simp only [List.toList_toArray] at HP1 HP1z
      have HBK := Lib.hid hBk
      clear hp hpsz d1 hBk
      go_wp2_with fail
      refine (HP1.out _).mono ?_
      rintro e w3 ⟨v3, rfl, hs3, hb3⟩
      have HS3 := Lib.hid hs3; have HB3 := Lib.hid (HW.out.trans (hb3.mono HW.out.size))
      clear hs3 hb3 HP1 HW c0 cf hEl d0
      go_wp2_with fail
      refine (HPS.out _).mono ?_
      rintro e w4 ⟨v4, rfl, hs4, hb4⟩
      have HBE := Lib.hid (before_any _ _ _ _ w4 HP1z.out hpz (HS3.out.below hb4) hs4)
      have HB4 := Lib.hid (HB3.out.trans (hb4.mono HB3.out.size))
      rw [HBF.out] at HBE
      clear hs4 hb4 HS3 HB3
      go_wp2_with fail
      refine HBE.out.mono ?_
      rintro e w5 ⟨rfl, hq⟩
      have HB5 : Hid (Below w2.heap.size w2 w5) := Lib.hid (by obtain ⟨q, rfl⟩ := hq; exact below_drewN HB4.out q)
      clear hq
      cases B with
      | true =>
        have hkc := HBK.out.1 rfl
        clear HBE HB4 HBK HBF X1 X2
        go_wp2_with fail
        exact ⟨⟨k + 1, by omega, by go_num, HB5⟩, by simp [intOf]; omega⟩
      | false =>
        obtain rfl := HBK.out.2 rfl
        have x1 := (HB5.out.block E (heap_lt H1.out)).trans H1.out
        have x2 := H2.out.kept (w' := w5) fun j _ hj => HB5.out.block j hj
        obtain ⟨c0, cf⟩ := oneC x1
        have hEl := heap_lt x1
        clear HBE HB4 HBK HBF X1 X2
        have HIN := Lib.hid (ins_tail HH.out (HB2.out.trans (HB5.out.mono HB2.out.size)) (by rw [HN.out]; omega) HSH.out HST.out n x1 (by rw [HN.out]; exact x2) H3.out)
        rw [HCT.out] at HIN
        clear x1 x2
        go_wp2_with fail
        with_reducible refine HIN.out.mono ?_
        rintro e w6 ⟨a6, c6, rfl, y1, hnx⟩
        obtain ⟨y0, yf⟩ := oneC y1
        have hE6 := heap_lt y1
        have HF := Lib.hid hnx
        clear y1 hnx HIN
        go_wp2_with fail
        go_ret
        exact ⟨rfl, HF.out⟩
    · have hkz : ¬ (k : Int) < m := by omega
      obtain rfl : k = m := by omega
      obtain rfl : k = ct := by omega
      have x1 := X1.out
      have x2 := X2.out
      have HIN := Lib.hid (ins_tail HH.out (HB2.out.trans (HW.out.mono HB2.out.size)) (by rw [HN.out]; omega) HSH.out HST.out n x1 (by rw [HN.out]; exact x2) H3.out)
      rw [HCT.out] at HIN
      clear x1 x2
      go_wp2_with fail
      with_reducible refine HIN.out.mono ?_
      rintro e w6 ⟨a6, c6, rfl, y1, hnx⟩
      obtain ⟨y0, yf⟩ := oneC y1
      have hE6 := heap_lt y1
      have HF := Lib.hid hnx
      clear y1 hnx HIN
      go_wp2_with fail
      go_ret
      exact ⟨rfl, HF.out⟩

set_option maxRecDepth 100000 in
theorem put_full (h : ShelfAt W G E A w) (s : ByteArray) (n : Int) (hs : s.size ≤ 1048576) (he : Subj.err false s.data.toList = 0) (e1 : idxL A s.data.toList = -1) (hlen : A.length = 100) :
    Calls Tryz.prog 168 #[.pointer (some ⟨E, 0, none⟩), .string s, .int .i64 n] w fun e w' => e = .returned (.int .i64 8) ∧ NextS W G E w A w' := by
  have HSU := Lib.hid (Subj.refSubject_any s w hs)
  have HA := Lib.hid (fun w1 (hb : Below w.heap.size w w1) => at_any (h.next hb) s)
  have HH := Lib.hid h
  have HN := Lib.hid hlen
  rw [he] at HSU
  rw [e1] at HA
  generalize s.data.toList = t at *
  clear h e1 he hs hlen
  go_enter Tryz.func168, Tryz.ntmps168
  go_wp2_with fail
  refine HSU.out.mono ?_
  rintro e w1 ⟨rfl, hb1⟩
  have HB1 := Lib.hid hb1
  clear hb1 HSU
  go_wp2_with fail
  refine (HA.out w1 HB1.out).mono ?_
  rintro e w2 ⟨rfl, hb2⟩
  have HB2 := Lib.hid (HB1.out.trans (hb2.mono HB1.out.size))
  obtain ⟨v, h1, h2, h3⟩ := (HH.out.next HB2.out).mem
  obtain ⟨c0, cf⟩ := oneC h1
  have hEl := heap_lt h1
  rw [HN.out] at h2
  obtain ⟨va, vc, rfl⟩ := h2.slice
  clear hb2 HB1 h1 h2 h3 HA
  go_wp2_with fail
  go_ret
  exact ⟨rfl, NextS.refl HH.out HB2.out⟩

set_option maxRecDepth 100000 in
theorem put_bad (h : ShelfAt W G E A w) (s : ByteArray) (n : Int) (hs : s.size ≤ 1048576) (he : Subj.err false s.data.toList ≠ 0) :
    Calls Tryz.prog 168 #[.pointer (some ⟨E, 0, none⟩), .string s, .int .i64 n] w fun e w' => e = .returned (.int .i64 (Subj.err false s.data.toList : Nat)) ∧ NextS W G E w A w' := by
  have HSU := Lib.hid (Subj.refSubject_any s w hs)
  have HH := Lib.hid h
  generalize Subj.err false s.data.toList = er at *
  have he0 : ((er : Int) != 0) = true := by simpa using he
  clear h he hs
  go_enter Tryz.func168, Tryz.ntmps168
  go_wp2_with fail
  refine HSU.out.mono ?_
  rintro e w1 ⟨rfl, hb1⟩
  have HB1 := Lib.hid hb1
  clear hb1 HSU
  go_wp2_with fail
  go_ret
  exact ⟨rfl, NextS.refl HH.out HB1.out⟩

theorem put_shf (h : ShelfAt W G E A w) (s : ByteArray) (n : Int) (hs : s.size ≤ 1048576) :
    Calls Tryz.prog 168 #[.pointer (some ⟨E, 0, none⟩), .string s, .int .i64 n] w fun e w' => e = .returned (.int .i64 ((putL (Subj.err false s.data.toList) A s.data.toList n).2 : Nat)) ∧ NextS W G E w (putL (Subj.err false s.data.toList) A s.data.toList n).1 w' := by
  by_cases he : Subj.err false s.data.toList = 0
  · rcases idxL_cases A s.data.toList with ⟨e1, e2⟩ | ⟨k, p, e1, e2, e3, e5⟩
    · by_cases hl : A.length = 100
      · have hr : putL (Subj.err false s.data.toList) A s.data.toList n = (A, 8) := by unfold putL; rw [if_neg (by simp [he]), if_neg (by omega), if_pos hl]
        rw [hr]; exact put_full h s n hs he e1 hl
      · have hr : putL (Subj.err false s.data.toList) A s.data.toList n = (insL A s.data.toList n, 0) := by unfold putL; rw [if_neg (by simp [he]), if_neg (by omega), if_neg hl]
        rw [hr]; exact put_new h s n hs he e1 hl
    · have hr : putL (Subj.err false s.data.toList) A s.data.toList n = (setL A k s.data.toList n, 0) := by unfold putL; rw [if_neg (by simp [he]), if_pos (by omega), e1]; rfl
      rw [hr]; exact put_hit h s n hs he k p e1 e2 e3
  · have hr : putL (Subj.err false s.data.toList) A s.data.toList n = (A, Subj.err false s.data.toList) := by unfold putL; rw [if_pos he]
    rw [hr]; exact put_bad h s n hs he
end
end Go.Proofs.YtidacfhdhdnidaaGreatDoor.Shf

namespace Go.Proofs.YtidacfhdhdnidaaGreatDoor.Shf
open Go.RowKit Heap Idx
open Subj (Tok ML pieces takes)

theorem findL_step {A : Ents} {k : Nat} {p : Tok × Int} (hp : A[k]? = some p) (t : Tok) (B : Bool) (hB : takes (pieces t) (pieces p.1) = B) : findL (A.take (k + 1)) t = findL (A.take k) t ++ if B then [p] else [] := by
  subst hB
  unfold findL
  rw [List.take_add_one, hp, List.filter_append]
  congr 1
  simp only [Option.toList, List.filter_cons, List.filter_nil]

/-- What has been found so far. -/
def OutE (w wr : World) (o : Value) (L : Ents) : Prop := Row wr 197 2 o L.length (entV L) ∧ ∀ k, own o k → w.heap.size ≤ k

section
variable {W w : World} {G : Nat → Prop} {E : Nat} {A : Ents}

theorem OutE.next {w wr w' : World} {o : Value} {L : Ents} (h : OutE w wr o L) (hb : Below wr.heap.size wr w') : OutE w w' o L := ⟨h.1.kept fun k _ hk => hb.block k hk, h.2⟩

set_option maxHeartbeats 4000000 in
set_option maxRecDepth 100000 in
theorem find_shf (h : ShelfAt W G E A w) (f : ByteArray) (hf : f.size ≤ 1048576) :
    Calls Tryz.prog 169 #[.pointer (some ⟨E, 0, none⟩), .string f] w (FindPost (Subj.err true f.data.toList) (findL A f.data.toList) w) := by
  have HSU := Lib.hid (Subj.refFilter_any f w hf)
  have HTK := Lib.hid (fun s w1 hs => Subj.takesS_ref f s w1 hf hs)
  have HH := Lib.hid h
  generalize Subj.err true f.data.toList = er at *
  generalize f.data.toList = t at *
  by_cases he : er = 0
  · subst he
    obtain ⟨m, hm⟩ : ∃ m, A.length = m := ⟨_, rfl⟩
    have hfew : m ≤ 100 := by rw [← hm]; exact h.few
    have HN := Lib.hid hm
    obtain ⟨i0, hi, hz0, hz1, hz2⟩ := info_parts Shf.Ins.info_el
    clear h hf hm
    go_enter Tryz.func169, Tryz.ntmps169
    go_wp2_with fail
    refine HSU.out.mono ?_
    rintro e w1 ⟨rfl, hb1⟩
    have HB1 := Lib.hid hb1
    clear hb1 HSU
    go_wp2_with fail
    go_loopw [7, 8] (fun o i wr => ∃ k : Nat, k ≤ m ∧ i = .int .i64 k ∧ Hid (Below w.heap.size w wr) ∧ Hid (OutE w wr o (findL (A.take k) t))) (fun _ i _ => m - (intOf i).toNat)
    case atStart => exact ⟨0, Nat.zero_le _, rfl, HB1, Lib.hid ⟨Row.nil _ _ _, fun k hk => by simp [own, Value.ownBlock] at hk⟩⟩
    case round =>
      obtain ⟨k, hk, rfl, HW, HO⟩ := hrel
      obtain ⟨v, h1, h2, h3⟩ := (HH.out.next HW.out).mem
      obtain ⟨c0, cf⟩ := oneC h1
      have hEl := heap_lt h1
      rw [HN.out] at h2
      by_cases hlt : k < m
      · have hltz : (k : Int) < m := by omega
        obtain ⟨p, hp⟩ : ∃ p, A[k]? = some p := ⟨_, List.getElem?_eq_getElem (by rw [HN.out]; exact hlt)⟩
        have hpsz : (⟨p.1.toArray⟩ : ByteArray).size ≤ 1048576 := by
          have := HH.out.short p (List.mem_of_getElem? hp)
          show p.1.toArray.size ≤ _
          rw [List.size_toArray]; omega
        have htk := fun w1 => HTK.out ⟨p.1.toArray⟩ w1 hpsz
        simp only [List.toList_toArray] at htk
        obtain ⟨B, hB⟩ : ∃ B, takes (pieces t) (pieces p.1) = B := ⟨_, rfl⟩
        rw [hB] at htk
        have HTK1 := Lib.hid htk; have HP := Lib.hid hp
        have hst := findL_step hp t B hB
        have HST := Lib.hid hst
        rcases h2.2 with ⟨_, h0⟩ | ⟨g, off, cap, cur, rfl, _⟩
        · omega
        obtain ⟨d0, d1⟩ := cells_pull h2 k p hp hlt
        clear h1 h2 h3 hp hpsz htk hB hst d1
        go_wp2_with fail
        refine (HTK1.out _).mono ?_
        rintro e w3 ⟨rfl, hb3⟩
        have HW3 := Lib.hid (HW.out.trans (hb3.mono HW.out.size))
        have HO3 := Lib.hid (HO.out.next hb3)
        clear hb3 HTK1 c0 cf hEl d0 HW HO
        cases B with
        | false =>
          clear HP
          go_wp2_with fail
          exact ⟨⟨k + 1, by omega, by go_num, HW3, Lib.hid (by rw [HST.out]; simpa using HO3.out)⟩, by simp [intOf]; omega⟩
        | true =>
          obtain ⟨v, h1, h2, h3⟩ := (HH.out.next HW3.out).mem
          obtain ⟨c0, cf⟩ := oneC h1
          have hEl := heap_lt h1
          rw [HN.out] at h2
          rcases h2.2 with ⟨_, h0⟩ | ⟨g, off, cap, cur, rfl, _⟩
          · omega
          obtain ⟨d0, d1⟩ := cells_pull h2 k p HP.out hlt
          obtain ⟨S, hS⟩ : ∃ S : ByteArray, (⟨p.1.toArray⟩ : ByteArray) = S := ⟨_, rfl⟩
          obtain ⟨nn, hnn⟩ : ∃ nn : Int, p.2 = nn := ⟨_, rfl⟩
          have hel : entV [p] = [.string S, .int .i64 nn] := by rw [← hS, ← hnn]; rfl
          rw [hS] at d0
          rw [hnn] at d1
          have hfl : (findL (A.take k) t).length ≤ 100 := by
            have h5 := List.length_filter_le (fun y : Tok × Int => takes (pieces t) (pieces y.1)) (A.take k)
            have h6 : (A.take k).length ≤ 100 := by rw [List.length_take, HN.out]; omega
            unfold findL; omega
          obtain ⟨FL, hFL⟩ : ∃ FL, findL (A.take k) t = FL := ⟨_, rfl⟩
          rw [hFL] at HO3 HST hfl
          have hr1 : Row (w3.alloc (.cells #[.string S, .int .i64 nn] 197)) 197 2 u7 FL.length (entV FL) := HO3.out.1.kept fun k _ hk => Below.heap_alloc _ _ _ hk
          have hnews : ∀ j u, ([.string S, .int .i64 nn] : List Value)[j]? = some u → (w3.alloc (.cells #[.string S, .int .i64 nn] 197)).cell? ((⟨w3.heap.size, 0, none⟩ : Addr).add j) = some u := fun j u hj => by
            rw [Addr.add_lit, cell_of_row _ w3.heap.size (0 + j) _ _ _ (heap_alloc_new w3 _), Nat.zero_add]
            rcases j with _ | _ | j
            · simpa using hj
            · simpa using hj
            · simp at hj
          have hone : ∀ u ∈ ([.string S, .int .i64 nn] : List Value), u.oneCell' = true := by
            intro u hu
            simp only [List.mem_cons, List.not_mem_nil, or_false] at hu
            rcases hu with rfl | rfl <;> rfl
          have HR := Lib.hid hr1; have HNW := Lib.hid hnews; have HON := Lib.hid hone; have HEL := Lib.hid hel
          clear h1 h2 h3 hr1 hnews hone hel hS hnn hFL HP
          go_wp2_with (at_builtin; refine Heap.wpList_append_row _ rfl (.tmp 33) (.tmp 41) 192 rfl 197 i0 _ 2 24 Tryz.underlying192 hi hz0 hz1 hz2 rfl (by decide) _ FL.length _ rfl HR.out ⟨w3.heap.size, 0, none⟩ 1 1 [.string S, .int .i64 nn] rfl rfl HNW.out HON.out (by unfold maxLen; omega) (by omega) ?_)
          intro v2 w4 r4 t4 o4
          have HF := Lib.hid (show Below w.heap.size w w4 ∧ OutE w w4 v2 (FL ++ [p]) from by
            have hb3 : Below w.heap.size w (w3.alloc (.cells #[.string S, .int .i64 nn] 197)) := HW3.out.alloc HW3.out.size _
            refine ⟨hb3.trans (t4.below hb3.size fun k hk => HO3.out.2 k hk), ?_, fun k hk => ?_⟩
            · rw [List.length_append, entV_append, HEL.out]; exact r4
            · rcases o4 k hk with h | h
              · exact HO3.out.2 k h
              · have h9 := HW3.out.size; omega)
          clear r4 t4 o4 HR HNW HON c0 cf hEl d0 d1 HO3 HW3
          go_wp2_with fail
          exact ⟨⟨k + 1, by omega, by go_num, Lib.hid HF.out.1, Lib.hid (by rw [HST.out]; exact HF.out.2)⟩, by simp [intOf]; omega⟩
      · have hltz : ¬ (k : Int) < m := by omega
        obtain rfl : k = m := by omega
        obtain ⟨va, vc, rfl⟩ := h2.slice
        have HF := Lib.hid (show FindPost 0 (findL A t) w (.returned (.tuple #[u7, .int .i64 0])) wr from by
          have h5 := HO.out
          rw [List.take_of_length_le (by rw [HN.out]; exact Nat.le_refl _)] at h5
          exact ⟨HW.out, .inr ⟨rfl, u7, rfl, h5.1, h5.2⟩⟩)
        clear h1 h2 h3 HO
        go_wp2_with fail
        go_ret2
        exact HF.out
  · have he0 : ((er : Int) != 0) = true := by simpa using he
    have HE := Lib.hid he
    clear h hf he
    go_enter Tryz.func169, Tryz.ntmps169
    go_wp2_with fail
    refine HSU.out.mono ?_
    rintro e w1 ⟨rfl, hb1⟩
    have HB1 := Lib.hid hb1
    clear hb1 HSU
    go_wp2_with fail
    go_ret2
    exact ⟨HB1.out, .inl ⟨HE.out, rfl⟩⟩

set_option maxHeartbeats 2000000 in
set_option maxRecDepth 100000 in
theorem equal_ents {v1 v2 : Value} {l : Ents} (h1 : Row w 197 2 v1 l.length (entV l)) (h2 : Row w 197 2 v2 l.length (entV l)) (hl : l.length ≤ 100000) :
    Calls Tryz.prog 123 #[v1, v2] w fun e w' => e = .returned (.bool true) ∧ ∃ q, w' = w.drewN q := by
  obtain ⟨n, hn⟩ : ∃ n, l.length = n := ⟨_, rfl⟩
  rw [hn] at h1 h2 hl
  obtain ⟨a1, c1, rfl⟩ := h1.slice
  obtain ⟨a2, c2, rfl⟩ := h2.slice
  have H1 := Lib.hid h1; have H2 := Lib.hid h2; have HN := Lib.hid hn
  clear h1 h2 hn
  go_enter Tryz.func123, Tryz.ntmps123
  go_wp2_with fail
  go_loopw [13] (fun i wr => ∃ k : Nat, k ≤ n ∧ i = .int .i64 k ∧ ∃ q, wr = w.drewN q) (fun i _ => n - (intOf i).toNat)
  case atStart => exact ⟨0, Nat.zero_le _, rfl, 0, rfl⟩
  case round =>
    obtain ⟨k, hk, rfl, q, rfl⟩ := hrel
    by_cases hlt : k < n
    · have hltz : (k : Int) < n := by omega
      obtain ⟨p, hp⟩ : ∃ p, l[k]? = some p := ⟨_, List.getElem?_eq_getElem (by rw [HN.out]; exact hlt)⟩
      have x1 := H1.out
      have x2 := H2.out
      rcases x1.2 with ⟨_, h0⟩ | ⟨g1, o1, cc1, cur1, e1, _⟩
      · omega
      rcases x2.2 with ⟨_, h0⟩ | ⟨g2, o2, cc2, cur2, e2, _⟩
      · omega
      simp only [Value.slice.injEq, true_and] at e1 e2
      obtain ⟨rfl, rfl⟩ := e1
      obtain ⟨rfl, rfl⟩ := e2
      obtain ⟨d0, d1⟩ := cells_pull x1 k p hp hlt
      obtain ⟨y0, y1⟩ := cells_pull x2 k p hp hlt
      generalize (⟨p.1.toArray⟩ : ByteArray) = S at d0 y0
      generalize p.2 = nn at d1 y1
      clear hp x1 x2
      go_wp2_with fail
      go_quiet (fail)
      go_wp2_with fail
      exact ⟨⟨k + 1, by omega, by go_num, _, rfl⟩, by simp [intOf]; omega⟩
    · have hltz : ¬ (k : Int) < n := by omega
      go_wp2_with fail
      go_ret
      exact ⟨rfl, _, rfl⟩
end
end Go.Proofs.YtidacfhdhdnidaaGreatDoor.Shf
