/- rillref.before, walked. -/
import Derived.Test.YtpmffneohcbhbaaDoorShfDrop
import Derived.Test.YtpmffneohcbhbaaDoorRefTakes1
namespace Go.Proofs.YtpmffneohcbhbaaDoor.Shf
open Go.RowKit Heap Idx
open Subj (Tok ML pieces Strs strAt StrsAt)

theorem bytesLess_cb : ∀ a b : Tok, Op.bytesLess a b = decide (cb a b < 0)
  | [], [] => rfl
  | _ :: _, [] => rfl
  | [], _ :: _ => rfl
  | x :: a, y :: b => by
    unfold Op.bytesLess
    rw [bytesLess_cb a b]
    show _ = decide (Lib.compareBytes (x :: a) (y :: b) < 0)
    have e0 : Lib.compareBytes (x :: a) (y :: b) = if x < y then -1 else if y < x then 1 else Lib.compareBytes a b := by rw [Lib.compareBytes]
    rw [e0]
    by_cases h : x < y
    · simp [h]
    · by_cases h2 : y < x
      · have hne : (x == y) = false := by
          simp only [beq_eq_false_iff_ne, ne_eq]
          rintro rfl; exact h h2
        simp [h, h2, hne]
      · have e : x = y := UInt8.le_antisymm (UInt8.not_lt.1 h2) (UInt8.not_lt.1 h)
        subst e
        rw [if_neg h, if_neg h, decide_eq_false h, beq_self_eq_true, Bool.true_and, Bool.false_or]

theorem before_drop {a b : List Tok} {k : Nat} (h : a.take k = b.take k) : before a b = before (a.drop k) (b.drop k) := by
  conv => lhs; rw [← List.take_append_drop k a, ← List.take_append_drop k b, h]
  exact before_app _ _ _

theorem before_step {a b : List Tok} {k : Nat} (ha : k < a.length) (hb : k < b.length) : before (a.drop k) (b.drop k) = if a.getD k [] = b.getD k [] then before (a.drop (k + 1)) (b.drop (k + 1)) else decide (cb (a.getD k []) (b.getD k []) < 0) := by
  rw [List.drop_eq_getElem_cons ha, List.drop_eq_getElem_cons hb]
  conv => lhs; unfold before
  simp [List.getD, ha, hb]

theorem before_end {a b : List Tok} {k : Nat} (ha : k ≤ a.length) (hb : k ≤ b.length) (h : ¬ (k < a.length ∧ k < b.length)) : before (a.drop k) (b.drop k) = decide (a.length < b.length) := by
  by_cases e : k = b.length
  · subst e
    rw [List.drop_length]
    have : ¬ a.length < b.length := by omega
    rw [decide_eq_false this]
    unfold before; rfl
  · have e2 : k = a.length := by omega
    subst e2
    rw [List.drop_length]
    have h3 : a.length < b.length := by omega
    rw [decide_eq_true h3, List.drop_eq_getElem_cons h3]
    rfl

theorem drew_more {w w1 : World} (h : ∃ q, w1 = w.drewN q) (n : Nat) : ∃ q, w1.drewN n = w.drewN q := by
  obtain ⟨q, rfl⟩ := h
  exact ⟨q + n, by simp [World.drewN, Nat.add_assoc]⟩

set_option maxHeartbeats 2000000 in
set_option maxRecDepth 100000 in
theorem before_any (a b : List Tok) (va vb : Value) (w : World) (ha : a.length ≤ 1048577) (hb : b.length ≤ 1048577) (hva : Strs w va a) (hvb : Strs w vb b) :
    Calls Tryd.prog 55 #[va, vb] w fun e w' => e = .returned (.bool (before a b)) ∧ ∃ q, w' = w.drewN q := by
  obtain ⟨r, hr⟩ : ∃ r, before a b = r := ⟨_, rfl⟩
  rw [hr]
  obtain ⟨aa, ca, rfl, hca, haa⟩ := hva
  obtain ⟨ab, cb', rfl, hcb, hab⟩ := hvb
  obtain ⟨n, hn⟩ : ∃ n, a.length = n := ⟨_, rfl⟩
  obtain ⟨m, hm⟩ : ∃ m, b.length = m := ⟨_, rfl⟩
  rw [hn] at ha hca ⊢
  rw [hm] at hb hcb ⊢
  have HAA := Lib.hid haa; have HAB := Lib.hid hab; have HR := Lib.hid hr; have HN := Lib.hid hn; have HM := Lib.hid hm
  clear haa hab hr hn hm
  go_enter Tryd.func55, Tryd.ntmps55
  go_wp2_with fail
  go_loopw [5] (fun i wr => ∃ k : Nat, k ≤ n ∧ k ≤ m ∧ i = .int .i64 k ∧ (∃ q, wr = w.drewN q) ∧ Hid (a.take k = b.take k)) (fun i _ => n - (intOf i).toNat)
  case atStart => exact ⟨0, Nat.zero_le _, Nat.zero_le _, rfl, ⟨0, rfl⟩, Lib.hid rfl⟩
  case round =>
    obtain ⟨k, hka, hkb, rfl, ⟨q, rfl⟩, HT⟩ := hrel
    by_cases h1 : k < n ∧ k < m
    · obtain ⟨hlta, hltb⟩ := h1
      have hza : (k : Int) < n := by omega
      have hzb : (k : Int) < m := by omega
      have hla : k < a.length := by rw [HN.out]; exact hlta
      have hlb : k < b.length := by rw [HM.out]; exact hltb
      obtain ⟨ga, oa, rfl, hsa⟩ := HAA.out (by intro e; rw [e] at hla; simp at hla)
      obtain ⟨gb, ob, rfl, hsb⟩ := HAB.out (by intro e; rw [e] at hlb; simp at hlb)
      have xa : w.cell? ⟨ga, oa + k, none⟩ = some (.string (strAt a k)) := hsa k hla
      have xb : w.cell? ⟨gb, ob + k, none⟩ = some (.string (strAt b k)) := hsb k hlb
      have e1 : (strAt a k).toList = a.getD k [] := Subj.strAt_toList a k
      have e2 : (strAt b k).toList = b.getD k [] := Subj.strAt_toList b k
      have hst := before_step hla hlb
      have hdr := (before_drop HT.out).symm.trans HR.out
      rw [hst] at hdr
      have htk : a.getD k [] = b.getD k [] → a.take (k + 1) = b.take (k + 1) := fun e => by
        have f1 : a.take (k + 1) = a.take k ++ [a.getD k []] := by
          rw [List.take_add_one, List.getElem?_eq_getElem hla]; simp [List.getD, hla]
        have f2 : b.take (k + 1) = b.take k ++ [b.getD k []] := by
          rw [List.take_add_one, List.getElem?_eq_getElem hlb]; simp [List.getD, hlb]
        rw [f1, f2, HT.out, e]
      generalize strAt a k = p at xa e1
      generalize strAt b k = p2 at xb e2
      rw [← e1, ← e2] at hdr
      rw [← e1, ← e2] at htk
      have HTK := Lib.hid htk; have HDR := Lib.hid hdr
      clear hst htk hdr e1 e2 hla hlb hsa hsb
      by_cases heq : p.toList = p2.toList
      · have hb2 : (p.toList == p2.toList) = true := by simpa using heq
        have HNX := Lib.hid (HTK.out heq)
        clear heq HDR HTK
        go_wp2_with fail
        go_quiet (fail)
        go_wp2_with fail
        exact ⟨⟨k + 1, by omega, by omega, by go_num, ⟨_, rfl⟩, HNX⟩, by simp [intOf]; omega⟩
      · have hb2 : (p.toList == p2.toList) = false := by simpa using heq
        have hrr : r = Op.bytesLess p.toList p2.toList := by
          have h9 := HDR.out
          rw [if_neg heq, ← bytesLess_cb] at h9
          exact h9.symm
        subst hrr
        clear heq HDR HTK
        go_wp2_with fail
        go_quiet (fail)
        go_wp2_with fail
        go_quiet (fail)
        go_wp2_with fail
        go_ret
        exact ⟨rfl, drew_more (drew_more ⟨q, rfl⟩ _) _⟩
    · have hdr := (before_drop HT.out).symm.trans HR.out
      rw [before_end (by rw [HN.out]; exact hka) (by rw [HM.out]; exact hkb) (by rw [HN.out, HM.out]; exact h1), HN.out, HM.out] at hdr
      have hzr : ((n : Int) < (m : Int)) ↔ n < m := by omega
      by_cases hlta : k < n
      · have hza : (k : Int) < n := by omega
        have hzb : ¬ (k : Int) < m := by omega
        have hf : ¬ n < m := by omega
        have hfz : ¬ (n : Int) < (m : Int) := by omega
        obtain rfl : r = false := by rw [← hdr, decide_eq_false hf]
        clear h1 hzr hdr
        go_wp2_with fail
        go_ret
        exact ⟨rfl, _, rfl⟩
      · have hza : ¬ (k : Int) < n := by omega
        clear h1
        by_cases hf : n < m
        · have hfz : (n : Int) < (m : Int) := by omega
          obtain rfl : r = true := by rw [← hdr, decide_eq_true hf]
          clear hzr hdr
          go_wp2_with fail
          go_ret
          exact ⟨rfl, _, rfl⟩
        · have hfz : ¬ (n : Int) < (m : Int) := by omega
          obtain rfl : r = false := by rw [← hdr, decide_eq_false hf]
          clear hzr hdr
          go_wp2_with fail
          go_ret
          exact ⟨rfl, _, rfl⟩
end Go.Proofs.YtpmffneohcbhbaaDoor.Shf
