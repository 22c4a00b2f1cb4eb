/- Parts of the proof, joined: Get, of the store and of the reference's chest, walked.; A consumer in plain Lean: what it does of a list of messages. No program here.; Names and numbers of plans, walked: plan.Named, plan.Number, rillref.Named, rillref.Digits. -/
import Derived.Test.YtbgchhgdlceceaaGreatDoorPlansOwnUptoM20
namespace Go.Proofs.YtbgchhgdlceceaaGreatDoor.Sto
open Go.RowKit Heap
open Subj (Tok ML pieces takes)
open Rec (Rc recErr far)
open Idx (Ents ptrV)

section
variable {W w : World} {F : Nat → Prop} {D B C : Nat} {L : List Rc} {last : Int} {v : Value} {I : Ents}

end
end Go.Proofs.YtbgchhgdlceceaaGreatDoor.Sto

namespace Go.Proofs.YtbgchhgdlceceaaGreatDoor.Con
open Subj (Tok pieces takes TakerP errT errT_facts argsOk_facts)
open Sto (Right tk recV)
open Rec (Rc far)

/-- A pending delivery. -/
structure Pd where
  seq : Int
  nth : Int
  due : Int

/-- What a consumer has beside its plan. -/
structure Cn where
  place : Int
  count : Int
  l : List Pd

/-- A delivery. -/
structure Dl where
  seq : Int
  subj : List UInt8
  data : List UInt8
  count : Int
  nth : Int
  left : Int

def Dl.zero : Dl := ⟨0, [], [], 0, 0, 0⟩

def startP (t : TakerP) (L : List Rc) (last : Int) : Int :=
  if t.src = 1 then match L.reverse.find? (tk t.filt) with
    | none => last + 1
    | some x => x.seq
  else if t.src = 2 then last + 1
  else if t.src = 3 then t.start
  else 1

def newP (t : TakerP) (L : List Rc) (last : Int) : Cn := ⟨startP t L last, 0, []⟩

/-- What is right of a consumer. -/
structure Ok (k : Nat) (c : Cn) : Prop where
  rise : c.l.Pairwise fun a b => a.seq < b.seq
  in_ : ∀ p ∈ c.l, (1 ≤ p.seq ∧ p.seq < c.place) ∧ (1 ≤ p.nth ∧ p.nth ≤ k) ∧ (0 ≤ p.due ∧ p.due ≤ far + 200000)
  place : 1 ≤ c.place ∧ c.place ≤ far + 1
  count : 0 ≤ c.count ∧ c.count ≤ k
  len : (c.l.length : Int) ≤ c.count

section
variable {t : TakerP} {L : List Rc} {last now : Int} {c : Cn} {k : Nat} {I : Idx.Ents}

theorem Ok.mono {m : Nat} (h : Ok k c) (hm : k ≤ m) : Ok m c :=
  ⟨h.rise, fun p hp => by obtain ⟨a, b, d⟩ := h.in_ p hp; exact ⟨a, ⟨b.1, by omega⟩, d⟩, h.place, ⟨h.count.1, by have := h.count.2; omega⟩, h.len⟩

end
end Go.Proofs.YtbgchhgdlceceaaGreatDoor.Con

namespace Go.Proofs.YtbgchhgdlceceaaGreatDoor.Subj
open Go.RowKit

theorem nameOk_of (s : ByteArray) (h : ∀ j, (h : j < s.size) → nameByte s[j] = true) : nameOk s.data.toList = (decide (1 ≤ s.size) && decide (s.size ≤ 16)) := by
  have : s.data.toList.all nameByte = true := by
    rw [List.all_eq_true]
    intro b hb
    obtain ⟨j, hj, rfl⟩ := List.getElem_of_mem hb
    rw [list_get s j (by simpa using hj)]
    exact h j _
  unfold nameOk
  rw [this, Bool.true_and]
  simp

theorem nameOk_not (s : ByteArray) (j : Nat) (hj : j < s.size) (h : nameByte s[j] = false) : nameOk s.data.toList = false := by
  have : s.data.toList.all nameByte = false := by
    rw [List.all_eq_false]
    exact ⟨s[j], by rw [← list_get s j hj]; exact List.getElem_mem _, by simp [h]⟩
  unfold nameOk
  rw [this, Bool.false_and]

def NameLoop (s : ByteArray) (k : Nat) : Prop := ∀ j, (h : j < s.size) → j < k → nameByte s[j] = true

theorem NameLoop.step {s : ByteArray} {k : Nat} (H : NameLoop s k) (hk : k < s.size) (h : nameByte s[k] = true) : NameLoop s (k + 1) := fun j hj hjk => by
  by_cases e : j = k
  · subst e; exact h
  · exact H j hj (by omega)

set_option maxHeartbeats 1000000 in
set_option maxRecDepth 100000 in
theorem named_any (s : ByteArray) (w : World) (hs : s.size ≤ maxLen) :
    Calls Tryz.prog 155 #[.string s] w fun e w' => e = .returned (.bool (nameOk s.data.toList)) ∧ w = w' := by
  unfold maxLen at hs
  go_enter Tryz.func155, Tryz.ntmps155
  go_wp2
  go_loop [7] (fun i => ∃ k : Nat, k ≤ s.size ∧ i = .int .i64 k ∧ Hid (NameLoop s k)) (fun i => s.size - (intOf i).toNat)
  case atStart => exact ⟨0, Nat.zero_le _, rfl, fun j _ h => by omega⟩
  case round =>
    obtain ⟨k, hk, rfl, H⟩ := hrel
    by_cases hlt : k < s.size
    · have hb := s[k].toNat_lt
      by_cases hok : nameByte s[k] = true
      · have HN := Lib.hid (H.out.step hlt hok)
        unfold nameByte at hok
        simp only [Bool.or_eq_true, Bool.and_eq_true, decide_eq_true_eq, beq_iff_eq] at hok
        rcases hok with (⟨b1, b2⟩ | ⟨b1, b2⟩) | b1
        · go_wp2
          exact ⟨⟨k + 1, by omega, by go_num, HN⟩, by simp [intOf]; omega⟩
        · go_wp2
          exact ⟨⟨k + 1, by omega, by go_num, HN⟩, by simp [intOf]; omega⟩
        · have d : ((s[k].toNat : Int) != 45) = false := by simp; omega
          go_wp2
          all_goals exact ⟨⟨k + 1, by omega, by go_num, HN⟩, by simp [intOf]; omega⟩
      · have hr := nameOk_not s k hlt (by simpa using hok)
        have HR := Lib.hid hr; clear hr
        unfold nameByte at hok
        simp at hok
        obtain ⟨⟨h1, h2⟩, h3⟩ := hok
        have d : ((s[k].toNat : Int) != 45) = true := by simp; omega
        by_cases b1 : s[k].toNat < 97
        · by_cases b2 : s[k].toNat < 48
          · go_wp2
            go_ret
            exact ⟨ret_bool HR.out.symm, rfl⟩
          · have b3 : 57 < s[k].toNat := by omega
            go_wp2
            go_ret
            exact ⟨ret_bool HR.out.symm, rfl⟩
        · have b2 : 122 < s[k].toNat := by omega
          have b3 : 57 < s[k].toNat := by omega
          go_wp2
          go_ret
          exact ⟨ret_bool HR.out.symm, rfl⟩
    · have hr := nameOk_of s (fun j h => H.out j h (by omega))
      have HR := Lib.hid hr; clear hr
      by_cases c1 : 1 ≤ s.size
      · by_cases c2 : s.size ≤ 16
        · have e : (decide (1 ≤ s.size) && decide (s.size ≤ 16)) = true := by simp [c1, c2]
          have E := Lib.hid e; clear e
          go_wp2
          go_ret
          refine ⟨ret_bool ?_, rfl⟩
          rw [HR.out, E.out]
          simp; omega
        · have e : (decide (1 ≤ s.size) && decide (s.size ≤ 16)) = false := by simp; omega
          have E := Lib.hid e; clear e
          go_wp2
          go_ret
          refine ⟨ret_bool ?_, rfl⟩
          rw [HR.out, E.out]
          simp; omega
      · have e : (decide (1 ≤ s.size) && decide (s.size ≤ 16)) = false := by simp; omega
        have E := Lib.hid e; clear e
        go_wp2
        go_ret
        exact ⟨ret_bool (by rw [HR.out, E.out]), rfl⟩

/-! ### Numbers -/
def NumLoop (s : ByteArray) (k : Nat) (n : Nat) : Prop := digitsVal (s.data.toList.take k) = n ∧ (s.data.toList.take k).all isDigit = true ∧ n < 10 ^ k

theorem NumLoop.step {s : ByteArray} {k n : Nat} (H : NumLoop s k n) (hk : k < s.size) (h : isDigit s[k] = true) : NumLoop s (k + 1) (10 * n + (s[k].toNat - 48)) := by
  obtain ⟨h1, h2, h3⟩ := H
  have htk : s.data.toList.take (k + 1) = s.data.toList.take k ++ [s[k]] := by
    rw [List.take_add_one]; simp [hk]; rfl
  refine ⟨?_, ?_, ?_⟩
  · rw [htk, digitsVal_snoc, h1]
  · rw [htk]; simp [h2, h]
  · have := digitsVal_step (l := s.data.toList.take k) (b := s[k]) (k := k) (by omega) h
    rw [digitsVal_snoc, h1] at this
    exact this

end Go.Proofs.YtbgchhgdlceceaaGreatDoor.Subj
