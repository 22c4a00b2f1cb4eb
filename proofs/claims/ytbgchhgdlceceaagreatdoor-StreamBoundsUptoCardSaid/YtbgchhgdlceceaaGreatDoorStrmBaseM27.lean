/- Parts of the proof, joined: How a consumer's text is read: in plain Lean.; How a consumer's plan is printed: in plain Lean.; A consumer in plain Lean: what it does of a list of messages. No program here.; Names and numbers of plans, walked: plan.Named, plan.Number, rillref.Named, rillref.Digits.; The bounds of a plan's numbers, walked.; plan.Check, walked: a plan's first error.; A plan's ten cells in memory; a prefix that is cut.; rillref.values and rillref.Plan, walked.; What is wrong with a consumer's plan: taker.Check, walked.; What is wrong with a consumer's plan: taker.Check and rillref.Taker, walked.; The memory of who reads a consumer's text.; taker.Wait and rillref.Wait, walked. -/
import Derived.Test.YtbgchhgdlceceaaGreatDoorStrmBaseM26
import Derived.Shelf.Abstract
import Derived.Deep.DeepCutAuto
namespace Go.Proofs.YtbgchhgdlceceaaGreatDoor.Subj

structure TakerP where
  name : List UInt8
  filt : List UInt8
  src : Int
  start : Int
  ack : Int
  wait : Int
  back : List Int
  most : Int
  pend : Int
  push : Bool

/-- The beginnings of the options, in their order: "from=", "ack=", "wait=", "backoff=", "most=", "pending=", "push". -/
def heads : List Tok := [[102, 114, 111, 109, 61], [97, 99, 107, 61], [119, 97, 105, 116, 61], [98, 97, 99, 107, 111, 102, 102, 61], [109, 111, 115, 116, 61], [112, 101, 110, 100, 105, 110, 103, 61], [112, 117, 115, 104]]

def lastW : Tok := [108, 97, 115, 116]
def newW : Tok := [110, 101, 119]
def noneW : Tok := [110, 111, 110, 101]
def allW : Tok := [97, 108, 108]

/-- An option is laid into a plan; none: it is none. -/
def optT (i : Nat) (v : Tok) (t : TakerP) : Option TakerP :=
  match i with
  | 0 => if v = lastW then some { t with src := 1 } else if v = newW then some { t with src := 2 } else if 0 < numberOf v then some { t with src := 3, start := numberOf v } else none
  | 1 => if v = noneW then some { t with ack := 0 } else if v = allW then some { t with ack := 1 } else none
  | 2 => if 0 < numberOf v then some { t with wait := numberOf v } else none
  | 3 => if ((piecesC 44 v).all fun x => decide (0 < numberOf x)) = true then some { t with back := t.back ++ (piecesC 44 v).map numberOf } else none
  | 4 => if 0 < numberOf v then some { t with most := numberOf v } else none
  | 5 => if 0 < numberOf v then some { t with pend := numberOf v } else none
  | _ => if v = [] then some { t with push := true } else none

/-- What is told from the option i on. -/
def seqF : Nat → Nat → List Tok → TakerP → Option TakerP
  | 0, _, r, t => if r = [] then some t else none
  | k + 1, i, r, t =>
    match r with
    | [] => seqF k (i + 1) [] t
    | x :: r' => if (heads.getD i []).isPrefixOf x = true then (optT i (x.drop (heads.getD i []).length) t).bind (seqF k (i + 1) r') else seqF k (i + 1) (x :: r') t

def seqT (i : Nat) (r : List Tok) (t : TakerP) : Option TakerP := seqF (7 - i) i r t

theorem seqT_no {i : Nat} (hi : i < 7) (x : Tok) (r : List Tok) (t : TakerP) (h : (heads.getD i []).isPrefixOf x = false) : seqT i (x :: r) t = seqT (i + 1) (x :: r) t := by
  unfold seqT
  obtain ⟨k, hk⟩ : ∃ k, 7 - i = k + 1 := ⟨6 - i, by omega⟩
  have hk2 : 7 - (i + 1) = k := by omega
  rw [hk, hk2]
  conv => lhs; unfold seqF
  simp only [h, Bool.false_eq_true, if_false]

theorem seqT_yes {i : Nat} (hi : i < 7) (x : Tok) (r : List Tok) (t : TakerP) (h : (heads.getD i []).isPrefixOf x = true) : seqT i (x :: r) t = (optT i (x.drop (heads.getD i []).length) t).bind (seqT (i + 1) r) := by
  unfold seqT
  obtain ⟨k, hk⟩ : ∃ k, 7 - i = k + 1 := ⟨6 - i, by omega⟩
  have hk2 : 7 - (i + 1) = k := by omega
  rw [hk, hk2]
  conv => lhs; unfold seqF
  simp only [h, if_true]

theorem seqT_none {i : Nat} (hi : i < 7) (t : TakerP) : seqT i [] t = seqT (i + 1) [] t := by
  unfold seqT
  obtain ⟨k, hk⟩ : ∃ k, 7 - i = k + 1 := ⟨6 - i, by omega⟩
  have hk2 : 7 - (i + 1) = k := by omega
  rw [hk, hk2]
  rfl

end Go.Proofs.YtbgchhgdlceceaaGreatDoor.Subj

namespace Go.Proofs.YtbgchhgdlceceaaGreatDoor.Subj

end Go.Proofs.YtbgchhgdlceceaaGreatDoor.Subj

namespace Go.Proofs.YtbgchhgdlceceaaGreatDoor.Con
open Subj (Tok pieces takes TakerP)
open Sto (Right getQ tk recV)
open Rec (Rc far)

/-- A pending delivery. -/
structure Pd where
  seq : Int
  nth : Int
  due : Int

/-- What a consumer has beside its plan. -/
structure Cn where
  place : Int
  count : Int
  l : List Pd

/-- A delivery. -/
structure Dl where
  seq : Int
  subj : List UInt8
  data : List UInt8
  count : Int
  nth : Int
  left : Int

def Dl.zero : Dl := ⟨0, [], [], 0, 0, 0⟩

/-- What is right of a consumer. -/
structure Ok (k : Nat) (c : Cn) : Prop where
  rise : c.l.Pairwise fun a b => a.seq < b.seq
  in_ : ∀ p ∈ c.l, (1 ≤ p.seq ∧ p.seq < c.place) ∧ (1 ≤ p.nth ∧ p.nth ≤ k) ∧ (0 ≤ p.due ∧ p.due ≤ far + 200000)
  place : 1 ≤ c.place ∧ c.place ≤ far + 1
  count : 0 ≤ c.count ∧ c.count ≤ k
  len : (c.l.length : Int) ≤ c.count

section
variable {t : TakerP} {L : List Rc} {last now : Int} {c : Cn} {k : Nat} {I : Idx.Ents}

theorem Ok.mono {m : Nat} (h : Ok k c) (hm : k ≤ m) : Ok m c :=
  ⟨h.rise, fun p hp => by obtain ⟨a, b, d⟩ := h.in_ p hp; exact ⟨a, ⟨b.1, by omega⟩, d⟩, h.place, ⟨h.count.1, by have := h.count.2; omega⟩, h.len⟩

end
end Go.Proofs.YtbgchhgdlceceaaGreatDoor.Con

namespace Go.Proofs.YtbgchhgdlceceaaGreatDoor.Subj
open Go.RowKit

theorem nameOk_of (s : ByteArray) (h : ∀ j, (h : j < s.size) → nameByte s[j] = true) : nameOk s.data.toList = (decide (1 ≤ s.size) && decide (s.size ≤ 16)) := by
  have : s.data.toList.all nameByte = true := by
    rw [List.all_eq_true]
    intro b hb
    obtain ⟨j, hj, rfl⟩ := List.getElem_of_mem hb
    rw [list_get s j (by simpa using hj)]
    exact h j _
  unfold nameOk
  rw [this, Bool.true_and]
  simp

theorem nameOk_not (s : ByteArray) (j : Nat) (hj : j < s.size) (h : nameByte s[j] = false) : nameOk s.data.toList = false := by
  have : s.data.toList.all nameByte = false := by
    rw [List.all_eq_false]
    exact ⟨s[j], by rw [← list_get s j hj]; exact List.getElem_mem _, by simp [h]⟩
  unfold nameOk
  rw [this, Bool.false_and]

def NameLoop (s : ByteArray) (k : Nat) : Prop := ∀ j, (h : j < s.size) → j < k → nameByte s[j] = true

theorem NameLoop.step {s : ByteArray} {k : Nat} (H : NameLoop s k) (hk : k < s.size) (h : nameByte s[k] = true) : NameLoop s (k + 1) := fun j hj hjk => by
  by_cases e : j = k
  · subst e; exact h
  · exact H j hj (by omega)

set_option maxHeartbeats 1000000 in
set_option maxRecDepth 100000 in
theorem named_any (s : ByteArray) (w : World) (hs : s.size ≤ maxLen) :
    Calls Tryz.prog 155 #[.string s] w fun e w' => e = .returned (.bool (nameOk s.data.toList)) ∧ w = w' := by
  unfold maxLen at hs
  go_enter Tryz.func155, Tryz.ntmps155
  go_wp2
  go_loop [7] (fun i => ∃ k : Nat, k ≤ s.size ∧ i = .int .i64 k ∧ Hid (NameLoop s k)) (fun i => s.size - (intOf i).toNat)
  case atStart => exact ⟨0, Nat.zero_le _, rfl, fun j _ h => by omega⟩
  case round =>
    obtain ⟨k, hk, rfl, H⟩ := hrel
    by_cases hlt : k < s.size
    · have hb := s[k].toNat_lt
      by_cases hok : nameByte s[k] = true
      · have HN := Lib.hid (H.out.step hlt hok)
        unfold nameByte at hok
        simp only [Bool.or_eq_true, Bool.and_eq_true, decide_eq_true_eq, beq_iff_eq] at hok
        rcases hok with (⟨b1, b2⟩ | ⟨b1, b2⟩) | b1
        · go_wp2
          exact ⟨⟨k + 1, by omega, by go_num, HN⟩, by simp [intOf]; omega⟩
        · go_wp2
          exact ⟨⟨k + 1, by omega, by go_num, HN⟩, by simp [intOf]; omega⟩
        · have d : ((s[k].toNat : Int) != 45) = false := by simp; omega
          go_wp2
          all_goals exact ⟨⟨k + 1, by omega, by go_num, HN⟩, by simp [intOf]; omega⟩
      · have hr := nameOk_not s k hlt (by simpa using hok)
        have HR := Lib.hid hr; clear hr
        unfold nameByte at hok
        simp at hok
        obtain ⟨⟨h1, h2⟩, h3⟩ := hok
        have d : ((s[k].toNat : Int) != 45) = true := by simp; omega
        by_cases b1 : s[k].toNat < 97
        · by_cases b2 : s[k].toNat < 48
          · go_wp2
            go_ret
            exact ⟨ret_bool HR.out.symm, rfl⟩
          · have b3 : 57 < s[k].toNat := by omega
            go_wp2
            go_ret
            exact ⟨ret_bool HR.out.symm, rfl⟩
        · have b2 : 122 < s[k].toNat := by omega
          have b3 : 57 < s[k].toNat := by omega
          go_wp2
          go_ret
          exact ⟨ret_bool HR.out.symm, rfl⟩
    · have hr := nameOk_of s (fun j h => H.out j h (by omega))
      have HR := Lib.hid hr; clear hr
      by_cases c1 : 1 ≤ s.size
      · by_cases c2 : s.size ≤ 16
        · have e : (decide (1 ≤ s.size) && decide (s.size ≤ 16)) = true := by simp [c1, c2]
          have E := Lib.hid e; clear e
          go_wp2
          go_ret
          refine ⟨ret_bool ?_, rfl⟩
          rw [HR.out, E.out]
          simp; omega
        · have e : (decide (1 ≤ s.size) && decide (s.size ≤ 16)) = false := by simp; omega
          have E := Lib.hid e; clear e
          go_wp2
          go_ret
          refine ⟨ret_bool ?_, rfl⟩
          rw [HR.out, E.out]
          simp; omega
      · have e : (decide (1 ≤ s.size) && decide (s.size ≤ 16)) = false := by simp; omega
        have E := Lib.hid e; clear e
        go_wp2
        go_ret
        exact ⟨ret_bool (by rw [HR.out, E.out]), rfl⟩

/-! ### Numbers -/
def NumLoop (s : ByteArray) (k : Nat) (n : Nat) : Prop := digitsVal (s.data.toList.take k) = n ∧ (s.data.toList.take k).all isDigit = true ∧ n < 10 ^ k

theorem NumLoop.step {s : ByteArray} {k n : Nat} (H : NumLoop s k n) (hk : k < s.size) (h : isDigit s[k] = true) : NumLoop s (k + 1) (10 * n + (s[k].toNat - 48)) := by
  obtain ⟨h1, h2, h3⟩ := H
  have htk : s.data.toList.take (k + 1) = s.data.toList.take k ++ [s[k]] := by
    rw [List.take_add_one]; simp [hk]; rfl
  refine ⟨?_, ?_, ?_⟩
  · rw [htk, digitsVal_snoc, h1]
  · rw [htk]; simp [h2, h]
  · have := digitsVal_step (l := s.data.toList.take k) (b := s[k]) (k := k) (by omega) h
    rw [digitsVal_snoc, h1] at this
    exact this

end Go.Proofs.YtbgchhgdlceceaaGreatDoor.Subj

namespace Go.Proofs.YtbgchhgdlceceaaGreatDoor.Subj
open Go.RowKit

def wordAt (k : Nat) : ByteArray := ⟨(words.getD k []).toArray⟩
def mostAt (k : Nat) : Int := mosts.getD k 0

def bndCells (P : Nat) : Array Value := #[
  .string (wordAt 0), .pointer (some ⟨P, 2, none⟩), .int .i64 (mostAt 0), .string (wordAt 1), .pointer (some ⟨P, 3, none⟩), .int .i64 (mostAt 1),
  .string (wordAt 2), .pointer (some ⟨P, 4, none⟩), .int .i64 (mostAt 2), .string (wordAt 3), .pointer (some ⟨P, 5, none⟩), .int .i64 (mostAt 3),
  .string (wordAt 4), .pointer (some ⟨P, 6, none⟩), .int .i64 (mostAt 4), .string (wordAt 5), .pointer (some ⟨P, 7, none⟩), .int .i64 (mostAt 5),
  .string (wordAt 6), .pointer (some ⟨P, 8, none⟩), .int .i64 (mostAt 6), .string (wordAt 7), .pointer (some ⟨P, 9, none⟩), .int .i64 (mostAt 7)]

/-- Block G holds the bounds of the plan in block P. -/
def BndAt (P G : Nat) (w : World) : Prop := ∀ k, k < 8 → w.cell? ⟨G, k * 3, none⟩ = some (.string (wordAt k)) ∧ w.cell? ⟨G, k * 3 + 1, none⟩ = some (.pointer (some ⟨P, 2 + k, none⟩)) ∧ w.cell? ⟨G, k * 3 + 2, none⟩ = some (.int .i64 (mostAt k))

theorem bndAt_made (P : Nat) (w : World) (t : TypeId) : BndAt P w.heap.size (w.alloc (.cells (bndCells P) t)) := by
  have h : ∀ j, (w.alloc (.cells (bndCells P) t)).cell? ⟨w.heap.size, j, none⟩ = (bndCells P)[j]? := fun j => World.cell?_alloc_at _ _ _ _ rfl
  intro k hk
  rw [h, h, h]
  rcases k with _ | _ | _ | _ | _ | _ | _ | _ | k
  all_goals first | exact ⟨rfl, rfl, rfl⟩ | omega

def BndPost (P : Nat) (w : World) (e : Ending) (w' : World) : Prop :=
  e = .returned (.slice (some ⟨w.heap.size, 0, none⟩) 8 8) ∧ BndAt P w.heap.size w' ∧ Below w.heap.size w w'

set_option maxHeartbeats 4000000 in
set_option maxRecDepth 100000 in
theorem bounds_any (P : Nat) (w : World) : Calls Tryz.prog 168 #[.pointer (some ⟨P, 0, none⟩)] w (BndPost P w) := by
  go_enter Tryz.func168, Tryz.ntmps168
  go_wp2
  go_region
  go_wp2
  go_ret
  exact ⟨rfl, bndAt_made P w _, ((Below.refl _ _).alloc (Nat.le_refl _) _).drew⟩

/-- The numbers of the plan in block P. -/
def ValsAt (P : Nat) (vs : List Int) (w : World) : Prop := ∀ k, k < 8 → w.cell? ⟨P, 2 + k, none⟩ = some (.int .i64 (vs.getD k 0))

theorem BndAt.below {P G : Nat} {w w' : World} (h : BndAt P G w) (hb : Below w.heap.size w w') : BndAt P G w' := fun k hk => by
  obtain ⟨h1, h2, h3⟩ := h k hk
  exact ⟨(hb.cell (World.block_lt_of_cell? w _ h1)).trans h1, (hb.cell (World.block_lt_of_cell? w _ h2)).trans h2, (hb.cell (World.block_lt_of_cell? w _ h3)).trans h3⟩

theorem ValsAt.below {P : Nat} {vs : List Int} {w w' : World} (h : ValsAt P vs w) (hb : Below w.heap.size w w') : ValsAt P vs w' := fun k hk =>
  (hb.cell (World.block_lt_of_cell? w _ (h k hk))).trans (h k hk)

def OutPost (b : Bool) (w : World) (e : Ending) (w' : World) : Prop := e = .returned (.bool b) ∧ Below w.heap.size w w'

set_option maxHeartbeats 4000000 in
set_option maxRecDepth 100000 in
theorem out_any (word : ByteArray) (P j : Nat) (m x : Int) (w : World) (h : w.cell? ⟨P, j, none⟩ = some (.int .i64 x)) :
    Calls Tryz.prog 169 #[.agg #[.string word, .pointer (some ⟨P, j, none⟩), .int .i64 m]] w (OutPost (decide (x < 0) || decide (m < x)) w) := by
  have hP := World.block_lt_of_cell? w _ h
  have hne : P ≠ w.heap.size := by show P ≠ w.heap.size; have : P < w.heap.size := hP; omega
  by_cases h1 : x < 0
  · have d1 : decide (x < 0) = true := by simp [h1]
    rw [d1, Bool.true_or]
    clear d1
    go_enter Tryz.func169, Tryz.ntmps169
    go_wp2
    go_region
    all_goals
      go_wp2
      go_ret
      exact ⟨rfl, ((Below.refl _ _).alloc (Nat.le_refl _) _).drew⟩
  · have d1 : decide (x < 0) = false := by simp [h1]
    rw [d1, Bool.false_or]
    go_enter Tryz.func169, Tryz.ntmps169
    go_wp2
    go_region
    all_goals
      go_wp2
      go_ret
      exact ⟨rfl, ((Below.refl _ _).alloc (Nat.le_refl _) _).drew⟩

end Go.Proofs.YtbgchhgdlceceaaGreatDoor.Subj

namespace Go.Proofs.YtbgchhgdlceceaaGreatDoor.Subj
open Go.RowKit

theorem fn_97 : ∀ args w, (callFunc 169 args).run Tryz.prog w = .ok (.enter 169 args) w := enters_of Tryz.func169 (by kernel_rfl) rfl

set_option maxHeartbeats 2000000 in
set_option maxRecDepth 100000 in
theorem index_bound (P G : Nat) (vs : List Int) (w : World) (hm : ML w) (hB : BndAt P G w) (hV : ValsAt P vs w) :
    Calls Tryz.prog 210 #[.slice (some ⟨G, 0, none⟩) 8 8, .func (.func 169) #[] #[]] w
      fun e w' => ∃ n : Int, e = .returned (.int .i64 n) ∧ (decide (0 ≤ n) = !inAll vs) ∧ Inv w w' := by
  have eg := fn_97
  have HC : ∀ k, k < 8 → ∀ wr, Inv w wr → wr.cell? ⟨G, k * 3, none⟩ = some (.string (wordAt k)) ∧ wr.cell? ⟨G, k * 3 + 1, none⟩ = some (.pointer (some ⟨P, 2 + k, none⟩)) ∧ wr.cell? ⟨G, k * 3 + 2, none⟩ = some (.int .i64 (mostAt k)) :=
    fun k hk wr hI => hB.below hI.2 k hk
  have HO : ∀ k, k < 8 → ∀ wr, Inv w wr → Calls Tryz.prog 169 #[.agg #[.string (wordAt k), .pointer (some ⟨P, 2 + k, none⟩), .int .i64 (mostAt k)]] wr (fun e w' => e = .returned (.bool (decide (vs.getD k 0 < 0) || decide (mostAt k < vs.getD k 0))) ∧ Inv w w') :=
    fun k hk wr hI => (out_any (wordAt k) P (2 + k) (mostAt k) (vs.getD k 0) wr (hV.below hI.2 k hk)).mono fun e w' h => ⟨h.1, hI.step h.2⟩
  have HI := Lib.hid (Inv.refl hm)
  have HC := Lib.hid HC
  have HO := Lib.hid HO
  clear hB hV hm
  rename_i hc ho
  clear hc ho
  go_enter Tryz.func210, Tryz.ntmps210
  go_wp2_with fail
  go_loopw [5, 8] (fun _ i wr => ∃ k : Nat, k ≤ 8 ∧ i = .int .i64 k ∧ Hid (Inv w wr) ∧ Hid (∀ j, j < k → 0 ≤ vs.getD j 0 ∧ vs.getD j 0 ≤ mosts.getD j 0)) (fun _ i _ => 8 - (intOf i).toNat)
  case atStart => exact ⟨0, Nat.zero_le _, rfl, HI, Lib.hid fun j hj => by omega⟩
  case round =>
    obtain ⟨k, hk, rfl, HW, A⟩ := hrel
    by_cases hlt : k < 8
    · have hltz : (k : Int) < 8 := by omega
      obtain ⟨c0, c1, c2⟩ := HC.out k hlt wr HW.out
      have hcall := HO.out k hlt wr HW.out
      cases hq : (decide (vs.getD k 0 < 0) || decide (mostAt k < vs.getD k 0)) with
      | true =>
        rw [hq] at hcall
        have hin : inAll vs = false := inAll_false hlt (by rw [Bool.or_eq_true, decide_eq_true_eq, decide_eq_true_eq] at hq; exact hq)
        have HIN := Lib.hid hin
        have HCALL := Lib.hid hcall
        clear hcall hin hq
        go_wp2_with (go_at_fn 169; refine HCALL.out.mono ?_; rintro e w' ⟨rfl, hb'⟩)
        go_ret
        exact ⟨_, rfl, by rw [HIN.out]; simp, hb'⟩
      | false =>
        rw [hq] at hcall
        have hstep : 0 ≤ vs.getD k 0 ∧ vs.getD k 0 ≤ mosts.getD k 0 := by
          rw [Bool.or_eq_false_iff, decide_eq_false_iff_not, decide_eq_false_iff_not] at hq
          have := hq.1; have h2 := hq.2
          unfold mostAt at h2
          omega
        have HST := Lib.hid hstep
        have HCALL := Lib.hid hcall
        clear hcall hstep hq
        go_wp2_with (go_at_fn 169; refine HCALL.out.mono ?_; rintro e w' ⟨rfl, hb'⟩)
        refine ⟨⟨k + 1, by omega, by go_num, Lib.hid hb', Lib.hid fun j hj => ?_⟩, by simp [intOf]; omega⟩
        by_cases e : j = k
        · subst e; exact HST.out
        · exact A.out j (by omega)
    · have hltz : ¬ (k : Int) < 8 := by omega
      obtain rfl : k = 8 := by omega
      have HIN := Lib.hid (inAll_true A.out)
      go_wp2
      go_ret
      exact ⟨_, rfl, by rw [HIN.out]; simp, HW.out⟩

set_option maxRecDepth 100000 in
theorem contains_bound (P G : Nat) (vs : List Int) (w : World) (hm : ML w) (hB : BndAt P G w) (hV : ValsAt P vs w) :
    Calls Tryz.prog 167 #[.slice (some ⟨G, 0, none⟩) 8 8, .func (.func 169) #[] #[]] w
      fun e w' => e = .returned (.bool (!inAll vs)) ∧ Inv w w' := by
  have H := Lib.hid (index_bound P G vs w hm hB hV)
  clear hB hV hm
  generalize inAll vs = b at *
  go_enter Tryz.func167, Tryz.ntmps167
  go_wp2_with fail
  refine H.out.mono ?_
  rintro e w' ⟨n, rfl, hn, hI⟩
  go_wp2
  go_ret
  first | exact ⟨rfl, hI⟩ | exact ⟨ret_bool hn, hI⟩

/-! ### The filters -/
theorem over_inv {w0 : World} (f g : Tok) (hf : f.length ≤ 1048576) (hg : g.length ≤ 1048576) (ef : err true f = 0) (eg : err true g = 0) (w : World) (h : Inv w0 w) :
    Calls Tryz.prog 209 #[.string ⟨f.toArray⟩, .string ⟨g.toArray⟩] w fun e w' => e = .returned (.tuple #[.bool (over f g), .int .i64 0]) ∧ Inv w0 w' :=
  (overlap_any ⟨f.toArray⟩ ⟨g.toArray⟩ w (by show f.toArray.size ≤ _; simpa using hf) (by show g.toArray.size ≤ _; simpa using hg) h.1).mono fun e w' ⟨a, c⟩ => by
    refine ⟨?_, h.step c⟩
    rw [a]
    show Ending.returned (beV (overlapR f g)) = _
    unfold overlapR pairErr
    rw [ef, eg]
    rfl

theorem filt_inv {w0 : World} (f : Tok) (hf : f.length ≤ 1048576) (w : World) (h : Inv w0 w) : Calls Tryz.prog 156 #[.string ⟨f.toArray⟩] w (IntRet w0 (err true f)) :=
  filterN_inv ⟨f.toArray⟩ (by show f.toArray.size ≤ _; simpa using hf) w h

def Small (fs : List Tok) : Prop := ∀ i, (fs.getD i []).length ≤ 1048576

set_option maxHeartbeats 4000000 in
set_option maxRecDepth 100000 in
theorem filters_any (fs : List Tok) (v : Value) (w : World) (hS : Strs w v fs) (hz : Small fs) (hm : ML w) :
    Calls Tryz.prog 166 #[v] w (IntRet w (filtersErr fs)) := by
  have hI := Inv.refl hm
  obtain ⟨ao, cap, rfl, hlc, hat⟩ := hS
  obtain ⟨r, hr⟩ : ∃ r, filtersErr fs = r := ⟨_, rfl⟩
  rw [hr]
  unfold filtersErr at hr
  obtain ⟨n, hn⟩ : ∃ n, fs.length = n := ⟨_, rfl⟩
  rw [hn] at hlc
  by_cases h4 : 4 < n
  · rw [hn] at hr ⊢
    rw [if_pos h4] at hr
    subst hr
    clear hat hlc hn hm
    go_enter Tryz.func166, Tryz.ntmps166
    go_wp2
    go_ret
    exact ⟨rfl, hI⟩
  rw [hn] at hr ⊢
  rw [if_neg h4] at hr
  by_cases h0 : n = 0
  · rw [if_pos h0] at hr
    subst hr
    have d : ((n : Int) == 0) = true := by simp [h0]
    clear hat hlc hn hm h0
    go_enter Tryz.func166, Tryz.ntmps166
    go_wp2
    go_ret
    exact ⟨rfl, hI⟩
  rw [if_neg h0] at hr
  have d : ((n : Int) == 0) = false := by simp [h0]
  obtain ⟨g, off, rfl, hst⟩ := hat (by intro e; rw [e] at hn; simp at hn; omega)
  have HC : ∀ i, i < n → ∀ wr, Inv w wr → wr.cell? ⟨g, off + i, none⟩ = some (.string ⟨(fs.getD i []).toArray⟩) := fun i hi wr h => hst.below h.2 i (by rw [hn]; exact hi)
  have HF : ∀ i, ∀ wr, Inv w wr → Calls Tryz.prog 156 #[.string ⟨(fs.getD i []).toArray⟩] wr (IntRet w (err true (fs.getD i []))) := fun i wr h => filt_inv _ (hz i) wr h
  have HO : ∀ i a, err true (fs.getD i []) = 0 → err true (fs.getD a []) = 0 → ∀ wr, Inv w wr → Calls Tryz.prog 209 #[.string ⟨(fs.getD i []).toArray⟩, .string ⟨(fs.getD a []).toArray⟩] wr (fun e w' => e = .returned (.tuple #[.bool (over (fs.getD i []) (fs.getD a [])), .int .i64 0]) ∧ Inv w w') :=
    fun i a h1 h2 wr h => over_inv _ _ (hz i) (hz a) h1 h2 wr h
  have HC := Lib.hid HC; have HF := Lib.hid HF; have HO := Lib.hid HO; have HI := Lib.hid hI; have HN := Lib.hid hn; have HR := Lib.hid hr
  clear hst hat hz hm hI hn hr
  rename_i q1 q2 q3
  clear q1 q2 q3
  go_enter Tryz.func166, Tryz.ntmps166
  go_wp2_with fail
  go_loopw [4, 5, 20] (fun _ _ i wr => ∃ k : Nat, k ≤ n ∧ i = .int .i64 k ∧ Hid (Inv w wr) ∧ Hid (∀ j, j < k → err true (fs.getD j []) = 0)) (fun _ _ i _ => n - (intOf i).toNat)
  case atStart => exact ⟨0, Nat.zero_le _, rfl, HI, Lib.hid fun j hj => by omega⟩
  case round =>
    obtain ⟨k, hk, rfl, HW, A⟩ := hrel
    by_cases hlt : k < n
    · have hltz : (k : Int) < n := by omega
      have c0 := HC.out k hlt wr HW.out
      have HCALL := Lib.hid (HF.out k wr HW.out)
      by_cases he : err true (fs.getD k []) = 0
      · have HE := Lib.hid he
        rw [he] at HCALL
        clear he
        go_wp2_with (go_at_call 156; refine HCALL.out.mono ?_; rintro e w' ⟨rfl, hb'⟩)
        refine ⟨⟨k + 1, by omega, by go_num, Lib.hid hb', Lib.hid fun j hj => ?_⟩, by simp [intOf]; omega⟩
        by_cases e : j = k
        · subst e; exact HE.out
        · exact A.out j (by omega)
      · have hrr : r = err true (fs.getD k []) := by
          have := firstErr_at (fs := fs) (k := k) (by rw [HN.out]; exact hlt) A.out he
          rw [← HR.out, this, if_pos he]
        have dn : (((err true (fs.getD k []) : Nat) : Int) == 0) = false := beq_eq_false_iff_ne.2 (by intro e; apply he; omega)
        rw [← hrr] at dn HCALL
        clear he hrr
        go_wp2_with (go_at_call 156; refine HCALL.out.mono ?_; rintro e w' ⟨rfl, hb'⟩)
        go_ret
        exact ⟨rfl, hb'⟩
    · have hltz : ¬ (k : Int) < n := by omega
      obtain rfl : k = n := by omega
      have hr2 : (if clash fs then 10 else 0) = r := by
        have := firstErr_zero.2 (by rw [HN.out]; exact A.out)
        rw [← HR.out, this]; simp
      have HR2 := Lib.hid hr2
      clear hr2 HR HI
      go_wp2_with fail
      go_loopw [6, 7, 9, 10, 11, 32] (fun _ _ _ _ _ i wr => ∃ b : Nat, b ≤ k ∧ i = .int .i64 b ∧ Hid (Inv w wr) ∧ Hid (∀ j a, j < b → a < j → over (fs.getD j []) (fs.getD a []) = false)) (fun _ _ _ _ _ i _ => k - (intOf i).toNat)
      case atStart => exact ⟨0, Nat.zero_le _, rfl, HW, Lib.hid fun j a hj => by omega⟩
      case round =>
        obtain ⟨b, hb, rfl, HV, B⟩ := hrel
        by_cases hbt : b < k
        · have hbz : (b : Int) < k := by omega
          have hbc : b ≤ cap := by omega
          have c1 := HC.out b hbt wr HV.out
          go_wp2_with fail
          go_loopw [9, 10, 11, 41] (fun _ _ _ i wr => ∃ a : Nat, a ≤ b ∧ i = .int .i64 a ∧ Hid (Inv w wr) ∧ Hid (∀ j, j < a → over (fs.getD b []) (fs.getD j []) = false)) (fun _ _ _ i _ => b - (intOf i).toNat)
          case atStart => exact ⟨0, Nat.zero_le _, rfl, HV, Lib.hid fun j hj => by omega⟩
          case round =>
            obtain ⟨a, ha, rfl, HU, D⟩ := hrel
            by_cases hab : a < b
            · have haz : (a : Int) < b := by omega
              have c2 := HC.out a (by omega) wr HU.out
              have HCALL := Lib.hid (HO.out b a (A.out b hbt) (A.out a (by omega)) wr HU.out)
              cases ho : over (fs.getD b []) (fs.getD a []) with
              | true =>
                rw [ho] at HCALL
                have h10 : r = 10 := by
                  have := clash_true (fs := fs) hab (by rw [HN.out]; exact hbt) ho
                  rw [← HR2.out, this]; rfl
                subst h10
                clear ho
                go_wp2_with (go_at_call 209; refine HCALL.out.mono ?_; rintro e w' ⟨rfl, hb'⟩)
                go_ret
                exact ⟨rfl, hb'⟩
              | false =>
                rw [ho] at HCALL
                have HO2 := Lib.hid ho
                clear ho
                go_wp2_with (go_at_call 209; refine HCALL.out.mono ?_; rintro e w' ⟨rfl, hb'⟩)
                refine ⟨⟨a + 1, by omega, by go_num, Lib.hid hb', Lib.hid fun j hj => ?_⟩, by simp [intOf]; omega⟩
                by_cases e : j = a
                · subst e; exact HO2.out
                · exact D.out j (by omega)
            · have haz : ¬ (a : Int) < b := by omega
              obtain rfl : a = b := by omega
              go_wp2
              refine ⟨⟨a + 1, by omega, by go_num, HU, Lib.hid fun j c hj hc => ?_⟩, by simp [intOf]; omega⟩
              by_cases e : j = a
              · subst e; exact D.out c hc
              · exact B.out j c (by omega) hc
        · have hbz : ¬ (b : Int) < k := by omega
          obtain rfl : b = k := by omega
          have h0 : r = 0 := by
            have := clash_false (fs := fs) (fun j a hj ha => B.out j a (by rw [HN.out] at hj; exact hj) ha)
            rw [← HR2.out, this]; rfl
          subst h0
          go_wp2
          go_ret
          exact ⟨rfl, HV.out⟩

/-! ### The check -/
theorem Inv.made {w : World} (hm : ML w) (o : Obj) : Inv w (w.alloc o) := ⟨hm.below ((Below.refl _ _).alloc (Nat.le_refl _) _), (Below.refl _ _).alloc (Nat.le_refl _) _⟩
theorem Inv.thru {w w1 w2 : World} (h : Inv w w1) (h2 : Inv w1 w2) : Inv w w2 := ⟨h2.1, h.2.trans (h2.2.mono h.2.size)⟩

def planCells (name : ByteArray) (v : Value) (x0 x1 x2 x3 x4 x5 x6 x7 : Int) : Array Value := #[.string name, v, .int .i64 x0, .int .i64 x1, .int .i64 x2, .int .i64 x3, .int .i64 x4, .int .i64 x5, .int .i64 x6, .int .i64 x7]

theorem vals_made (name : ByteArray) (v : Value) (x0 x1 x2 x3 x4 x5 x6 x7 : Int) (w : World) (t : TypeId) : ValsAt w.heap.size [x0, x1, x2, x3, x4, x5, x6, x7] (w.alloc (.cells (planCells name v x0 x1 x2 x3 x4 x5 x6 x7) t)) := by
  have h : ∀ j, (w.alloc (.cells (planCells name v x0 x1 x2 x3 x4 x5 x6 x7) t)).cell? ⟨w.heap.size, j, none⟩ = (planCells name v x0 x1 x2 x3 x4 x5 x6 x7)[j]? := fun j => World.cell?_alloc_at _ _ _ _ rfl
  intro k hk
  rw [h]
  rcases k with _ | _ | _ | _ | _ | _ | _ | _ | k
  all_goals first | rfl | omega

set_option maxHeartbeats 4000000 in
set_option maxRecDepth 100000 in
theorem check_any (name : ByteArray) (v : Value) (fs : List Tok) (x0 x1 x2 x3 x4 x5 x6 x7 : Int) (w : World) (hn : name.size ≤ maxLen) (hS : Strs w v fs) (hz : Small fs) (hm : ML w) :
    Calls Tryz.prog 96 #[.agg (planCells name v x0 x1 x2 x3 x4 x5 x6 x7)] w (IntRet w (planErr name.data.toList fs [x0, x1, x2, x3, x4, x5, x6, x7])) := by
  obtain ⟨r, hr⟩ : ∃ r, planErr name.data.toList fs [x0, x1, x2, x3, x4, x5, x6, x7] = r := ⟨_, rfl⟩
  rw [hr]
  unfold planErr at hr
  obtain ⟨ao, cap, rfl, _, _⟩ := id hS
  have hI := Inv.made (w := w) hm (.cells (planCells name (.slice ao fs.length cap) x0 x1 x2 x3 x4 x5 x6 x7) 62)
  have hS1 := hS.below hI.2
  have hV := vals_made name (.slice ao fs.length cap) x0 x1 x2 x3 x4 x5 x6 x7 w 62
  have hN := fun w => named_any name w hn
  have hF := filters_any fs _ _ hS1 hz hI.1
  clear hS hS1 hz hm hn
  unfold planCells at hI hV hF ⊢
  generalize fs.length = n at *
  generalize nameOk name.data.toList = nb at *
  generalize filtersErr fs = fe at *
  have HI := Lib.hid hI; have HV := Lib.hid hV; have HN := Lib.hid hN; have HF := Lib.hid hF; have HR := Lib.hid hr
  clear hI hV hN hF hr
  go_enter Tryz.func96, Tryz.ntmps96
  cases nb with
  | false =>
    obtain rfl : r = 3 := by rw [← HR.out]; rfl
    go_wp2_with (go_at_call 155; refine (HN.out _).mono ?_; rintro e w' ⟨rfl, rfl⟩)
    go_ret
    exact ⟨rfl, HI.out⟩
  | true =>
    go_wp2_with fail
    refine (HN.out _).mono ?_
    rintro e w' ⟨rfl, rfl⟩
    go_wp2_with fail
    refine HF.out.mono ?_
    rintro e w2 ⟨rfl, hI2⟩
    have HI2 := Lib.hid (HI.out.thru hI2)
    have HV2 := Lib.hid (HV.out.below hI2.2)
    by_cases h0 : fe = 0
    · subst h0
      have hr2 : (if inAll [x0, x1, x2, x3, x4, x5, x6, x7] = true then 0 else 1) = r := by rw [← HR.out]; rfl
      have HR2 := Lib.hid hr2
      clear hr2 HR HV HN HF HI
      go_wp2_with fail
      refine (bounds_any _ _).mono ?_
      rintro e w3 ⟨rfl, hb3, hB3⟩
      have hc := contains_bound w.heap.size w2.heap.size [x0, x1, x2, x3, x4, x5, x6, x7] w3 (hI2.1.below hB3) hb3 (HV2.out.below hB3)
      have HI3 := Lib.hid (HI2.out.step hB3)
      cases hin : inAll [x0, x1, x2, x3, x4, x5, x6, x7] with
      | true =>
        rw [hin] at hc HR2
        have HC := Lib.hid hc
        clear hc hin hb3
        obtain rfl : r = 0 := by rw [← HR2.out]; rfl
        go_wp2_with fail
        refine HC.out.mono ?_
        rintro e w4 ⟨rfl, hI4⟩
        go_wp2
        go_ret
        exact ⟨rfl, HI3.out.thru hI4⟩
      | false =>
        rw [hin] at hc HR2
        have HC := Lib.hid hc
        clear hc hin hb3
        obtain rfl : r = 1 := by rw [← HR2.out]; rfl
        go_wp2_with fail
        refine HC.out.mono ?_
        rintro e w4 ⟨rfl, hI4⟩
        go_wp2
        go_ret
        exact ⟨rfl, HI3.out.thru hI4⟩
    · obtain rfl : r = fe := by rw [← HR.out]; simp [h0]
      have dn : ((r : Int) == 0) = false := beq_eq_false_iff_ne.2 (by intro e; apply h0; omega)
      clear h0 HR
      go_wp2
      go_ret
      exact ⟨rfl, HI2.out⟩

end Go.Proofs.YtbgchhgdlceceaaGreatDoor.Subj

namespace Go.Proofs.YtbgchhgdlceceaaGreatDoor.Subj
open Go.RowKit

/-- The cells of a plan in memory. -/
theorem ten {B : Nat} {w : World} {t : TypeId} {a0 a1 a2 a3 a4 a5 a6 a7 a8 a9 : Value} (h : w.heap[B]? = some (.cells #[a0, a1, a2, a3, a4, a5, a6, a7, a8, a9] t (0, 0))) :
    w.cell? ⟨B, 0, none⟩ = some a0 ∧ w.cell? ⟨B, 1, none⟩ = some a1 ∧ w.cell? ⟨B, 2, none⟩ = some a2 ∧ w.cell? ⟨B, 3, none⟩ = some a3 ∧ w.cell? ⟨B, 4, none⟩ = some a4 ∧ w.cell? ⟨B, 5, none⟩ = some a5 ∧
      w.cell? ⟨B, 6, none⟩ = some a6 ∧ w.cell? ⟨B, 7, none⟩ = some a7 ∧ w.cell? ⟨B, 8, none⟩ = some a8 ∧ w.cell? ⟨B, 9, none⟩ = some a9 ∧ ∀ j, w.frozen? ⟨B, j, none⟩ = false :=
  ⟨cell_of_row w B 0 _ _ (0, 0) h, cell_of_row w B 1 _ _ (0, 0) h, cell_of_row w B 2 _ _ (0, 0) h, cell_of_row w B 3 _ _ (0, 0) h, cell_of_row w B 4 _ _ (0, 0) h, cell_of_row w B 5 _ _ (0, 0) h,
    cell_of_row w B 6 _ _ (0, 0) h, cell_of_row w B 7 _ _ (0, 0) h, cell_of_row w B 8 _ _ (0, 0) h, cell_of_row w B 9 _ _ (0, 0) h, fun j => by simp [World.frozen?, h]⟩

end Go.Proofs.YtbgchhgdlceceaaGreatDoor.Subj

namespace Go.Proofs.YtbgchhgdlceceaaGreatDoor.Subj
open Go.RowKit

/-- Numbers that lie somewhere. -/
def NumsAt (g : Nat) (vs : List Int) (w : World) : Prop := ∀ k, k < 8 → w.cell? ⟨g, k, none⟩ = some (.int .i64 (vs.getD k 0))

theorem NumsAt.below {g : Nat} {vs : List Int} {w w' : World} (h : NumsAt g vs w) (hb : Below w.heap.size w w') : NumsAt g vs w' := fun k hk =>
  (hb.cell (World.block_lt_of_cell? w _ (h k hk))).trans (h k hk)

/-! ### The check -/
end Go.Proofs.YtbgchhgdlceceaaGreatDoor.Subj

namespace Go.Proofs.YtbgchhgdlceceaaGreatDoor.Subj
open Go.RowKit

def IntsAt (w : World) (g off : Nat) (zs : List Int) : Prop := ∀ k, k < zs.length → w.cell? ⟨g, off + k, none⟩ = some (.int .i64 (zs.getD k 0))
/-- A slice holds these numbers. -/
def Ints (w : World) (v : Value) (zs : List Int) : Prop :=
  ∃ (ao : Option Addr) (cap : Nat), v = .slice ao zs.length cap ∧ zs.length ≤ cap ∧ (zs ≠ [] → ∃ g off, ao = some ⟨g, off, none⟩ ∧ IntsAt w g off zs)

theorem IntsAt.below {w w' : World} {g off : Nat} {zs : List Int} (h : IntsAt w g off zs) (hb : Below w.heap.size w w') : IntsAt w' g off zs := fun k hk =>
  (hb.cell (World.block_lt_of_cell? w _ (h k hk))).trans (h k hk)
theorem Ints.below {w w' : World} {v : Value} {zs : List Int} (h : Ints w v zs) (hb : Below w.heap.size w w') : Ints w' v zs := by
  obtain ⟨ao, cap, e, hc, hat⟩ := h
  exact ⟨ao, cap, e, hc, fun hn => by obtain ⟨g, off, e2, h2⟩ := hat hn; exact ⟨g, off, e2, h2.below hb⟩⟩

end Go.Proofs.YtbgchhgdlceceaaGreatDoor.Subj

namespace Go.Proofs.YtbgchhgdlceceaaGreatDoor.Subj
open Go.RowKit

end Go.Proofs.YtbgchhgdlceceaaGreatDoor.Subj

namespace Go.Proofs.YtbgchhgdlceceaaGreatDoor.Subj
open Go.RowKit

def zeroT : Array Value := #[.string ⟨#[]⟩, .string ⟨#[]⟩, .int .i64 0, .int .i64 0, .int .i64 0, .int .i64 0, .slice none 0 0, .int .i64 0, .int .i64 0, .bool false]

def intsV (zs : List Int) : List Value := zs.map (Value.int .i64)

/-- The answer's block B, the words from off in block g, the plan in block T; R: the last block ahead of the rows that the plan holds. -/
structure TC (W : World) (B T R g off : Nat) (r : List Tok) (arr : Array Value) (vb : Value) (back : List Int) (w : World) : Prop where
  ml : ML W
  below : Below W.heap.size W w
  zero : w.heap[B]? = some (.cells zeroT 24 (0, 0))
  cells : w.heap[T]? = some (.cells arr 24 (0, 0))
  rest : StrsAt w g off r
  gsize : g < w.heap.size
  row : Heap.Row w 3 1 vb back.length (intsV back)
  newB : W.heap.size ≤ B
  newG : W.heap.size ≤ g
  gB : g ≠ B
  BT : B < T
  gT : g < T
  TR : T ≤ R
  nb : ∀ k, Heap.own vb k → R < k

namespace TC
variable {W : World} {B T R g off : Nat} {r : List Tok} {arr : Array Value} {vb : Value} {back : List Int} {w : World}

theorem inv (h : TC W B T R g off r arr vb back w) : Inv W w := ⟨h.ml.below h.below, h.below⟩

theorem ofTouch {w' : World} {F : Nat → Prop} (h : TC W B T R g off r arr vb back w) (ht : Heap.Touch F w w') (hF : ∀ k, F k → W.heap.size ≤ k ∧ k ≠ B ∧ k ≠ T ∧ k ≠ g ∧ ¬ Heap.own vb k) : TC W B T R g off r arr vb back w' where
  ml := h.ml
  below := h.below.trans (ht.below h.below.size fun k hk => (hF k hk).1)
  zero := (ht.block _ (Heap.heap_lt h.zero) fun hk => (hF _ hk).2.1 rfl).trans h.zero
  cells := (ht.block _ (Heap.heap_lt h.cells) fun hk => (hF _ hk).2.2.1 rfl).trans h.cells
  rest := fun i hi => (ht.cell (World.block_lt_of_cell? w _ (h.rest i hi)) fun hk => (hF _ hk).2.2.2.1 rfl).trans (h.rest i hi)
  gsize := Nat.lt_of_lt_of_le h.gsize ht.size
  row := h.row.kept (ht.same fun k hk hf => (hF k hf).2.2.2.2 hk)
  newB := h.newB
  newG := h.newG
  gB := h.gB
  BT := h.BT
  gT := h.gT
  TR := h.TR
  nb := h.nb

theorem next {w' : World} (h : TC W B T R g off r arr vb back w) (hb : Below w.heap.size w w') : TC W B T R g off r arr vb back w' :=
  h.ofTouch (F := fun _ => False) (Heap.Touch.ofBelow hb) (fun _ hk => hk.elim)

theorem tail {x : Tok} (h : TC W B T R g off (x :: r) arr vb back w) : TC W B T R g (off + 1) r arr vb back w :=
  { ml := h.ml, below := h.below, zero := h.zero, cells := h.cells, rest := h.rest.tail, gsize := h.gsize, row := h.row, newB := h.newB, newG := h.newG, gB := h.gB, BT := h.BT, gT := h.gT, TR := h.TR, nb := h.nb }

end TC
/-- Whether the rest tells what is wanted. -/
def Good (E : Option TakerP) (i : Nat) (r : List Tok) (t : TakerP) (ok : Bool) : Prop := (ok = true → E = seqT i r t) ∧ (ok = false → E = none)

theorem Good.no {E : Option TakerP} {i : Nat} {r : List Tok} {t : TakerP} {ok : Bool} (h : Good E i r t ok) (hi : i < 7) (hn : ∀ x r', r = x :: r' → (heads.getD i []).isPrefixOf x = false) : Good E (i + 1) r t ok := by
  refine ⟨fun e => ?_, h.2⟩
  rw [h.1 e]
  cases r with
  | nil => exact seqT_none hi t
  | cons x r => exact seqT_no hi x r t (hn x r rfl)

theorem Good.some {E : Option TakerP} {i : Nat} {x : Tok} {r : List Tok} {t t' : TakerP} {ok : Bool} (h : Good E i (x :: r) t ok) (hi : i < 7) (hx : (heads.getD i []).isPrefixOf x = true) (ho : optT i (x.drop (heads.getD i []).length) t = some t') : Good E (i + 1) r t' ok := by
  refine ⟨fun e => ?_, h.2⟩
  rw [h.1 e, seqT_yes hi x r t hx, ho]; rfl

theorem Good.none {E : Option TakerP} {i : Nat} {x : Tok} {r : List Tok} {t : TakerP} {ok : Bool} (h : Good E i (x :: r) t ok) (hi : i < 7) (hx : (heads.getD i []).isPrefixOf x = true) (ho : optT i (x.drop (heads.getD i []).length) t = none) (t' : TakerP) : Good E (i + 1) r t' false := by
  refine ⟨fun e => (by cases e), fun _ => ?_⟩
  cases hk : ok with
  | false => exact h.2 hk
  | true => rw [h.1 hk, seqT_yes hi x r t hx, ho]; rfl

end Go.Proofs.YtbgchhgdlceceaaGreatDoor.Subj

namespace Go.Proofs.YtbgchhgdlceceaaGreatDoor.Subj
open Go.RowKit

end Go.Proofs.YtbgchhgdlceceaaGreatDoor.Subj
