/- Parts of the proof, joined: Consumers' plans in plain Lean: what is wrong with one.; The bounds of a plan's numbers, walked.; plan.Check, walked: a plan's first error.; A plan's ten cells in memory; a prefix that is cut. -/
import Derived.Test.YthhgfdeegnimjaaGreatDoorConsumerPlaysUptoM2
import Derived.Test.YthhgfdeegnimjaaGreatDoorConsumerPlaysUptoM11
import Derived.Test.YthhgfdeegnimjaaGreatDoorConsumerPlaysUptoM15
import Derived.Test.YthhgfdeegnimjaaGreatDoorConsumerPlaysUptoM20
import Derived.Shelf.Abstract
import Derived.Handy
namespace Go.Proofs.YthhgfdeegnimjaaGreatDoor.Subj

/-- A number in its bounds. -/
def inB (n lo hi : Int) : Bool := decide (lo ≤ n) && decide (n ≤ hi)

def timesOk (ack wait : Int) (back : List Int) (most pend : Int) : Bool :=
  if ack == 0 then (wait == 0) && (((back.length : Nat) : Int) == 0) && (most == 0) && (pend == 0)
  else inB wait 1 100000 && inB most 0 20 && inB pend 0 50 && back.all fun z => inB z 1 100000

def startOk (src start : Int) : Bool := if src == 3 then inB start 1 999999999 else start == 0

def argsOk (src start ack wait : Int) (back : List Int) (most pend : Int) : Bool :=
  inB src 0 3 && startOk src start && inB ack 0 2 && timesOk ack wait back most pend

/-- What 'Check' answers. -/
def takerErr (name filt : List UInt8) (src start ack wait : Int) (back : List Int) (most pend : Int) : Nat :=
  if nameOk name = true then
    if err true filt = 0 then if 5 < back.length then 2 else if argsOk src start ack wait back most pend = true then 0 else 1
    else err true filt
  else 3

theorem any_not (p : Int → Bool) (l : List Int) : (!(l.any fun z => !p z)) = l.all p := by
  induction l with
  | nil => rfl
  | cons a l ih => rw [List.any_cons, List.all_cons, Bool.not_or, ih, Bool.not_not]

theorem all_takeI (p : Int → Bool) (l : List Int) (k : Nat) (hk : k < l.length) : (l.take (k + 1)).all p = ((l.take k).all p && p (l.getD k 0)) := by
  have e : l.getD k 0 = l[k] := by simp [List.getD, hk]
  rw [List.take_add_one, List.getElem?_eq_getElem hk, e]
  show (l.take k ++ [l[k]]).all p = _
  rw [List.all_append, List.all_cons, List.all_nil, Bool.and_true]

end Go.Proofs.YthhgfdeegnimjaaGreatDoor.Subj

namespace Go.Proofs.YthhgfdeegnimjaaGreatDoor.Subj
open Go.RowKit

def wordAt (k : Nat) : ByteArray := ⟨(words.getD k []).toArray⟩
def mostAt (k : Nat) : Int := mosts.getD k 0

def bndCells (P : Nat) : Array Value := #[
  .string (wordAt 0), .pointer (some ⟨P, 2, none⟩), .int .i64 (mostAt 0), .string (wordAt 1), .pointer (some ⟨P, 3, none⟩), .int .i64 (mostAt 1),
  .string (wordAt 2), .pointer (some ⟨P, 4, none⟩), .int .i64 (mostAt 2), .string (wordAt 3), .pointer (some ⟨P, 5, none⟩), .int .i64 (mostAt 3),
  .string (wordAt 4), .pointer (some ⟨P, 6, none⟩), .int .i64 (mostAt 4), .string (wordAt 5), .pointer (some ⟨P, 7, none⟩), .int .i64 (mostAt 5),
  .string (wordAt 6), .pointer (some ⟨P, 8, none⟩), .int .i64 (mostAt 6), .string (wordAt 7), .pointer (some ⟨P, 9, none⟩), .int .i64 (mostAt 7)]

/-- Block G holds the bounds of the plan in block P. -/
def BndAt (P G : Nat) (w : World) : Prop := ∀ k, k < 8 → w.cell? ⟨G, k * 3, none⟩ = some (.string (wordAt k)) ∧ w.cell? ⟨G, k * 3 + 1, none⟩ = some (.pointer (some ⟨P, 2 + k, none⟩)) ∧ w.cell? ⟨G, k * 3 + 2, none⟩ = some (.int .i64 (mostAt k))

theorem bndAt_made (P : Nat) (w : World) (t : TypeId) : BndAt P w.heap.size (w.alloc (.cells (bndCells P) t)) := by
  have h : ∀ j, (w.alloc (.cells (bndCells P) t)).cell? ⟨w.heap.size, j, none⟩ = (bndCells P)[j]? := fun j => World.cell?_alloc_at _ _ _ _ rfl
  intro k hk
  rw [h, h, h]
  rcases k with _ | _ | _ | _ | _ | _ | _ | _ | k
  all_goals first | exact ⟨rfl, rfl, rfl⟩ | omega

def BndPost (P : Nat) (w : World) (e : Ending) (w' : World) : Prop :=
  e = .returned (.slice (some ⟨w.heap.size, 0, none⟩) 8 8) ∧ BndAt P w.heap.size w' ∧ Below w.heap.size w w'

set_option maxHeartbeats 4000000 in
set_option maxRecDepth 100000 in
theorem bounds_any (P : Nat) (w : World) : Calls Tryz.prog 170 #[.pointer (some ⟨P, 0, none⟩)] w (BndPost P w) := by
  go_enter Tryz.func170, Tryz.ntmps170
  go_wp2
  go_region
  go_wp2
  go_ret
  exact ⟨rfl, bndAt_made P w _, ((Below.refl _ _).alloc (Nat.le_refl _) _).drew⟩

/-- The numbers of the plan in block P. -/
def ValsAt (P : Nat) (vs : List Int) (w : World) : Prop := ∀ k, k < 8 → w.cell? ⟨P, 2 + k, none⟩ = some (.int .i64 (vs.getD k 0))

theorem BndAt.below {P G : Nat} {w w' : World} (h : BndAt P G w) (hb : Below w.heap.size w w') : BndAt P G w' := fun k hk => by
  obtain ⟨h1, h2, h3⟩ := h k hk
  exact ⟨(hb.cell (World.block_lt_of_cell? w _ h1)).trans h1, (hb.cell (World.block_lt_of_cell? w _ h2)).trans h2, (hb.cell (World.block_lt_of_cell? w _ h3)).trans h3⟩

theorem ValsAt.below {P : Nat} {vs : List Int} {w w' : World} (h : ValsAt P vs w) (hb : Below w.heap.size w w') : ValsAt P vs w' := fun k hk =>
  (hb.cell (World.block_lt_of_cell? w _ (h k hk))).trans (h k hk)

def OutPost (b : Bool) (w : World) (e : Ending) (w' : World) : Prop := e = .returned (.bool b) ∧ Below w.heap.size w w'

set_option maxHeartbeats 4000000 in
set_option maxRecDepth 100000 in
theorem out_any (word : ByteArray) (P j : Nat) (m x : Int) (w : World) (h : w.cell? ⟨P, j, none⟩ = some (.int .i64 x)) :
    Calls Tryz.prog 171 #[.agg #[.string word, .pointer (some ⟨P, j, none⟩), .int .i64 m]] w (OutPost (decide (x < 0) || decide (m < x)) w) := by
  have hP := World.block_lt_of_cell? w _ h
  have hne : P ≠ w.heap.size := by show P ≠ w.heap.size; have : P < w.heap.size := hP; omega
  by_cases h1 : x < 0
  · have d1 : decide (x < 0) = true := by simp [h1]
    rw [d1, Bool.true_or]
    clear d1
    go_enter Tryz.func171, Tryz.ntmps171
    go_wp2
    go_region
    all_goals
      go_wp2
      go_ret
      exact ⟨rfl, ((Below.refl _ _).alloc (Nat.le_refl _) _).drew⟩
  · have d1 : decide (x < 0) = false := by simp [h1]
    rw [d1, Bool.false_or]
    go_enter Tryz.func171, Tryz.ntmps171
    go_wp2
    go_region
    all_goals
      go_wp2
      go_ret
      exact ⟨rfl, ((Below.refl _ _).alloc (Nat.le_refl _) _).drew⟩

end Go.Proofs.YthhgfdeegnimjaaGreatDoor.Subj

namespace Go.Proofs.YthhgfdeegnimjaaGreatDoor.Subj
open Go.RowKit

theorem fn_97 : ∀ args w, (callFunc 171 args).run Tryz.prog w = .ok (.enter 171 args) w := enters_of Tryz.func171 (by kernel_rfl) rfl

set_option maxHeartbeats 2000000 in
set_option maxRecDepth 100000 in
theorem index_bound (P G : Nat) (vs : List Int) (w : World) (hm : ML w) (hB : BndAt P G w) (hV : ValsAt P vs w) :
    Calls Tryz.prog 240 #[.slice (some ⟨G, 0, none⟩) 8 8, .func (.func 171) #[] #[]] w
      fun e w' => ∃ n : Int, e = .returned (.int .i64 n) ∧ (decide (0 ≤ n) = !inAll vs) ∧ Inv w w' := by
  have eg := fn_97
  have HC : ∀ k, k < 8 → ∀ wr, Inv w wr → wr.cell? ⟨G, k * 3, none⟩ = some (.string (wordAt k)) ∧ wr.cell? ⟨G, k * 3 + 1, none⟩ = some (.pointer (some ⟨P, 2 + k, none⟩)) ∧ wr.cell? ⟨G, k * 3 + 2, none⟩ = some (.int .i64 (mostAt k)) :=
    fun k hk wr hI => hB.below hI.2 k hk
  have HO : ∀ k, k < 8 → ∀ wr, Inv w wr → Calls Tryz.prog 171 #[.agg #[.string (wordAt k), .pointer (some ⟨P, 2 + k, none⟩), .int .i64 (mostAt k)]] wr (fun e w' => e = .returned (.bool (decide (vs.getD k 0 < 0) || decide (mostAt k < vs.getD k 0))) ∧ Inv w w') :=
    fun k hk wr hI => (out_any (wordAt k) P (2 + k) (mostAt k) (vs.getD k 0) wr (hV.below hI.2 k hk)).mono fun e w' h => ⟨h.1, hI.step h.2⟩
  have HI := Lib.hid (Inv.refl hm)
  have HC := Lib.hid HC
  have HO := Lib.hid HO
  clear hB hV hm
  rename_i hc ho
  clear hc ho
  go_enter Tryz.func240, Tryz.ntmps240
  go_wp2_with fail
  go_loopw [5, 8] (fun _ i wr => ∃ k : Nat, k ≤ 8 ∧ i = .int .i64 k ∧ Hid (Inv w wr) ∧ Hid (∀ j, j < k → 0 ≤ vs.getD j 0 ∧ vs.getD j 0 ≤ mosts.getD j 0)) (fun _ i _ => 8 - (intOf i).toNat)
  case atStart => exact ⟨0, Nat.zero_le _, rfl, HI, Lib.hid fun j hj => by omega⟩
  case round =>
    obtain ⟨k, hk, rfl, HW, A⟩ := hrel
    by_cases hlt : k < 8
    · have hltz : (k : Int) < 8 := by omega
      obtain ⟨c0, c1, c2⟩ := HC.out k hlt wr HW.out
      have hcall := HO.out k hlt wr HW.out
      cases hq : (decide (vs.getD k 0 < 0) || decide (mostAt k < vs.getD k 0)) with
      | true =>
        rw [hq] at hcall
        have hin : inAll vs = false := inAll_false hlt (by rw [Bool.or_eq_true, decide_eq_true_eq, decide_eq_true_eq] at hq; exact hq)
        have HIN := Lib.hid hin
        have HCALL := Lib.hid hcall
        clear hcall hin hq
        go_wp2_with (go_at_fn 171; refine HCALL.out.mono ?_; rintro e w' ⟨rfl, hb'⟩)
        go_ret
        exact ⟨_, rfl, by rw [HIN.out]; simp, hb'⟩
      | false =>
        rw [hq] at hcall
        have hstep : 0 ≤ vs.getD k 0 ∧ vs.getD k 0 ≤ mosts.getD k 0 := by
          rw [Bool.or_eq_false_iff, decide_eq_false_iff_not, decide_eq_false_iff_not] at hq
          have := hq.1; have h2 := hq.2
          unfold mostAt at h2
          omega
        have HST := Lib.hid hstep
        have HCALL := Lib.hid hcall
        clear hcall hstep hq
        go_wp2_with (go_at_fn 171; refine HCALL.out.mono ?_; rintro e w' ⟨rfl, hb'⟩)
        refine ⟨⟨k + 1, by omega, by go_num, Lib.hid hb', Lib.hid fun j hj => ?_⟩, by simp [intOf]; omega⟩
        by_cases e : j = k
        · subst e; exact HST.out
        · exact A.out j (by omega)
    · have hltz : ¬ (k : Int) < 8 := by omega
      obtain rfl : k = 8 := by omega
      have HIN := Lib.hid (inAll_true A.out)
      go_wp2
      go_ret
      exact ⟨_, rfl, by rw [HIN.out]; simp, HW.out⟩

set_option maxRecDepth 100000 in
theorem contains_bound (P G : Nat) (vs : List Int) (w : World) (hm : ML w) (hB : BndAt P G w) (hV : ValsAt P vs w) :
    Calls Tryz.prog 169 #[.slice (some ⟨G, 0, none⟩) 8 8, .func (.func 171) #[] #[]] w
      fun e w' => e = .returned (.bool (!inAll vs)) ∧ Inv w w' := by
  have H := Lib.hid (index_bound P G vs w hm hB hV)
  clear hB hV hm
  generalize inAll vs = b at *
  go_enter Tryz.func169, Tryz.ntmps169
  go_wp2_with fail
  refine H.out.mono ?_
  rintro e w' ⟨n, rfl, hn, hI⟩
  go_wp2
  go_ret
  first | exact ⟨rfl, hI⟩ | exact ⟨ret_bool hn, hI⟩

/-! ### The filters -/
theorem over_inv {w0 : World} (f g : Tok) (hf : f.length ≤ 1048576) (hg : g.length ≤ 1048576) (ef : err true f = 0) (eg : err true g = 0) (w : World) (h : Inv w0 w) :
    Calls Tryz.prog 201 #[.string ⟨f.toArray⟩, .string ⟨g.toArray⟩] w fun e w' => e = .returned (.tuple #[.bool (over f g), .int .i64 0]) ∧ Inv w0 w' :=
  (overlap_any ⟨f.toArray⟩ ⟨g.toArray⟩ w (by show f.toArray.size ≤ _; simpa using hf) (by show g.toArray.size ≤ _; simpa using hg) h.1).mono fun e w' ⟨a, c⟩ => by
    refine ⟨?_, h.step c⟩
    rw [a]
    show Ending.returned (beV (overlapR f g)) = _
    unfold overlapR pairErr
    rw [ef, eg]
    rfl

theorem filt_inv {w0 : World} (f : Tok) (hf : f.length ≤ 1048576) (w : World) (h : Inv w0 w) : Calls Tryz.prog 158 #[.string ⟨f.toArray⟩] w (IntRet w0 (err true f)) :=
  filterN_inv ⟨f.toArray⟩ (by show f.toArray.size ≤ _; simpa using hf) w h

def Small (fs : List Tok) : Prop := ∀ i, (fs.getD i []).length ≤ 1048576

set_option maxHeartbeats 4000000 in
set_option maxRecDepth 100000 in
theorem filters_any (fs : List Tok) (v : Value) (w : World) (hS : Strs w v fs) (hz : Small fs) (hm : ML w) :
    Calls Tryz.prog 168 #[v] w (IntRet w (filtersErr fs)) := by
  have hI := Inv.refl hm
  obtain ⟨ao, cap, rfl, hlc, hat⟩ := hS
  obtain ⟨r, hr⟩ : ∃ r, filtersErr fs = r := ⟨_, rfl⟩
  rw [hr]
  unfold filtersErr at hr
  obtain ⟨n, hn⟩ : ∃ n, fs.length = n := ⟨_, rfl⟩
  rw [hn] at hlc
  by_cases h4 : 4 < n
  · rw [hn] at hr ⊢
    rw [if_pos h4] at hr
    subst hr
    clear hat hlc hn hm
    go_enter Tryz.func168, Tryz.ntmps168
    go_wp2
    go_ret
    exact ⟨rfl, hI⟩
  rw [hn] at hr ⊢
  rw [if_neg h4] at hr
  by_cases h0 : n = 0
  · rw [if_pos h0] at hr
    subst hr
    have d : ((n : Int) == 0) = true := by simp [h0]
    clear hat hlc hn hm h0
    go_enter Tryz.func168, Tryz.ntmps168
    go_wp2
    go_ret
    exact ⟨rfl, hI⟩
  rw [if_neg h0] at hr
  have d : ((n : Int) == 0) = false := by simp [h0]
  obtain ⟨g, off, rfl, hst⟩ := hat (by intro e; rw [e] at hn; simp at hn; omega)
  have HC : ∀ i, i < n → ∀ wr, Inv w wr → wr.cell? ⟨g, off + i, none⟩ = some (.string ⟨(fs.getD i []).toArray⟩) := fun i hi wr h => hst.below h.2 i (by rw [hn]; exact hi)
  have HF : ∀ i, ∀ wr, Inv w wr → Calls Tryz.prog 158 #[.string ⟨(fs.getD i []).toArray⟩] wr (IntRet w (err true (fs.getD i []))) := fun i wr h => filt_inv _ (hz i) wr h
  have HO : ∀ i a, err true (fs.getD i []) = 0 → err true (fs.getD a []) = 0 → ∀ wr, Inv w wr → Calls Tryz.prog 201 #[.string ⟨(fs.getD i []).toArray⟩, .string ⟨(fs.getD a []).toArray⟩] wr (fun e w' => e = .returned (.tuple #[.bool (over (fs.getD i []) (fs.getD a [])), .int .i64 0]) ∧ Inv w w') :=
    fun i a h1 h2 wr h => over_inv _ _ (hz i) (hz a) h1 h2 wr h
  have HC := Lib.hid HC; have HF := Lib.hid HF; have HO := Lib.hid HO; have HI := Lib.hid hI; have HN := Lib.hid hn; have HR := Lib.hid hr
  clear hst hat hz hm hI hn hr
  rename_i q1 q2 q3
  clear q1 q2 q3
  go_enter Tryz.func168, Tryz.ntmps168
  go_wp2_with fail
  go_loopw [4, 5, 20] (fun _ _ i wr => ∃ k : Nat, k ≤ n ∧ i = .int .i64 k ∧ Hid (Inv w wr) ∧ Hid (∀ j, j < k → err true (fs.getD j []) = 0)) (fun _ _ i _ => n - (intOf i).toNat)
  case atStart => exact ⟨0, Nat.zero_le _, rfl, HI, Lib.hid fun j hj => by omega⟩
  case round =>
    obtain ⟨k, hk, rfl, HW, A⟩ := hrel
    by_cases hlt : k < n
    · have hltz : (k : Int) < n := by omega
      have c0 := HC.out k hlt wr HW.out
      have HCALL := Lib.hid (HF.out k wr HW.out)
      by_cases he : err true (fs.getD k []) = 0
      · have HE := Lib.hid he
        rw [he] at HCALL
        clear he
        go_wp2_with (go_at_call 158; refine HCALL.out.mono ?_; rintro e w' ⟨rfl, hb'⟩)
        refine ⟨⟨k + 1, by omega, by go_num, Lib.hid hb', Lib.hid fun j hj => ?_⟩, by simp [intOf]; omega⟩
        by_cases e : j = k
        · subst e; exact HE.out
        · exact A.out j (by omega)
      · have hrr : r = err true (fs.getD k []) := by
          have := firstErr_at (fs := fs) (k := k) (by rw [HN.out]; exact hlt) A.out he
          rw [← HR.out, this, if_pos he]
        have dn : (((err true (fs.getD k []) : Nat) : Int) == 0) = false := beq_eq_false_iff_ne.2 (by intro e; apply he; omega)
        rw [← hrr] at dn HCALL
        clear he hrr
        go_wp2_with (go_at_call 158; refine HCALL.out.mono ?_; rintro e w' ⟨rfl, hb'⟩)
        go_ret
        exact ⟨rfl, hb'⟩
    · have hltz : ¬ (k : Int) < n := by omega
      obtain rfl : k = n := by omega
      have hr2 : (if clash fs then 10 else 0) = r := by
        have := firstErr_zero.2 (by rw [HN.out]; exact A.out)
        rw [← HR.out, this]; simp
      have HR2 := Lib.hid hr2
      clear hr2 HR HI
      go_wp2_with fail
      go_loopw [6, 7, 9, 10, 11, 32] (fun _ _ _ _ _ i wr => ∃ b : Nat, b ≤ k ∧ i = .int .i64 b ∧ Hid (Inv w wr) ∧ Hid (∀ j a, j < b → a < j → over (fs.getD j []) (fs.getD a []) = false)) (fun _ _ _ _ _ i _ => k - (intOf i).toNat)
      case atStart => exact ⟨0, Nat.zero_le _, rfl, HW, Lib.hid fun j a hj => by omega⟩
      case round =>
        obtain ⟨b, hb, rfl, HV, B⟩ := hrel
        by_cases hbt : b < k
        · have hbz : (b : Int) < k := by omega
          have hbc : b ≤ cap := by omega
          have c1 := HC.out b hbt wr HV.out
          go_wp2_with fail
          go_loopw [9, 10, 11, 41] (fun _ _ _ i wr => ∃ a : Nat, a ≤ b ∧ i = .int .i64 a ∧ Hid (Inv w wr) ∧ Hid (∀ j, j < a → over (fs.getD b []) (fs.getD j []) = false)) (fun _ _ _ i _ => b - (intOf i).toNat)
          case atStart => exact ⟨0, Nat.zero_le _, rfl, HV, Lib.hid fun j hj => by omega⟩
          case round =>
            obtain ⟨a, ha, rfl, HU, D⟩ := hrel
            by_cases hab : a < b
            · have haz : (a : Int) < b := by omega
              have c2 := HC.out a (by omega) wr HU.out
              have HCALL := Lib.hid (HO.out b a (A.out b hbt) (A.out a (by omega)) wr HU.out)
              cases ho : over (fs.getD b []) (fs.getD a []) with
              | true =>
                rw [ho] at HCALL
                have h10 : r = 10 := by
                  have := clash_true (fs := fs) hab (by rw [HN.out]; exact hbt) ho
                  rw [← HR2.out, this]; rfl
                subst h10
                clear ho
                go_wp2_with (go_at_call 201; refine HCALL.out.mono ?_; rintro e w' ⟨rfl, hb'⟩)
                go_ret
                exact ⟨rfl, hb'⟩
              | false =>
                rw [ho] at HCALL
                have HO2 := Lib.hid ho
                clear ho
                go_wp2_with (go_at_call 201; refine HCALL.out.mono ?_; rintro e w' ⟨rfl, hb'⟩)
                refine ⟨⟨a + 1, by omega, by go_num, Lib.hid hb', Lib.hid fun j hj => ?_⟩, by simp [intOf]; omega⟩
                by_cases e : j = a
                · subst e; exact HO2.out
                · exact D.out j (by omega)
            · have haz : ¬ (a : Int) < b := by omega
              obtain rfl : a = b := by omega
              go_wp2
              refine ⟨⟨a + 1, by omega, by go_num, HU, Lib.hid fun j c hj hc => ?_⟩, by simp [intOf]; omega⟩
              by_cases e : j = a
              · subst e; exact D.out c hc
              · exact B.out j c (by omega) hc
        · have hbz : ¬ (b : Int) < k := by omega
          obtain rfl : b = k := by omega
          have h0 : r = 0 := by
            have := clash_false (fs := fs) (fun j a hj ha => B.out j a (by rw [HN.out] at hj; exact hj) ha)
            rw [← HR2.out, this]; rfl
          subst h0
          go_wp2
          go_ret
          exact ⟨rfl, HV.out⟩

/-! ### The check -/
theorem Inv.made {w : World} (hm : ML w) (o : Obj) : Inv w (w.alloc o) := ⟨hm.below ((Below.refl _ _).alloc (Nat.le_refl _) _), (Below.refl _ _).alloc (Nat.le_refl _) _⟩
theorem Inv.thru {w w1 w2 : World} (h : Inv w w1) (h2 : Inv w1 w2) : Inv w w2 := ⟨h2.1, h.2.trans (h2.2.mono h.2.size)⟩

def planCells (name : ByteArray) (v : Value) (x0 x1 x2 x3 x4 x5 x6 x7 : Int) : Array Value := #[.string name, v, .int .i64 x0, .int .i64 x1, .int .i64 x2, .int .i64 x3, .int .i64 x4, .int .i64 x5, .int .i64 x6, .int .i64 x7]

theorem vals_made (name : ByteArray) (v : Value) (x0 x1 x2 x3 x4 x5 x6 x7 : Int) (w : World) (t : TypeId) : ValsAt w.heap.size [x0, x1, x2, x3, x4, x5, x6, x7] (w.alloc (.cells (planCells name v x0 x1 x2 x3 x4 x5 x6 x7) t)) := by
  have h : ∀ j, (w.alloc (.cells (planCells name v x0 x1 x2 x3 x4 x5 x6 x7) t)).cell? ⟨w.heap.size, j, none⟩ = (planCells name v x0 x1 x2 x3 x4 x5 x6 x7)[j]? := fun j => World.cell?_alloc_at _ _ _ _ rfl
  intro k hk
  rw [h]
  rcases k with _ | _ | _ | _ | _ | _ | _ | _ | k
  all_goals first | rfl | omega

set_option maxHeartbeats 4000000 in
set_option maxRecDepth 100000 in
theorem check_any (name : ByteArray) (v : Value) (fs : List Tok) (x0 x1 x2 x3 x4 x5 x6 x7 : Int) (w : World) (hn : name.size ≤ maxLen) (hS : Strs w v fs) (hz : Small fs) (hm : ML w) :
    Calls Tryz.prog 77 #[.agg (planCells name v x0 x1 x2 x3 x4 x5 x6 x7)] w (IntRet w (planErr name.data.toList fs [x0, x1, x2, x3, x4, x5, x6, x7])) := by
  obtain ⟨r, hr⟩ : ∃ r, planErr name.data.toList fs [x0, x1, x2, x3, x4, x5, x6, x7] = r := ⟨_, rfl⟩
  rw [hr]
  unfold planErr at hr
  obtain ⟨ao, cap, rfl, _, _⟩ := id hS
  have hI := Inv.made (w := w) hm (.cells (planCells name (.slice ao fs.length cap) x0 x1 x2 x3 x4 x5 x6 x7) 62)
  have hS1 := hS.below hI.2
  have hV := vals_made name (.slice ao fs.length cap) x0 x1 x2 x3 x4 x5 x6 x7 w 62
  have hN := fun w => named_any name w hn
  have hF := filters_any fs _ _ hS1 hz hI.1
  clear hS hS1 hz hm hn
  unfold planCells at hI hV hF ⊢
  generalize fs.length = n at *
  generalize nameOk name.data.toList = nb at *
  generalize filtersErr fs = fe at *
  have HI := Lib.hid hI; have HV := Lib.hid hV; have HN := Lib.hid hN; have HF := Lib.hid hF; have HR := Lib.hid hr
  clear hI hV hN hF hr
  go_enter Tryz.func77, Tryz.ntmps77
  cases nb with
  | false =>
    obtain rfl : r = 3 := by rw [← HR.out]; rfl
    go_wp2_with (go_at_call 157; refine (HN.out _).mono ?_; rintro e w' ⟨rfl, rfl⟩)
    go_ret
    exact ⟨rfl, HI.out⟩
  | true =>
    go_wp2_with fail
    refine (HN.out _).mono ?_
    rintro e w' ⟨rfl, rfl⟩
    go_wp2_with fail
    refine HF.out.mono ?_
    rintro e w2 ⟨rfl, hI2⟩
    have HI2 := Lib.hid (HI.out.thru hI2)
    have HV2 := Lib.hid (HV.out.below hI2.2)
    by_cases h0 : fe = 0
    · subst h0
      have hr2 : (if inAll [x0, x1, x2, x3, x4, x5, x6, x7] = true then 0 else 1) = r := by rw [← HR.out]; rfl
      have HR2 := Lib.hid hr2
      clear hr2 HR HV HN HF HI
      go_wp2_with fail
      refine (bounds_any _ _).mono ?_
      rintro e w3 ⟨rfl, hb3, hB3⟩
      have hc := contains_bound w.heap.size w2.heap.size [x0, x1, x2, x3, x4, x5, x6, x7] w3 (hI2.1.below hB3) hb3 (HV2.out.below hB3)
      have HI3 := Lib.hid (HI2.out.step hB3)
      cases hin : inAll [x0, x1, x2, x3, x4, x5, x6, x7] with
      | true =>
        rw [hin] at hc HR2
        have HC := Lib.hid hc
        clear hc hin hb3
        obtain rfl : r = 0 := by rw [← HR2.out]; rfl
        go_wp2_with fail
        refine HC.out.mono ?_
        rintro e w4 ⟨rfl, hI4⟩
        go_wp2
        go_ret
        exact ⟨rfl, HI3.out.thru hI4⟩
      | false =>
        rw [hin] at hc HR2
        have HC := Lib.hid hc
        clear hc hin hb3
        obtain rfl : r = 1 := by rw [← HR2.out]; rfl
        go_wp2_with fail
        refine HC.out.mono ?_
        rintro e w4 ⟨rfl, hI4⟩
        go_wp2
        go_ret
        exact ⟨rfl, HI3.out.thru hI4⟩
    · obtain rfl : r = fe := by rw [← HR.out]; simp [h0]
      have dn : ((r : Int) == 0) = false := beq_eq_false_iff_ne.2 (by intro e; apply h0; omega)
      clear h0 HR
      go_wp2
      go_ret
      exact ⟨rfl, HI2.out⟩

end Go.Proofs.YthhgfdeegnimjaaGreatDoor.Subj

namespace Go.Proofs.YthhgfdeegnimjaaGreatDoor.Subj
open Go.RowKit

/-- The cells of a plan in memory. -/
theorem ten {B : Nat} {w : World} {t : TypeId} {a0 a1 a2 a3 a4 a5 a6 a7 a8 a9 : Value} (h : w.heap[B]? = some (.cells #[a0, a1, a2, a3, a4, a5, a6, a7, a8, a9] t (0, 0))) :
    w.cell? ⟨B, 0, none⟩ = some a0 ∧ w.cell? ⟨B, 1, none⟩ = some a1 ∧ w.cell? ⟨B, 2, none⟩ = some a2 ∧ w.cell? ⟨B, 3, none⟩ = some a3 ∧ w.cell? ⟨B, 4, none⟩ = some a4 ∧ w.cell? ⟨B, 5, none⟩ = some a5 ∧
      w.cell? ⟨B, 6, none⟩ = some a6 ∧ w.cell? ⟨B, 7, none⟩ = some a7 ∧ w.cell? ⟨B, 8, none⟩ = some a8 ∧ w.cell? ⟨B, 9, none⟩ = some a9 ∧ ∀ j, w.frozen? ⟨B, j, none⟩ = false :=
  ⟨cell_of_row w B 0 _ _ (0, 0) h, cell_of_row w B 1 _ _ (0, 0) h, cell_of_row w B 2 _ _ (0, 0) h, cell_of_row w B 3 _ _ (0, 0) h, cell_of_row w B 4 _ _ (0, 0) h, cell_of_row w B 5 _ _ (0, 0) h,
    cell_of_row w B 6 _ _ (0, 0) h, cell_of_row w B 7 _ _ (0, 0) h, cell_of_row w B 8 _ _ (0, 0) h, cell_of_row w B 9 _ _ (0, 0) h, fun j => by simp [World.frozen?, h]⟩

theorem setCell_block {w : World} {B : Nat} {cs : Array Value} {t : TypeId} (h : w.heap[B]? = some (.cells cs t (0, 0))) (j : Nat) (u : Value) :
    (w.setCell ⟨B, j, none⟩ u).heap[B]? = some (.cells (cs.setIfInBounds j u) t (0, 0)) := by
  rw [setCell_eq_setRow w B j cs t (0, 0) u h]
  exact setRow_heap w B cs _ t _ h

theorem set10 {w : World} {B : Nat} {t : TypeId} {a0 a1 a2 a3 a4 a5 a6 a7 a8 a9 : Value} (b0 b1 b2 b3 b4 b5 b6 b7 b8 b9 : Value) (h : w.heap[B]? = some (.cells #[a0, a1, a2, a3, a4, a5, a6, a7, a8, a9] t (0, 0))) :
    ((((((((((w.setCell ⟨B, 0, none⟩ b0).setCell ⟨B, 1, none⟩ b1).setCell ⟨B, 2, none⟩ b2).setCell ⟨B, 3, none⟩ b3).setCell ⟨B, 4, none⟩ b4).setCell ⟨B, 5, none⟩ b5).setCell ⟨B, 6, none⟩ b6).setCell ⟨B, 7, none⟩ b7).setCell ⟨B, 8, none⟩ b8).setCell ⟨B, 9, none⟩ b9).heap[B]? = some (.cells #[b0, b1, b2, b3, b4, b5, b6, b7, b8, b9] t (0, 0)) :=
  by
  have := setCell_block (setCell_block (setCell_block (setCell_block (setCell_block (setCell_block (setCell_block (setCell_block (setCell_block (setCell_block h 0 b0) 1 b1) 2 b2) 3 b3) 4 b4) 5 b5) 6 b6) 7 b7) 8 b8) 9 b9
  simpa only [List.setIfInBounds_toArray, List.set_cons_zero, List.set_cons_succ] using this

end Go.Proofs.YthhgfdeegnimjaaGreatDoor.Subj
