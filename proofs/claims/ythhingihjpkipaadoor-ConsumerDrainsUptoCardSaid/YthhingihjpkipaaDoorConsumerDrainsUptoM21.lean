/- Parts of the proof, joined: Get, of the store and of the reference's chest, walked.; A consumer in plain Lean: what it does of a list of messages. No program here.; Names and numbers of plans, walked: plan.Named, plan.Number, rillref.Named, rillref.Digits.; 'is' and 'known', walked; and the laws of filters that hold of the Lean functions.; 'is' and 'known', walked; and the laws of filters that hold of the Lean functions. -/
import Derived.Test.YthhingihjpkipaaDoorConsumerDrainsUptoM20
namespace Go.Proofs.YthhingihjpkipaaDoor.Sto
open Go.RowKit Heap
open Subj (Tok ML pieces takes)
open Rec (Rc recErr far)
open Idx (Ents ptrV)

/-- The message of a number. -/
def getQ (L : List Rc) (q : Int) : Option Rc := L.find? fun r => r.seq == q

/-- What is told of a number. -/
def GetPost (w : World) (o : Option Rc) (e : Ending) (w' : World) : Prop := e = .returned (.tuple #[recV (seekR 0 o).1, .int .i64 ((seekR 0 o).2 : Nat)]) ∧ Below w.heap.size w w'

theorem getQ_none {L : List Rc} {q : Int} (h : ∀ r ∈ L, r.seq ≠ q) : getQ L q = none := by
  unfold getQ
  rw [List.find?_eq_none]
  intro r hr
  have := h r hr
  simpa using this

theorem getQ_at {L : List Rc} {q : Int} {i : Nat} {p : Rc} (h : ∀ r ∈ L.take i, r.seq ≠ q) (hp : L[i]? = some p) (hq : p.seq = q) : getQ L q = some p := by
  unfold getQ
  exact find_nth (k := i) (fun x hx => by have := h x hx; simpa using this) hp (by simpa using hq)

theorem Found.get {L : List Rc} {i : Nat} {fd : Bool} {q : Int} (h : Found L q i fd) (hr : L.Pairwise fun a b => a.seq < b.seq) (hs : ∀ r ∈ L, 0 ≤ r.seq ∧ r.seq ≤ far) (hq : -9223372036854775808 ≤ q ∧ q ≤ 9223372036854775807) :
    (fd = false → getQ L q = none) ∧ (fd = true → ∃ p, L[i]? = some p ∧ getQ L q = some p) := by
  by_cases hin : 0 ≤ q
  · obtain ⟨h1, h2, h3, h4⟩ := h.in hr hs ⟨by omega, hq.2⟩
    refine ⟨fun hf => getQ_none fun r hm e => ?_, fun hf => ?_⟩
    · rw [hf] at h3
      have : hasSeq L q = true := by unfold hasSeq; rw [List.any_eq_true]; exact ⟨r, hm, by simpa using e⟩
      rw [this] at h3; cases h3
    · obtain ⟨p, hp, hpq⟩ := h4 hf
      exact ⟨p, hp, getQ_at (fun r hr => by have := h1 r hr; omega) hp hpq⟩
  · have hno : ∀ r ∈ L, r.seq ≠ q := fun r hm e => by have := hs r hm; omega
    refine ⟨fun _ => getQ_none hno, fun hf => ?_⟩
    obtain ⟨r, h1, h2⟩ := h.yes hf
    have hm := List.mem_of_getElem? h1
    exact absurd (cmpR_zero (hs r hm) hq h2) (hno r hm)

section
variable {W w : World} {F : Nat → Prop} {D B C : Nat} {L : List Rc} {last : Int} {v : Value} {I : Ents}

set_option maxHeartbeats 4000000 in
set_option maxRecDepth 100000 in
theorem get_any (hA : StoreAt W F D B L last w) (q : Int) (hq : -9223372036854775808 ≤ q ∧ q ≤ 9223372036854775807) :
    Calls Tryd.prog 47 #[.pointer (some ⟨D, 0, none⟩), .int .i64 q] w (GetPost w (getQ L q)) := by
  obtain ⟨w1, hw1⟩ : ∃ w1, w1 = w.alloc (.cells #[.int .i64 0, .int .i64 0, .int .i64 0, .string ⟨#[]⟩, .string ⟨#[]⟩, .string ⟨#[]⟩] 29) := ⟨_, rfl⟩
  have hb1 : Below w.heap.size w w1 := by rw [hw1]; exact (Below.refl _ _).alloc (Nat.le_refl _) _
  have hea : w1.heap[w.heap.size]? = some (.cells #[.int .i64 0, .int .i64 0, .int .i64 0, .string ⟨#[]⟩, .string ⟨#[]⟩, .string ⟨#[]⟩] 29 (0, 0)) := by rw [hw1]; exact heap_alloc_new w _
  obtain ⟨rb, hrb⟩ : ∃ rb, w.heap.size = rb := ⟨_, rfl⟩
  rw [hrb] at hea
  have hA1 := hA.next hb1
  obtain ⟨M, x, N, I, v', hS, hR, _, _⟩ := hA1.ex
  have hpl := place_rec hS (by have := hR.few; omega) q
  obtain ⟨o, ho⟩ : ∃ o, getQ L q = o := ⟨_, rfl⟩
  have HA1 := Lib.hid hA1; have HPL := Lib.hid hpl; have HB1 := Lib.hid hb1; have HEA := Lib.hid hea; have HRB := Lib.hid hrb; have HR := Lib.hid hR; have HO := Lib.hid ho
  rw [ho]
  unfold GetPost
  have hrbl := heap_lt hea
  clear hA hb1 hea hrb hA1 hS hR hpl ho
  go_enter Tryd.func47, Tryd.ntmps47
  go_upto_region 1 with fail
  rw [← hw1, HRB.out]
  clear hw1
  go_wp2_with fail
  refine HPL.out.mono ?_
  rintro e w2 ⟨i, fd, rfl, hfo, hb2⟩
  obtain ⟨hno, hyes⟩ := hfo.get HR.out.rise HR.out.seqs hq
  rw [HO.out] at hno hyes
  have HNO := Lib.hid hno; have HYES := Lib.hid hyes
  have HA2 := Lib.hid (HA1.out.next hb2)
  have hea2 := (hb2.block rb hrbl).trans HEA.out
  have HB2 := Lib.hid (HB1.out.trans (hb2.mono HB1.out.size))
  obtain ⟨q0, q1, q2, q3, q4, q5⟩ := sixC hea2
  have zf : ∀ j, w2.frozen? ⟨rb, j, none⟩ = false := fun j => frozen_of_row w2 rb j _ _ hea2
  have hrbl2 := heap_lt hea2
  have HEA2 := Lib.hid hea2
  clear hb2 hfo hno hyes hea2 HPL hrbl
  cases fd with
  | false =>
    obtain rfl : o = none := HNO.out rfl
    have HF2 := Lib.hid (below6 HB2.out (Nat.le_of_eq HRB.out) (.int .i64 0) (.int .i64 0) (.int .i64 0) (.string ⟨#[]⟩) (.string ⟨#[]⟩) (.string ⟨#[]⟩))
    have HR6 := Lib.hid (set6 (.int .i64 0) (.int .i64 0) (.int .i64 0) (.string ⟨#[]⟩) (.string ⟨#[]⟩) (.string ⟨#[]⟩) HEA2.out)
    go_wp2_with fail
    refine bodyPost_ret (v := .tuple #[.agg #[.int .i64 0, .int .i64 0, .int .i64 0, .string ⟨#[]⟩, .string ⟨#[]⟩, .string ⟨#[]⟩], .int .i64 4]) (res_rec2 4 5 Tryd.results47 _ _ rb rfl rfl HR6.out) rfl ?_
    exact ⟨rfl, HF2.out⟩
  | true =>
    obtain ⟨p, hp, ho⟩ := HYES.out rfl
    subst ho
    obtain ⟨vv, c0, hlt, hrec, hfew, hz, hrow⟩ := HA2.out.list
    obtain ⟨n, hnL⟩ : ∃ n, L.length = n := ⟨_, rfl⟩
    rw [hnL] at hfew hrow
    have hin : i < n := by rw [← hnL]; exact (List.getElem?_eq_some_iff.1 hp).1
    have hiz : (i : Int) < n := by omega
    rcases hrow.2 with ⟨_, h0⟩ | ⟨g, off, cap, cur, rfl, hgg, _⟩
    · omega
    obtain ⟨m0, m1, m2, m3, m4, m5⟩ := cells_rec hrow i p hp hin
    obtain ⟨s, h, d, hpp⟩ := parts p
    rw [hpp.s1] at m3
    rw [hpp.h1] at m4
    rw [hpp.d1] at m5
    have hrv : recV p = .agg #[.int .i64 p.kind, .int .i64 p.seq, .int .i64 p.time, .string s, .string h, .string d] := by unfold recV; rw [hpp.s1, hpp.h1, hpp.d1]
    have HRV := Lib.hid hrv
    have HF2 := Lib.hid (below6 HB2.out (Nat.le_of_eq HRB.out) (.int .i64 p.kind) (.int .i64 p.seq) (.int .i64 p.time) (.string s) (.string h) (.string d))
    have HR6 := Lib.hid (set6 (.int .i64 p.kind) (.int .i64 p.seq) (.int .i64 p.time) (.string s) (.string h) (.string d) HEA2.out)
    clear hp hz hrec hrow hgg hpp hrv hnL HNO HYES
    go_wp2_with fail
    refine bodyPost_ret (v := .tuple #[.agg #[.int .i64 p.kind, .int .i64 p.seq, .int .i64 p.time, .string s, .string h, .string d], .int .i64 0]) (res_rec2 4 5 Tryd.results47 _ _ rb rfl rfl HR6.out) rfl ?_
    exact ⟨by rw [show seekR 0 (some p) = (p, 0) from rfl, HRV.out]; rfl, HF2.out⟩

set_option maxHeartbeats 4000000 in
set_option maxRecDepth 100000 in
theorem get_ch (h : ChAt W C v L last w) (hR : Right L last I) (q : Int) :
    Calls Tryd.prog 48 #[.pointer (some ⟨C, 0, none⟩), .int .i64 q] w (GetPost w (getQ L q)) := by
  obtain ⟨n, hn⟩ : ∃ n, L.length = n := ⟨_, rfl⟩
  have hn200 : n ≤ 200 := by rw [← hn]; exact hR.few
  obtain ⟨va, vc, hv⟩ := h.row.slice
  rw [hn] at hv
  subst hv
  obtain ⟨w1, hw1⟩ : ∃ w1, w1 = w.alloc (.cells #[.int .i64 0, .int .i64 0, .int .i64 0, .string ⟨#[]⟩, .string ⟨#[]⟩, .string ⟨#[]⟩] 29) := ⟨_, rfl⟩
  have hb1 : Below w.heap.size w w1 := by rw [hw1]; exact (Below.refl _ _).alloc (Nat.le_refl _) _
  have hea : w1.heap[w.heap.size]? = some (.cells #[.int .i64 0, .int .i64 0, .int .i64 0, .string ⟨#[]⟩, .string ⟨#[]⟩, .string ⟨#[]⟩] 29 (0, 0)) := by rw [hw1]; exact heap_alloc_new w _
  obtain ⟨rb, hrb⟩ : ∃ rb, w.heap.size = rb := ⟨_, rfl⟩
  rw [hrb] at hea
  have h1 := h.next hb1
  obtain ⟨c0, c1, cf⟩ := twoC h1.cell
  have hlt := heap_lt h1.cell
  obtain ⟨q0, q1, q2, q3, q4, q5⟩ := sixC hea
  have zf : ∀ j, w1.frozen? ⟨rb, j, none⟩ = false := fun j => frozen_of_row w1 rb j _ _ hea
  have hrbl := heap_lt hea
  obtain ⟨o, ho⟩ : ∃ o, getQ L q = o := ⟨_, rfl⟩
  have HC := Lib.hid h1; have HB1 := Lib.hid hb1; have HEA := Lib.hid hea; have HRB := Lib.hid hrb; have HO := Lib.hid ho; have HN := Lib.hid hn; have HR := Lib.hid hR
  rw [ho]
  unfold GetPost
  clear h hb1 hea hrb h1 ho hn hR
  go_enter Tryd.func48, Tryd.ntmps48
  go_upto_region 1 with fail
  rw [← hw1, HRB.out]
  clear hw1
  go_wp2_with fail
  go_loopw [6] (fun i wr => ∃ k : Nat, k ≤ n ∧ i = .int .i64 k ∧ wr = w1 ∧ Hid (∀ r ∈ L.take k, r.seq ≠ q)) (fun i _ => n - (intOf i).toNat)
  case atStart => exact ⟨0, Nat.zero_le _, rfl, rfl, Lib.hid fun r hr => by simp at hr⟩
  case round =>
    obtain ⟨k, hk, rfl, rfl, HNO⟩ := hrel
    by_cases hlt2 : k < n
    · have hltz : (k : Int) < n := by omega
      obtain ⟨p, hp⟩ : ∃ p, L[k]? = some p := ⟨_, List.getElem?_eq_getElem (by rw [HN.out]; exact hlt2)⟩
      have hrow := HC.out.row
      rw [HN.out] at hrow
      rcases hrow.2 with ⟨_, h0⟩ | ⟨g, off, cap, cur, ev, hgg, _⟩
      · omega
      simp only [Value.slice.injEq, true_and] at ev
      obtain ⟨rfl, rfl⟩ := ev
      obtain ⟨m0, m1, m2, m3, m4, m5⟩ := cells_rec hrow k p hp hlt2
      obtain ⟨s, h, d, hpp⟩ := parts p
      rw [hpp.s1] at m3
      rw [hpp.h1] at m4
      rw [hpp.d1] at m5
      by_cases hpq : p.seq = q
      · have hog := getQ_at HNO.out hp hpq
        rw [HO.out] at hog
        subst hog
        have hrv : recV p = .agg #[.int .i64 p.kind, .int .i64 p.seq, .int .i64 p.time, .string s, .string h, .string d] := by unfold recV; rw [hpp.s1, hpp.h1, hpp.d1]
        have HRV := Lib.hid hrv
        subst hpq
        have HF2 := Lib.hid (below6 HB1.out (Nat.le_of_eq HRB.out) (.int .i64 p.kind) (.int .i64 p.seq) (.int .i64 p.time) (.string s) (.string h) (.string d))
        have HR6 := Lib.hid (set6 (.int .i64 p.kind) (.int .i64 p.seq) (.int .i64 p.time) (.string s) (.string h) (.string d) HEA.out)
        clear hp hrow hgg hpp hrv
        go_wp2_with fail
        refine bodyPost_ret (v := .tuple #[.agg #[.int .i64 p.kind, .int .i64 p.seq, .int .i64 p.time, .string s, .string h, .string d], .int .i64 0]) (res_rec2 4 5 Tryd.results48 _ _ rb rfl rfl HR6.out) rfl ?_
        exact ⟨by rw [show seekR 0 (some p) = (p, 0) from rfl, HRV.out]; rfl, HF2.out⟩
      · have HNO2 := Lib.hid (show ∀ r ∈ L.take (k + 1), r.seq ≠ q from fun r hr => by
          rw [take_snoc hp, List.mem_append] at hr
          rcases hr with hr | hr
          · exact HNO.out r hr
          · rw [List.mem_singleton] at hr; rw [hr]; exact hpq)
        clear hp hrow hgg hpp
        go_wp2_with fail
        exact ⟨⟨k + 1, by omega, by go_num, trivial, HNO2⟩, by simp [intOf]; omega⟩
    · have hltz : ¬ (k : Int) < n := by omega
      obtain rfl : k = n := by omega
      have hog := getQ_none (q := q) (L := L) (by have := HNO.out; rwa [List.take_of_length_le (by rw [HN.out]; exact Nat.le_refl _)] at this)
      rw [HO.out] at hog
      subst hog
      have HF2 := Lib.hid (below6 HB1.out (Nat.le_of_eq HRB.out) (.int .i64 0) (.int .i64 0) (.int .i64 0) (.string ⟨#[]⟩) (.string ⟨#[]⟩) (.string ⟨#[]⟩))
      have HR6 := Lib.hid (set6 (.int .i64 0) (.int .i64 0) (.int .i64 0) (.string ⟨#[]⟩) (.string ⟨#[]⟩) (.string ⟨#[]⟩) HEA.out)
      go_wp2_with fail
      refine bodyPost_ret (v := .tuple #[.agg #[.int .i64 0, .int .i64 0, .int .i64 0, .string ⟨#[]⟩, .string ⟨#[]⟩, .string ⟨#[]⟩], .int .i64 4]) (res_rec2 4 5 Tryd.results48 _ _ rb rfl rfl HR6.out) rfl ?_
      exact ⟨rfl, HF2.out⟩
end
end Go.Proofs.YthhingihjpkipaaDoor.Sto

namespace Go.Proofs.YthhingihjpkipaaDoor.Con
open Subj (Tok pieces takes TakerP errT errT_facts argsOk_facts)
open Sto (Right getQ tk recV)
open Rec (Rc far)

/-- A pending delivery. -/
structure Pd where
  seq : Int
  nth : Int
  due : Int

/-- What a consumer has beside its plan. -/
structure Cn where
  place : Int
  count : Int
  l : List Pd

/-- A delivery. -/
structure Dl where
  seq : Int
  subj : List UInt8
  data : List UInt8
  count : Int
  nth : Int
  left : Int

def Dl.zero : Dl := ⟨0, [], [], 0, 0, 0⟩

def backI (t : TakerP) (nth : Int) : Nat := (min (max nth 1) (t.back.length : Int)).toNat - 1
def waitT (t : TakerP) (nth : Int) : Int := if t.back.length = 0 then t.wait else t.back.getD (backI t nth) 0

/-- One that is still to come. -/
def want (t : TakerP) (place : Int) (r : Rc) : Bool := decide (place ≤ r.seq) && tk t.filt r
def leftC (t : TakerP) (L : List Rc) (place : Int) : Nat := L.countP (want t place)

def againP (t : TakerP) (L : List Rc) (now : Int) : List Pd → List Pd × Option (Pd × Rc)
  | [] => ([], none)
  | p :: r =>
    if now < p.due then (p :: (againP t L now r).1, (againP t L now r).2)
    else match getQ L p.seq with
      | none => againP t L now r
      | some x => if 0 < t.most ∧ t.most ≤ p.nth then againP t L now r
        else (⟨p.seq, p.nth + 1, now + waitT t (p.nth + 1)⟩ :: r, some (⟨p.seq, p.nth + 1, now + waitT t (p.nth + 1)⟩, x))

def tellP (t : TakerP) (L : List Rc) (c : Cn) (x : Rc) (nth : Int) : Cn × Dl :=
  (⟨c.place, c.count + 1, c.l⟩, ⟨x.seq, x.subj, x.data, c.count + 1, nth, leftC t L c.place⟩)

/-- Next, where nothing is delivered again. -/
def freshP (t : TakerP) (L : List Rc) (now : Int) (c : Cn) : Cn × Dl × Nat :=
  if 0 < t.pend ∧ t.pend ≤ c.l.length then (c, Dl.zero, 11)
  else match L.find? (want t c.place) with
    | none => (c, Dl.zero, 4)
    | some x =>
      let y := tellP t L ⟨x.seq + 1, c.count, if t.ack = 0 then c.l else c.l ++ [⟨x.seq, 1, now + waitT t 1⟩]⟩ x 1
      (y.1, y.2, 0)

/-- Next: what is left, what is told, the error. -/
def nextP (t : TakerP) (L : List Rc) (now : Int) (c : Cn) : Cn × Dl × Nat :=
  if now < 0 ∨ far < now then (c, Dl.zero, 1)
  else match againP t L now c.l with
    | (l, some (p, x)) =>
      let y := tellP t L ⟨c.place, c.count, l⟩ x p.nth
      (y.1, y.2, 0)
    | (l, none) => freshP t L now ⟨c.place, c.count, l⟩

def idxP (l : List Pd) (q : Int) : Option Nat := l.findIdx? fun p => p.seq == q

def mostN (sort : Int) : Int := if sort = 2 then 100000 else 0

def answerP (t : TakerP) (now seq sort n : Int) (c : Cn) : Cn × Nat :=
  if now < 0 ∨ far < now ∨ sort < 1 ∨ 4 < sort ∨ n < 0 ∨ mostN sort < n then (c, 1)
  else match idxP c.l seq with
    | none => (c, 4)
    | some i =>
      match c.l[i]? with
      | none => (c, 4)
      | some p =>
        if sort = 2 then (⟨c.place, c.count, c.l.set i ⟨p.seq, p.nth, now + n⟩⟩, 0)
        else if sort = 3 then (⟨c.place, c.count, c.l.set i ⟨p.seq, p.nth, now + waitT t p.nth⟩⟩, 0)
        else if sort = 1 ∧ t.ack = 1 then (⟨c.place, c.count, c.l.drop (i + 1)⟩, 0)
        else (⟨c.place, c.count, c.l.eraseIdx i⟩, 0)

def startP (t : TakerP) (L : List Rc) (last : Int) : Int :=
  if t.src = 1 then match L.reverse.find? (tk t.filt) with
    | none => last + 1
    | some x => x.seq
  else if t.src = 2 then last + 1
  else if t.src = 3 then t.start
  else 1

def newP (t : TakerP) (L : List Rc) (last : Int) : Cn := ⟨startP t L last, 0, []⟩

def doneP (c : Cn) (seq : Int) : Bool := decide (seq < c.place) && (idxP c.l seq).isNone
def dueP (c : Cn) : Int := c.l.foldl (fun o p => if o < 0 ∨ p.due < o then p.due else o) (-1)
def floorP (c : Cn) : Int := match c.l with
  | [] => c.place - 1
  | p :: _ => p.seq - 1

/-- What is right of a consumer. -/
structure Ok (k : Nat) (c : Cn) : Prop where
  rise : c.l.Pairwise fun a b => a.seq < b.seq
  in_ : ∀ p ∈ c.l, (1 ≤ p.seq ∧ p.seq < c.place) ∧ (1 ≤ p.nth ∧ p.nth ≤ k) ∧ (0 ≤ p.due ∧ p.due ≤ far + 200000)
  place : 1 ≤ c.place ∧ c.place ≤ far + 1
  count : 0 ≤ c.count ∧ c.count ≤ k
  len : (c.l.length : Int) ≤ c.count

theorem wait_range {t : TakerP} (h : errT t = 0) (n : Int) : 0 ≤ waitT t n ∧ waitT t n ≤ 100000 := by
  obtain ⟨_, _, _, h4⟩ := errT_facts h
  obtain ⟨_, _, _, _, h5, _, _, _, _, h6⟩ := argsOk_facts h4
  unfold waitT
  split
  · exact h5
  · rename_i h0
    have := h6 (backI t n) (by unfold backI; omega)
    omega

theorem find_eq {α : Type} (f : α → Bool) : ∀ {l : List α} {i : Nat}, l.findIdx? f = some i → ∃ p, l[i]? = some p ∧ f p = true ∧ ∀ j q, j < i → l[j]? = some q → f q = false
  | [], i, h => by simp at h
  | a :: l, i, h => by
    rw [List.findIdx?_cons] at h
    split at h
    · rename_i ha
      simp at h; subst h
      exact ⟨a, rfl, ha, fun j q hj => by omega⟩
    · rename_i ha
      cases hf : l.findIdx? f with
      | none => rw [hf] at h; simp at h
      | some k =>
        rw [hf] at h; simp at h; subst h
        obtain ⟨p, h1, h2, h3⟩ := find_eq f hf
        refine ⟨p, by simpa using h1, h2, fun j q hj hq => ?_⟩
        cases j with
        | zero => simp at hq; subst hq; simpa using ha
        | succ j => exact h3 j q (by omega) (by simpa using hq)

theorem find_at {α : Type} (f : α → Bool) {l : List α} {i : Nat} {p : α} (hp : l[i]? = some p) (hf : f p = true) (hb : ∀ x ∈ l.take i, f x = false) : l.findIdx? f = some i := by
  induction l generalizing i with
  | nil => simp at hp
  | cons a l ih =>
    rw [List.findIdx?_cons]
    cases i with
    | zero => simp at hp; subst hp; rw [if_pos hf]
    | succ i =>
      rw [if_neg (by rw [hb a (by simp)]; simp), ih (by simpa using hp) fun x hx => hb x (by simp [hx])]
      rfl

theorem find_no {α : Type} (f : α → Bool) {l : List α} (h : ∀ x ∈ l, f x = false) : l.findIdx? f = none := by
  rw [List.findIdx?_eq_none_iff]; exact h

theorem again_len (t : TakerP) (L : List Rc) (now : Int) : ∀ l : List Pd, (againP t L now l).1.length ≤ l.length
  | [] => Nat.le_refl _
  | p :: r => by
    have ih := again_len t L now r
    unfold againP
    split
    · simp; exact ih
    · split
      · simp; omega
      · split
        · simp; omega
        · simp

/-- What comes of the list: parts of it, and one that is turned. -/
theorem again_mem (t : TakerP) (L : List Rc) (now : Int) : ∀ l : List Pd, ∀ p ∈ (againP t L now l).1, p ∈ l ∨ ∃ q ∈ l, p = ⟨q.seq, q.nth + 1, now + waitT t (q.nth + 1)⟩
  | [], p, h => by simp [againP] at h
  | a :: r, p, h => by
    have ih := again_mem t L now r
    unfold againP at h
    split at h
    · rcases List.mem_cons.1 h with rfl | h
      · exact .inl (by simp)
      · rcases ih p h with h | ⟨q, hq, e⟩
        · exact .inl (by simp [h])
        · exact .inr ⟨q, by simp [hq], e⟩
    · have hrec : p ∈ (againP t L now r).1 → p ∈ a :: r ∨ ∃ q ∈ a :: r, p = ⟨q.seq, q.nth + 1, now + waitT t (q.nth + 1)⟩ := fun h => by
        rcases ih p h with h | ⟨q, hq, e⟩
        · exact .inl (by simp [h])
        · exact .inr ⟨q, by simp [hq], e⟩
      split at h
      · exact hrec h
      · split at h
        · exact hrec h
        · rcases List.mem_cons.1 h with rfl | h
          · exact .inr ⟨a, by simp, rfl⟩
          · exact .inl (by simp [h])

theorem again_seqs (t : TakerP) (L : List Rc) (now : Int) : ∀ l : List Pd, ((againP t L now l).1.map (·.seq)).Sublist (l.map (·.seq))
  | [] => List.Sublist.refl _
  | a :: r => by
    have ih := again_seqs t L now r
    unfold againP
    split
    · simpa using ih.cons_cons a.seq
    · split
      · exact ih.cons a.seq
      · split
        · exact ih.cons a.seq
        · simp

/-- What is told again: it is in the list, turned; the message is there. -/
theorem again_some {t : TakerP} {L : List Rc} {now : Int} : ∀ {l : List Pd} {l2 : List Pd} {p : Pd} {x : Rc}, againP t L now l = (l2, some (p, x)) →
    p ∈ l2 ∧ getQ L p.seq = some x ∧ ∃ q ∈ l, p = ⟨q.seq, q.nth + 1, now + waitT t (q.nth + 1)⟩ ∧ q.due ≤ now ∧ (0 < t.most → q.nth < t.most)
  | [], l2, p, x, h => by simp [againP] at h
  | a :: r, l2, p, x, h => by
    unfold againP at h
    split at h
    · simp only [Prod.mk.injEq] at h
      obtain ⟨h1, h2⟩ := h
      obtain ⟨i1, i2, q, i3, i4⟩ := again_some (l := r) (l2 := (againP t L now r).1) (p := p) (x := x) (Prod.ext rfl h2)
      exact ⟨by rw [← h1]; simp [i1], i2, q, by simp [i3], i4⟩
    · rename_i hd
      have hrec : againP t L now r = (l2, some (p, x)) → p ∈ l2 ∧ getQ L p.seq = some x ∧ ∃ q ∈ a :: r, p = ⟨q.seq, q.nth + 1, now + waitT t (q.nth + 1)⟩ ∧ q.due ≤ now ∧ (0 < t.most → q.nth < t.most) := fun h => by
        obtain ⟨i1, i2, q, i3, i4⟩ := again_some h
        exact ⟨i1, i2, q, by simp [i3], i4⟩
      split at h
      · exact hrec h
      · rename_i y hy
        split at h
        · exact hrec h
        · rename_i hm
          simp only [Prod.mk.injEq, Option.some.injEq] at h
          obtain ⟨rfl, rfl, rfl⟩ := h
          exact ⟨by simp, hy, a, by simp, rfl, by omega, fun h0 => by
            rcases Int.lt_or_le a.nth t.most with h | h
            · exact h
            · exact absurd ⟨h0, h⟩ hm⟩

section
variable {t : TakerP} {L : List Rc} {last now : Int} {c : Cn} {k : Nat} {I : Idx.Ents}

theorem again_ok (ht : errT t = 0) (h : Ok k c) (hn : 0 ≤ now ∧ now ≤ far) : Ok (k + 1) ⟨c.place, c.count, (againP t L now c.l).1⟩ := by
  have hs := again_seqs t L now c.l
  refine ⟨?_, fun p hp => ?_, h.place, ⟨h.count.1, by have := h.count.2; show c.count ≤ _; omega⟩, ?_⟩
  · have h1 : ((c.l.map (·.seq))).Pairwise (· < ·) := List.pairwise_map.2 h.rise
    exact List.pairwise_map.1 (h1.sublist hs)
  · rcases again_mem t L now c.l p hp with h1 | ⟨q, h1, rfl⟩
    · obtain ⟨a, b, d⟩ := h.in_ p h1
      exact ⟨a, ⟨b.1, by omega⟩, d⟩
    · obtain ⟨a, b, d⟩ := h.in_ q h1
      have hw := wait_range ht (q.nth + 1)
      exact ⟨a, ⟨by show 1 ≤ q.nth + 1; omega, by show q.nth + 1 ≤ _; omega⟩, by show 0 ≤ now + waitT t (q.nth + 1); omega, by show now + waitT t (q.nth + 1) ≤ _; omega⟩
  · have h1 := again_len t L now c.l
    have h2 := h.len
    show ((againP t L now c.l).1.length : Int) ≤ c.count
    omega

theorem Ok.mono {m : Nat} (h : Ok k c) (hm : k ≤ m) : Ok m c :=
  ⟨h.rise, fun p hp => by obtain ⟨a, b, d⟩ := h.in_ p hp; exact ⟨a, ⟨b.1, by omega⟩, d⟩, h.place, ⟨h.count.1, by have := h.count.2; omega⟩, h.len⟩

theorem seq_pos (hR : Right L last I) : ∀ r ∈ L, 1 ≤ r.seq ∧ r.seq ≤ far := fun r hr =>
  ⟨(Rec.recErr_sizes (hR.good r hr).1).2.2.1, (Rec.recErr_sizes (hR.good r hr).1).2.2.2.1⟩

theorem fresh_ok (ht : errT t = 0) (hR : Right L last I) (h : Ok k c) (hn : 0 ≤ now ∧ now ≤ far) (hk : c.count < k) : Ok k (freshP t L now c).1 := by
  unfold freshP
  split
  · exact h
  · split
    · exact h
    · rename_i x hx
      have hm := List.mem_of_find?_eq_some hx
      have hw := List.find?_some hx
      unfold want at hw
      rw [Bool.and_eq_true, decide_eq_true_eq] at hw
      have hq := seq_pos hR x hm
      have hwt := wait_range ht 1
      have hpl := h.place
      have h1 : ∀ p ∈ c.l, p.seq < x.seq := fun p hp => by have := (h.in_ p hp).1.2; omega
      show Ok k ⟨x.seq + 1, c.count + 1, if t.ack = 0 then c.l else c.l ++ [⟨x.seq, 1, now + waitT t 1⟩]⟩
      have hcnt := h.count
      have hlen := h.len
      split
      · exact ⟨h.rise, fun p hp => by obtain ⟨a, b, d⟩ := h.in_ p hp; exact ⟨⟨a.1, by have := h1 p hp; show p.seq < x.seq + 1; omega⟩, b, d⟩, ⟨by show 1 ≤ x.seq + 1; omega, by show x.seq + 1 ≤ _; omega⟩, ⟨by show 0 ≤ c.count + 1; omega, by show c.count + 1 ≤ k; omega⟩, by show (c.l.length : Int) ≤ c.count + 1; omega⟩
      · refine ⟨?_, fun p hp => ?_, ⟨by show 1 ≤ x.seq + 1; omega, by show x.seq + 1 ≤ _; omega⟩, ⟨by show 0 ≤ c.count + 1; omega, by show c.count + 1 ≤ k; omega⟩, ?_⟩
        · show (c.l ++ [_]).Pairwise _
          rw [List.pairwise_append]
          refine ⟨h.rise, List.pairwise_singleton _ _, fun p hp y hy => ?_⟩
          simp at hy; subst hy
          exact h1 p hp
        · rcases List.mem_append.1 hp with hp | hp
          · obtain ⟨a, b, d⟩ := h.in_ p hp
            exact ⟨⟨a.1, by have := h1 p hp; show p.seq < x.seq + 1; omega⟩, b, d⟩
          · simp at hp; subst hp
            exact ⟨⟨by show 1 ≤ x.seq; omega, by show x.seq < x.seq + 1; omega⟩, ⟨by show (1 : Int) ≤ 1; omega, by show (1 : Int) ≤ k; omega⟩, by show 0 ≤ now + waitT t 1; omega, by show now + waitT t 1 ≤ _; omega⟩
        · show (((c.l ++ [_]).length : Nat) : Int) ≤ c.count + 1
          rw [List.length_append, List.length_singleton]; omega

theorem next_ok (ht : errT t = 0) (hR : Right L last I) (h : Ok k c) : Ok (k + 1) (nextP t L now c).1 := by
  unfold nextP
  split
  · exact h.mono (by omega)
  · rename_i hn
    have ha := again_ok (L := L) ht h (now := now) (by omega)
    have hc := h.count
    have hl := again_len t L now c.l
    split
    · rename_i l p x he
      rw [he] at ha hl
      exact ⟨ha.rise, ha.in_, ha.place, ⟨by show 0 ≤ c.count + 1; omega, by show c.count + 1 ≤ _; omega⟩, by have := h.len; show ((l.length : Nat) : Int) ≤ c.count + 1; simp only at hl; omega⟩
    · rename_i l he
      rw [he] at ha
      exact fresh_ok ht hR ha (by omega) (by show c.count < _; omega)

theorem idx_some {l : List Pd} {q : Int} {i : Nat} (h : idxP l q = some i) : ∃ p, l[i]? = some p ∧ p.seq = q := by
  obtain ⟨p, h1, h2, _⟩ := find_eq _ h
  exact ⟨p, h1, by simpa using h2⟩

theorem set_ok (h : Ok k c) {i : Nat} {p : Pd} (hp : c.l[i]? = some p) (d : Int) (hd : 0 ≤ d ∧ d ≤ far + 200000) : Ok k ⟨c.place, c.count, c.l.set i ⟨p.seq, p.nth, d⟩⟩ := by
  have hm := List.mem_of_getElem? hp
  refine ⟨?_, fun q hq => ?_, h.place, h.count, by rw [List.length_set]; exact h.len⟩
  · have e : (c.l.set i ⟨p.seq, p.nth, d⟩).map (·.seq) = c.l.map (·.seq) := by
      rw [List.map_set]
      apply List.ext_getElem?
      intro j
      rw [List.getElem?_set]
      split
      · rename_i hj
        subst hj
        obtain ⟨hi, e⟩ := List.getElem?_eq_some_iff.1 hp
        simp [hi, e]
      · rfl
    have h1 : ((c.l.map (·.seq))).Pairwise (· < ·) := List.pairwise_map.2 h.rise
    rw [← e] at h1
    exact List.pairwise_map.1 h1
  · rcases List.mem_or_eq_of_mem_set hq with hq | rfl
    · exact h.in_ q hq
    · obtain ⟨a, b, _⟩ := h.in_ p hm
      exact ⟨a, b, hd⟩

theorem sub_ok (h : Ok k c) {l : List Pd} (hs : l.Sublist c.l) : Ok k ⟨c.place, c.count, l⟩ :=
  ⟨h.rise.sublist hs, fun p hp => h.in_ p (hs.subset hp), h.place, h.count, by have := h.len; have := hs.length_le; show (l.length : Int) ≤ c.count; omega⟩

theorem answer_ok (ht : errT t = 0) (h : Ok k c) (now seq sort n : Int) : Ok k (answerP t now seq sort n c).1 := by
  unfold answerP
  split
  · exact h
  · rename_i hc
    have hmn : mostN sort ≤ 100000 := by unfold mostN; split <;> omega
    split
    · exact h
    · split
      · exact h
      · rename_i i _ p hp
        have hw := wait_range ht p.nth
        split
        · exact set_ok h hp _ (by omega)
        · split
          · exact set_ok h hp _ (by omega)
          · split
            · exact sub_ok h (List.drop_sublist _ _)
            · exact sub_ok h (List.eraseIdx_sublist _ _)

theorem new_ok (ht : errT t = 0) (hR : Right L last I) : Ok 0 (newP t L last) := by
  obtain ⟨_, _, _, h4⟩ := errT_facts ht
  obtain ⟨_, h5, _⟩ := argsOk_facts h4
  have hr := hR.range
  have hf : far = 1099511627776 := rfl
  refine ⟨List.Pairwise.nil, (fun p hp => by cases hp), ?_, ⟨Int.le_refl _, by simp [newP]⟩, by simp [newP]⟩
  show 1 ≤ startP t L last ∧ startP t L last ≤ far + 1
  unfold startP
  split
  · split
    · omega
    · rename_i x hx
      have := seq_pos hR x (List.mem_reverse.1 (List.mem_of_find?_eq_some hx))
      omega
  · split
    · omega
    · split
      · rename_i h3; have := h5 h3; omega
      · omega
end
end Go.Proofs.YthhingihjpkipaaDoor.Con

namespace Go.Proofs.YthhingihjpkipaaDoor.Subj
open Go.RowKit

theorem nameOk_of (s : ByteArray) (h : ∀ j, (h : j < s.size) → nameByte s[j] = true) : nameOk s.data.toList = (decide (1 ≤ s.size) && decide (s.size ≤ 16)) := by
  have : s.data.toList.all nameByte = true := by
    rw [List.all_eq_true]
    intro b hb
    obtain ⟨j, hj, rfl⟩ := List.getElem_of_mem hb
    rw [list_get s j (by simpa using hj)]
    exact h j _
  unfold nameOk
  rw [this, Bool.true_and]
  simp

theorem nameOk_not (s : ByteArray) (j : Nat) (hj : j < s.size) (h : nameByte s[j] = false) : nameOk s.data.toList = false := by
  have : s.data.toList.all nameByte = false := by
    rw [List.all_eq_false]
    exact ⟨s[j], by rw [← list_get s j hj]; exact List.getElem_mem _, by simp [h]⟩
  unfold nameOk
  rw [this, Bool.false_and]

def NameLoop (s : ByteArray) (k : Nat) : Prop := ∀ j, (h : j < s.size) → j < k → nameByte s[j] = true

theorem NameLoop.step {s : ByteArray} {k : Nat} (H : NameLoop s k) (hk : k < s.size) (h : nameByte s[k] = true) : NameLoop s (k + 1) := fun j hj hjk => by
  by_cases e : j = k
  · subst e; exact h
  · exact H j hj (by omega)

set_option maxHeartbeats 1000000 in
set_option maxRecDepth 100000 in
theorem named_any (s : ByteArray) (w : World) (hs : s.size ≤ maxLen) :
    Calls Tryd.prog 95 #[.string s] w fun e w' => e = .returned (.bool (nameOk s.data.toList)) ∧ w = w' := by
  unfold maxLen at hs
  go_enter Tryd.func95, Tryd.ntmps95
  go_wp2
  go_loop [7] (fun i => ∃ k : Nat, k ≤ s.size ∧ i = .int .i64 k ∧ Hid (NameLoop s k)) (fun i => s.size - (intOf i).toNat)
  case atStart => exact ⟨0, Nat.zero_le _, rfl, fun j _ h => by omega⟩
  case round =>
    obtain ⟨k, hk, rfl, H⟩ := hrel
    by_cases hlt : k < s.size
    · have hb := s[k].toNat_lt
      by_cases hok : nameByte s[k] = true
      · have HN := Lib.hid (H.out.step hlt hok)
        unfold nameByte at hok
        simp only [Bool.or_eq_true, Bool.and_eq_true, decide_eq_true_eq, beq_iff_eq] at hok
        rcases hok with (⟨b1, b2⟩ | ⟨b1, b2⟩) | b1
        · go_wp2
          exact ⟨⟨k + 1, by omega, by go_num, HN⟩, by simp [intOf]; omega⟩
        · go_wp2
          exact ⟨⟨k + 1, by omega, by go_num, HN⟩, by simp [intOf]; omega⟩
        · have d : ((s[k].toNat : Int) != 45) = false := by simp; omega
          go_wp2
          all_goals exact ⟨⟨k + 1, by omega, by go_num, HN⟩, by simp [intOf]; omega⟩
      · have hr := nameOk_not s k hlt (by simpa using hok)
        have HR := Lib.hid hr; clear hr
        unfold nameByte at hok
        simp at hok
        obtain ⟨⟨h1, h2⟩, h3⟩ := hok
        have d : ((s[k].toNat : Int) != 45) = true := by simp; omega
        by_cases b1 : s[k].toNat < 97
        · by_cases b2 : s[k].toNat < 48
          · go_wp2
            go_ret
            exact ⟨ret_bool HR.out.symm, rfl⟩
          · have b3 : 57 < s[k].toNat := by omega
            go_wp2
            go_ret
            exact ⟨ret_bool HR.out.symm, rfl⟩
        · have b2 : 122 < s[k].toNat := by omega
          have b3 : 57 < s[k].toNat := by omega
          go_wp2
          go_ret
          exact ⟨ret_bool HR.out.symm, rfl⟩
    · have hr := nameOk_of s (fun j h => H.out j h (by omega))
      have HR := Lib.hid hr; clear hr
      by_cases c1 : 1 ≤ s.size
      · by_cases c2 : s.size ≤ 16
        · have e : (decide (1 ≤ s.size) && decide (s.size ≤ 16)) = true := by simp [c1, c2]
          have E := Lib.hid e; clear e
          go_wp2
          go_ret
          refine ⟨ret_bool ?_, rfl⟩
          rw [HR.out, E.out]
          simp; omega
        · have e : (decide (1 ≤ s.size) && decide (s.size ≤ 16)) = false := by simp; omega
          have E := Lib.hid e; clear e
          go_wp2
          go_ret
          refine ⟨ret_bool ?_, rfl⟩
          rw [HR.out, E.out]
          simp; omega
      · have e : (decide (1 ≤ s.size) && decide (s.size ≤ 16)) = false := by simp; omega
        have E := Lib.hid e; clear e
        go_wp2
        go_ret
        exact ⟨ret_bool (by rw [HR.out, E.out]), rfl⟩

/-! ### Numbers -/
def NumLoop (s : ByteArray) (k : Nat) (n : Nat) : Prop := digitsVal (s.data.toList.take k) = n ∧ (s.data.toList.take k).all isDigit = true ∧ n < 10 ^ k

theorem NumLoop.step {s : ByteArray} {k n : Nat} (H : NumLoop s k n) (hk : k < s.size) (h : isDigit s[k] = true) : NumLoop s (k + 1) (10 * n + (s[k].toNat - 48)) := by
  obtain ⟨h1, h2, h3⟩ := H
  have htk : s.data.toList.take (k + 1) = s.data.toList.take k ++ [s[k]] := by
    rw [List.take_add_one]; simp [hk]; rfl
  refine ⟨?_, ?_, ?_⟩
  · rw [htk, digitsVal_snoc, h1]
  · rw [htk]; simp [h2, h]
  · have := digitsVal_step (l := s.data.toList.take k) (b := s[k]) (k := k) (by omega) h
    rw [digitsVal_snoc, h1] at this
    exact this

theorem numberOf_bad {s : ByteArray} {k : Nat} (hk : k < s.size) (h : isDigit s[k] = false) : numberOf s.data.toList = -1 := by
  unfold numberOf
  rw [if_pos]
  refine .inr (.inr (.inr ?_))
  rw [List.all_eq_false]
  exact ⟨s[k], by rw [← list_get s k hk]; exact List.getElem_mem _, by simp [h]⟩

theorem head_zero {s : ByteArray} (h : 0 < s.size) : s.data.toList.head? = some s[0] := by
  rw [List.head?_eq_getElem?, List.getElem?_eq_getElem (by simpa using h), list_get s 0 h]

theorem numberOf_end {s : ByteArray} {n : Nat} (H : NumLoop s s.size n) (h0 : 0 < s.size) (h9 : s.size ≤ 9) (hz : ¬ (s[0] = 48 ∧ 1 < s.size)) : numberOf s.data.toList = n := by
  obtain ⟨h1, h2, _⟩ := H
  have ht : s.data.toList.take s.size = s.data.toList := List.take_of_length_le (by simp)
  rw [ht] at h1 h2
  unfold numberOf
  have hl : s.data.toList.length = s.size := by simp
  rw [if_neg, h1]
  rw [hl, head_zero h0, h2]
  rintro (h | h | ⟨h, h'⟩ | h)
  · omega
  · omega
  · exact hz ⟨by simpa using h, h'⟩
  · cases h

theorem numberOf_short {s : ByteArray} (h : s.size = 0 ∨ 9 < s.size) : numberOf s.data.toList = -1 := by
  unfold numberOf
  have hl : s.data.toList.length = s.size := by simp
  rw [hl, if_pos]
  rcases h with h | h
  · exact .inl h
  · exact .inr (.inl h)

theorem numberOf_nought {s : ByteArray} (h0 : 0 < s.size) (h : s[0] = 48) (h1 : 1 < s.size) : numberOf s.data.toList = -1 := by
  unfold numberOf
  have hl : s.data.toList.length = s.size := by simp
  rw [hl, if_pos]
  exact .inr (.inr (.inl ⟨by rw [head_zero h0, h], h1⟩))

theorem pow_le10 {k : Nat} (h : k ≤ 10) : 10 ^ k ≤ 10000000000 := by
  have := Nat.pow_le_pow_right (n := 10) (by decide) h
  simpa using this

theorem str_zero {s : ByteArray} (h : 0 < s.size) (h0 : s[0] = 48) : (s.toList == [48]) = decide (s.size = 1) := by
  rw [ByteArray.toList_eq, Bool.eq_iff_iff]
  have hl : s.data.toList.length = s.size := by simp
  have hh := head_zero h
  simp only [beq_iff_eq, decide_eq_true_eq]
  rw [← hl]
  rw [h0] at hh
  generalize s.data.toList = l at *
  constructor
  · rintro rfl; rfl
  · intro e
    cases l with
    | nil => simp at e
    | cons a l =>
      cases l with
      | nil => simp at hh; rw [hh]
      | cons b l => simp at e

end Go.Proofs.YthhingihjpkipaaDoor.Subj

namespace Go.Proofs.YthhingihjpkipaaDoor.Subj
open Go.RowKit

/-- What 'is' makes of an answer. -/
def isB (x : Bool × Nat) : Bool := x.2 == 0 && x.1

set_option maxRecDepth 100000 in
theorem is_match (f g : ByteArray) (w : World) (hf : f.size ≤ 1048576) (hg : g.size ≤ 1048576) (hm : ML w) :
    Calls Tryd.prog 22 #[.func (.func 23) #[] #[], .string f, .string g] w fun e w' => e = .returned (.bool (isB (matchR f.data.toList g.data.toList))) ∧ Below w.heap.size w w' := by
  have hc := match_any f g w hf hg hm
  obtain ⟨b, n, hr⟩ : ∃ b n, matchR f.data.toList g.data.toList = (b, n) := ⟨_, _, rfl⟩
  rw [hr] at hc ⊢
  unfold beV at hc
  have HC := Lib.hid hc; clear hc hr
  by_cases h0 : n = 0
  · subst h0
    go_enter Tryd.func22, Tryd.ntmps22
    go_wp2_with fail
    refine HC.out.mono ?_
    rintro e w' ⟨rfl, hb⟩
    go_wp2
    go_ret
    exact ⟨rfl, hb⟩
  · have h1 : ((n : Int) == 0) = false := by simp; omega
    have h2 : isB (b, n) = false := by unfold isB; simp [h0]
    rw [h2]
    clear h0 h2
    go_enter Tryd.func22, Tryd.ntmps22
    go_wp2_with fail
    refine HC.out.mono ?_
    rintro e w' ⟨rfl, hb⟩
    go_wp2
    go_ret
    exact ⟨rfl, hb⟩

end Go.Proofs.YthhingihjpkipaaDoor.Subj

namespace Go.Proofs.YthhingihjpkipaaDoor.Subj
open Go.RowKit
end Go.Proofs.YthhingihjpkipaaDoor.Subj
