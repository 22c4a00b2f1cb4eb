/- Parts of the proof, joined: A consumer in plain Lean: what it does of a list of messages. No program here.; The memory of who reads a consumer's text.; taker.Wait and rillref.Wait, walked.; A consumer in memory: the program's, or the reference's; the wait of a plan.; Messages that are still to come: one after another. No program here.; Regions that draw their order and whose operations only make memory (none turns what is there): walked once, in an order of one's own. Over any program. -/
import Derived.Test.YthhgfdeegnimjaaGreatDoorConsumerPlaysUptoM1
import Derived.Test.YthhgfdeegnimjaaGreatDoorConsumerPlaysUptoM2
import Derived.Test.YthhgfdeegnimjaaGreatDoorConsumerPlaysUptoM22
import Derived.Test.YthhgfdeegnimjaaGreatDoorConsumerPlaysUptoM24
import Derived.Test.YthhgfdeegnimjaaGreatDoorConsumerPlaysUptoM27
import Derived.StillTail
import Derived.Below
import Derived.Deep.Draws
namespace Go.Proofs.YthhgfdeegnimjaaGreatDoor.Con
open Subj (Tok pieces takes TakerP errT errT_facts argsOk_facts)
open Sto (Right getQ tk recV)
open Rec (Rc far)

/-- A pending delivery. -/
structure Pd where
  seq : Int
  nth : Int
  due : Int

/-- What a consumer has beside its plan. -/
structure Cn where
  place : Int
  count : Int
  l : List Pd

/-- A delivery. -/
structure Dl where
  seq : Int
  subj : List UInt8
  data : List UInt8
  count : Int
  nth : Int
  left : Int

def Dl.zero : Dl := ⟨0, [], [], 0, 0, 0⟩

def backI (t : TakerP) (nth : Int) : Nat := (min (max nth 1) (t.back.length : Int)).toNat - 1
def waitT (t : TakerP) (nth : Int) : Int := if t.back.length = 0 then t.wait else t.back.getD (backI t nth) 0

/-- One that is still to come. -/
def want (t : TakerP) (place : Int) (r : Rc) : Bool := decide (place ≤ r.seq) && tk t.filt r
def leftC (t : TakerP) (L : List Rc) (place : Int) : Nat := L.countP (want t place)

def againP (t : TakerP) (L : List Rc) (now : Int) : List Pd → List Pd × Option (Pd × Rc)
  | [] => ([], none)
  | p :: r =>
    if now < p.due then (p :: (againP t L now r).1, (againP t L now r).2)
    else match getQ L p.seq with
      | none => againP t L now r
      | some x => if 0 < t.most ∧ t.most ≤ p.nth then againP t L now r
        else (⟨p.seq, p.nth + 1, now + waitT t (p.nth + 1)⟩ :: r, some (⟨p.seq, p.nth + 1, now + waitT t (p.nth + 1)⟩, x))

def tellP (t : TakerP) (L : List Rc) (c : Cn) (x : Rc) (nth : Int) : Cn × Dl :=
  (⟨c.place, c.count + 1, c.l⟩, ⟨x.seq, x.subj, x.data, c.count + 1, nth, leftC t L c.place⟩)

/-- Next, where nothing is delivered again. -/
def freshP (t : TakerP) (L : List Rc) (now : Int) (c : Cn) : Cn × Dl × Nat :=
  if 0 < t.pend ∧ t.pend ≤ c.l.length then (c, Dl.zero, 11)
  else match L.find? (want t c.place) with
    | none => (c, Dl.zero, 4)
    | some x =>
      let y := tellP t L ⟨x.seq + 1, c.count, if t.ack = 0 then c.l else c.l ++ [⟨x.seq, 1, now + waitT t 1⟩]⟩ x 1
      (y.1, y.2, 0)

/-- Next: what is left, what is told, the error. -/
def nextP (t : TakerP) (L : List Rc) (now : Int) (c : Cn) : Cn × Dl × Nat :=
  if now < 0 ∨ far < now then (c, Dl.zero, 1)
  else match againP t L now c.l with
    | (l, some (p, x)) =>
      let y := tellP t L ⟨c.place, c.count, l⟩ x p.nth
      (y.1, y.2, 0)
    | (l, none) => freshP t L now ⟨c.place, c.count, l⟩

def idxP (l : List Pd) (q : Int) : Option Nat := l.findIdx? fun p => p.seq == q

def mostN (sort : Int) : Int := if sort = 2 then 100000 else 0

def answerP (t : TakerP) (now seq sort n : Int) (c : Cn) : Cn × Nat :=
  if now < 0 ∨ far < now ∨ sort < 1 ∨ 4 < sort ∨ n < 0 ∨ mostN sort < n then (c, 1)
  else match idxP c.l seq with
    | none => (c, 4)
    | some i =>
      match c.l[i]? with
      | none => (c, 4)
      | some p =>
        if sort = 2 then (⟨c.place, c.count, c.l.set i ⟨p.seq, p.nth, now + n⟩⟩, 0)
        else if sort = 3 then (⟨c.place, c.count, c.l.set i ⟨p.seq, p.nth, now + waitT t p.nth⟩⟩, 0)
        else if sort = 1 ∧ t.ack = 1 then (⟨c.place, c.count, c.l.drop (i + 1)⟩, 0)
        else (⟨c.place, c.count, c.l.eraseIdx i⟩, 0)

def startP (t : TakerP) (L : List Rc) (last : Int) : Int :=
  if t.src = 1 then match L.reverse.find? (tk t.filt) with
    | none => last + 1
    | some x => x.seq
  else if t.src = 2 then last + 1
  else if t.src = 3 then t.start
  else 1

def newP (t : TakerP) (L : List Rc) (last : Int) : Cn := ⟨startP t L last, 0, []⟩

def doneP (c : Cn) (seq : Int) : Bool := decide (seq < c.place) && (idxP c.l seq).isNone
def dueP (c : Cn) : Int := c.l.foldl (fun o p => if o < 0 ∨ p.due < o then p.due else o) (-1)
def floorP (c : Cn) : Int := match c.l with
  | [] => c.place - 1
  | p :: _ => p.seq - 1

/-- What is right of a consumer. -/
structure Ok (k : Nat) (c : Cn) : Prop where
  rise : c.l.Pairwise fun a b => a.seq < b.seq
  in_ : ∀ p ∈ c.l, (1 ≤ p.seq ∧ p.seq < c.place) ∧ (1 ≤ p.nth ∧ p.nth ≤ k) ∧ (0 ≤ p.due ∧ p.due ≤ far + 200000)
  place : 1 ≤ c.place ∧ c.place ≤ far + 1
  count : 0 ≤ c.count ∧ c.count ≤ k
  len : (c.l.length : Int) ≤ c.count

theorem wait_range {t : TakerP} (h : errT t = 0) (n : Int) : 0 ≤ waitT t n ∧ waitT t n ≤ 100000 := by
  obtain ⟨_, _, _, h4⟩ := errT_facts h
  obtain ⟨_, _, _, _, h5, _, _, _, _, h6⟩ := argsOk_facts h4
  unfold waitT
  split
  · exact h5
  · rename_i h0
    have := h6 (backI t n) (by unfold backI; omega)
    omega

theorem find_eq {α : Type} (f : α → Bool) : ∀ {l : List α} {i : Nat}, l.findIdx? f = some i → ∃ p, l[i]? = some p ∧ f p = true ∧ ∀ j q, j < i → l[j]? = some q → f q = false
  | [], i, h => by simp at h
  | a :: l, i, h => by
    rw [List.findIdx?_cons] at h
    split at h
    · rename_i ha
      simp at h; subst h
      exact ⟨a, rfl, ha, fun j q hj => by omega⟩
    · rename_i ha
      cases hf : l.findIdx? f with
      | none => rw [hf] at h; simp at h
      | some k =>
        rw [hf] at h; simp at h; subst h
        obtain ⟨p, h1, h2, h3⟩ := find_eq f hf
        refine ⟨p, by simpa using h1, h2, fun j q hj hq => ?_⟩
        cases j with
        | zero => simp at hq; subst hq; simpa using ha
        | succ j => exact h3 j q (by omega) (by simpa using hq)

theorem find_at {α : Type} (f : α → Bool) {l : List α} {i : Nat} {p : α} (hp : l[i]? = some p) (hf : f p = true) (hb : ∀ x ∈ l.take i, f x = false) : l.findIdx? f = some i := by
  induction l generalizing i with
  | nil => simp at hp
  | cons a l ih =>
    rw [List.findIdx?_cons]
    cases i with
    | zero => simp at hp; subst hp; rw [if_pos hf]
    | succ i =>
      rw [if_neg (by rw [hb a (by simp)]; simp), ih (by simpa using hp) fun x hx => hb x (by simp [hx])]
      rfl

theorem find_no {α : Type} (f : α → Bool) {l : List α} (h : ∀ x ∈ l, f x = false) : l.findIdx? f = none := by
  rw [List.findIdx?_eq_none_iff]; exact h

theorem again_len (t : TakerP) (L : List Rc) (now : Int) : ∀ l : List Pd, (againP t L now l).1.length ≤ l.length
  | [] => Nat.le_refl _
  | p :: r => by
    have ih := again_len t L now r
    unfold againP
    split
    · simp; exact ih
    · split
      · simp; omega
      · split
        · simp; omega
        · simp

/-- What comes of the list: parts of it, and one that is turned. -/
theorem again_mem (t : TakerP) (L : List Rc) (now : Int) : ∀ l : List Pd, ∀ p ∈ (againP t L now l).1, p ∈ l ∨ ∃ q ∈ l, p = ⟨q.seq, q.nth + 1, now + waitT t (q.nth + 1)⟩
  | [], p, h => by simp [againP] at h
  | a :: r, p, h => by
    have ih := again_mem t L now r
    unfold againP at h
    split at h
    · rcases List.mem_cons.1 h with rfl | h
      · exact .inl (by simp)
      · rcases ih p h with h | ⟨q, hq, e⟩
        · exact .inl (by simp [h])
        · exact .inr ⟨q, by simp [hq], e⟩
    · have hrec : p ∈ (againP t L now r).1 → p ∈ a :: r ∨ ∃ q ∈ a :: r, p = ⟨q.seq, q.nth + 1, now + waitT t (q.nth + 1)⟩ := fun h => by
        rcases ih p h with h | ⟨q, hq, e⟩
        · exact .inl (by simp [h])
        · exact .inr ⟨q, by simp [hq], e⟩
      split at h
      · exact hrec h
      · split at h
        · exact hrec h
        · rcases List.mem_cons.1 h with rfl | h
          · exact .inr ⟨a, by simp, rfl⟩
          · exact .inl (by simp [h])

theorem again_seqs (t : TakerP) (L : List Rc) (now : Int) : ∀ l : List Pd, ((againP t L now l).1.map (·.seq)).Sublist (l.map (·.seq))
  | [] => List.Sublist.refl _
  | a :: r => by
    have ih := again_seqs t L now r
    unfold againP
    split
    · simpa using ih.cons_cons a.seq
    · split
      · exact ih.cons a.seq
      · split
        · exact ih.cons a.seq
        · simp

section
variable {t : TakerP} {L : List Rc} {last now : Int} {c : Cn} {k : Nat} {I : Idx.Ents}

theorem again_ok (ht : errT t = 0) (h : Ok k c) (hn : 0 ≤ now ∧ now ≤ far) : Ok (k + 1) ⟨c.place, c.count, (againP t L now c.l).1⟩ := by
  have hs := again_seqs t L now c.l
  refine ⟨?_, fun p hp => ?_, h.place, ⟨h.count.1, by have := h.count.2; show c.count ≤ _; omega⟩, ?_⟩
  · have h1 : ((c.l.map (·.seq))).Pairwise (· < ·) := List.pairwise_map.2 h.rise
    exact List.pairwise_map.1 (h1.sublist hs)
  · rcases again_mem t L now c.l p hp with h1 | ⟨q, h1, rfl⟩
    · obtain ⟨a, b, d⟩ := h.in_ p h1
      exact ⟨a, ⟨b.1, by omega⟩, d⟩
    · obtain ⟨a, b, d⟩ := h.in_ q h1
      have hw := wait_range ht (q.nth + 1)
      exact ⟨a, ⟨by show 1 ≤ q.nth + 1; omega, by show q.nth + 1 ≤ _; omega⟩, by show 0 ≤ now + waitT t (q.nth + 1); omega, by show now + waitT t (q.nth + 1) ≤ _; omega⟩
  · have h1 := again_len t L now c.l
    have h2 := h.len
    show ((againP t L now c.l).1.length : Int) ≤ c.count
    omega

theorem Ok.mono {m : Nat} (h : Ok k c) (hm : k ≤ m) : Ok m c :=
  ⟨h.rise, fun p hp => by obtain ⟨a, b, d⟩ := h.in_ p hp; exact ⟨a, ⟨b.1, by omega⟩, d⟩, h.place, ⟨h.count.1, by have := h.count.2; omega⟩, h.len⟩

theorem seq_pos (hR : Right L last I) : ∀ r ∈ L, 1 ≤ r.seq ∧ r.seq ≤ far := fun r hr =>
  ⟨(Rec.recErr_sizes (hR.good r hr).1).2.2.1, (Rec.recErr_sizes (hR.good r hr).1).2.2.2.1⟩

theorem fresh_ok (ht : errT t = 0) (hR : Right L last I) (h : Ok k c) (hn : 0 ≤ now ∧ now ≤ far) (hk : c.count < k) : Ok k (freshP t L now c).1 := by
  unfold freshP
  split
  · exact h
  · split
    · exact h
    · rename_i x hx
      have hm := List.mem_of_find?_eq_some hx
      have hw := List.find?_some hx
      unfold want at hw
      rw [Bool.and_eq_true, decide_eq_true_eq] at hw
      have hq := seq_pos hR x hm
      have hwt := wait_range ht 1
      have hpl := h.place
      have h1 : ∀ p ∈ c.l, p.seq < x.seq := fun p hp => by have := (h.in_ p hp).1.2; omega
      show Ok k ⟨x.seq + 1, c.count + 1, if t.ack = 0 then c.l else c.l ++ [⟨x.seq, 1, now + waitT t 1⟩]⟩
      have hcnt := h.count
      have hlen := h.len
      split
      · exact ⟨h.rise, fun p hp => by obtain ⟨a, b, d⟩ := h.in_ p hp; exact ⟨⟨a.1, by have := h1 p hp; show p.seq < x.seq + 1; omega⟩, b, d⟩, ⟨by show 1 ≤ x.seq + 1; omega, by show x.seq + 1 ≤ _; omega⟩, ⟨by show 0 ≤ c.count + 1; omega, by show c.count + 1 ≤ k; omega⟩, by show (c.l.length : Int) ≤ c.count + 1; omega⟩
      · refine ⟨?_, fun p hp => ?_, ⟨by show 1 ≤ x.seq + 1; omega, by show x.seq + 1 ≤ _; omega⟩, ⟨by show 0 ≤ c.count + 1; omega, by show c.count + 1 ≤ k; omega⟩, ?_⟩
        · show (c.l ++ [_]).Pairwise _
          rw [List.pairwise_append]
          refine ⟨h.rise, List.pairwise_singleton _ _, fun p hp y hy => ?_⟩
          simp at hy; subst hy
          exact h1 p hp
        · rcases List.mem_append.1 hp with hp | hp
          · obtain ⟨a, b, d⟩ := h.in_ p hp
            exact ⟨⟨a.1, by have := h1 p hp; show p.seq < x.seq + 1; omega⟩, b, d⟩
          · simp at hp; subst hp
            exact ⟨⟨by show 1 ≤ x.seq; omega, by show x.seq < x.seq + 1; omega⟩, ⟨by show (1 : Int) ≤ 1; omega, by show (1 : Int) ≤ k; omega⟩, by show 0 ≤ now + waitT t 1; omega, by show now + waitT t 1 ≤ _; omega⟩
        · show (((c.l ++ [_]).length : Nat) : Int) ≤ c.count + 1
          rw [List.length_append, List.length_singleton]; omega

theorem next_ok (ht : errT t = 0) (hR : Right L last I) (h : Ok k c) : Ok (k + 1) (nextP t L now c).1 := by
  unfold nextP
  split
  · exact h.mono (by omega)
  · rename_i hn
    have ha := again_ok (L := L) ht h (now := now) (by omega)
    have hc := h.count
    have hl := again_len t L now c.l
    split
    · rename_i l p x he
      rw [he] at ha hl
      exact ⟨ha.rise, ha.in_, ha.place, ⟨by show 0 ≤ c.count + 1; omega, by show c.count + 1 ≤ _; omega⟩, by have := h.len; show ((l.length : Nat) : Int) ≤ c.count + 1; simp only at hl; omega⟩
    · rename_i l he
      rw [he] at ha
      exact fresh_ok ht hR ha (by omega) (by show c.count < _; omega)

theorem idx_some {l : List Pd} {q : Int} {i : Nat} (h : idxP l q = some i) : ∃ p, l[i]? = some p ∧ p.seq = q := by
  obtain ⟨p, h1, h2, _⟩ := find_eq _ h
  exact ⟨p, h1, by simpa using h2⟩

theorem set_ok (h : Ok k c) {i : Nat} {p : Pd} (hp : c.l[i]? = some p) (d : Int) (hd : 0 ≤ d ∧ d ≤ far + 200000) : Ok k ⟨c.place, c.count, c.l.set i ⟨p.seq, p.nth, d⟩⟩ := by
  have hm := List.mem_of_getElem? hp
  refine ⟨?_, fun q hq => ?_, h.place, h.count, by rw [List.length_set]; exact h.len⟩
  · have e : (c.l.set i ⟨p.seq, p.nth, d⟩).map (·.seq) = c.l.map (·.seq) := by
      rw [List.map_set]
      apply List.ext_getElem?
      intro j
      rw [List.getElem?_set]
      split
      · rename_i hj
        subst hj
        obtain ⟨hi, e⟩ := List.getElem?_eq_some_iff.1 hp
        simp [hi, e]
      · rfl
    have h1 : ((c.l.map (·.seq))).Pairwise (· < ·) := List.pairwise_map.2 h.rise
    rw [← e] at h1
    exact List.pairwise_map.1 h1
  · rcases List.mem_or_eq_of_mem_set hq with hq | rfl
    · exact h.in_ q hq
    · obtain ⟨a, b, _⟩ := h.in_ p hm
      exact ⟨a, b, hd⟩

theorem sub_ok (h : Ok k c) {l : List Pd} (hs : l.Sublist c.l) : Ok k ⟨c.place, c.count, l⟩ :=
  ⟨h.rise.sublist hs, fun p hp => h.in_ p (hs.subset hp), h.place, h.count, by have := h.len; have := hs.length_le; show (l.length : Int) ≤ c.count; omega⟩

theorem answer_ok (ht : errT t = 0) (h : Ok k c) (now seq sort n : Int) : Ok k (answerP t now seq sort n c).1 := by
  unfold answerP
  split
  · exact h
  · rename_i hc
    have hmn : mostN sort ≤ 100000 := by unfold mostN; split <;> omega
    split
    · exact h
    · split
      · exact h
      · rename_i i _ p hp
        have hw := wait_range ht p.nth
        split
        · exact set_ok h hp _ (by omega)
        · split
          · exact set_ok h hp _ (by omega)
          · split
            · exact sub_ok h (List.drop_sublist _ _)
            · exact sub_ok h (List.eraseIdx_sublist _ _)

theorem new_ok (ht : errT t = 0) (hR : Right L last I) : Ok 0 (newP t L last) := by
  obtain ⟨_, _, _, h4⟩ := errT_facts ht
  obtain ⟨_, h5, _⟩ := argsOk_facts h4
  have hr := hR.range
  have hf : far = 1099511627776 := rfl
  refine ⟨List.Pairwise.nil, (fun p hp => by cases hp), ?_, ⟨Int.le_refl _, by simp [newP]⟩, by simp [newP]⟩
  show 1 ≤ startP t L last ∧ startP t L last ≤ far + 1
  unfold startP
  split
  · split
    · omega
    · rename_i x hx
      have := seq_pos hR x (List.mem_reverse.1 (List.mem_of_find?_eq_some hx))
      omega
  · split
    · omega
    · split
      · rename_i h3; have := h5 h3; omega
      · omega
end
end Go.Proofs.YthhgfdeegnimjaaGreatDoor.Con

namespace Go.Proofs.YthhgfdeegnimjaaGreatDoor.Subj
open Go.RowKit

def zeroT : Array Value := #[.string ⟨#[]⟩, .string ⟨#[]⟩, .int .i64 0, .int .i64 0, .int .i64 0, .int .i64 0, .slice none 0 0, .int .i64 0, .int .i64 0, .bool false]

def intsV (zs : List Int) : List Value := zs.map (Value.int .i64)

/-- The answer's block B, the words from off in block g, the plan in block T; R: the last block ahead of the rows that the plan holds. -/
structure TC (W : World) (B T R g off : Nat) (r : List Tok) (arr : Array Value) (vb : Value) (back : List Int) (w : World) : Prop where
  ml : ML W
  below : Below W.heap.size W w
  zero : w.heap[B]? = some (.cells zeroT 24 (0, 0))
  cells : w.heap[T]? = some (.cells arr 24 (0, 0))
  rest : StrsAt w g off r
  gsize : g < w.heap.size
  row : Heap.Row w 3 1 vb back.length (intsV back)
  newB : W.heap.size ≤ B
  newG : W.heap.size ≤ g
  gB : g ≠ B
  BT : B < T
  gT : g < T
  TR : T ≤ R
  nb : ∀ k, Heap.own vb k → R < k

namespace TC
variable {W : World} {B T R g off : Nat} {r : List Subj.Tok} {arr : Array Value} {vb : Value} {back : List Int} {w : World}

theorem ofTouch {w' : World} {F : Nat → Prop} (h : TC W B T R g off r arr vb back w) (ht : Heap.Touch F w w') (hF : ∀ k, F k → W.heap.size ≤ k ∧ k ≠ B ∧ k ≠ T ∧ k ≠ g ∧ ¬ Heap.own vb k) : TC W B T R g off r arr vb back w' where
  ml := h.ml
  below := h.below.trans (ht.below h.below.size fun k hk => (hF k hk).1)
  zero := (ht.block _ (Heap.heap_lt h.zero) fun hk => (hF _ hk).2.1 rfl).trans h.zero
  cells := (ht.block _ (Heap.heap_lt h.cells) fun hk => (hF _ hk).2.2.1 rfl).trans h.cells
  rest := fun i hi => (ht.cell (World.block_lt_of_cell? w _ (h.rest i hi)) fun hk => (hF _ hk).2.2.2.1 rfl).trans (h.rest i hi)
  gsize := Nat.lt_of_lt_of_le h.gsize ht.size
  row := h.row.kept (ht.same fun k hk hf => (hF k hf).2.2.2.2 hk)
  newB := h.newB
  newG := h.newG
  gB := h.gB
  BT := h.BT
  gT := h.gT
  TR := h.TR
  nb := h.nb

theorem next {w' : World} (h : TC W B T R g off r arr vb back w) (hb : Below w.heap.size w w') : TC W B T R g off r arr vb back w' :=
  h.ofTouch (F := fun _ => False) (Heap.Touch.ofBelow hb) (fun _ hk => hk.elim)

theorem tail {x : Subj.Tok} (h : TC W B T R g off (x :: r) arr vb back w) : TC W B T R g (off + 1) r arr vb back w :=
  { ml := h.ml, below := h.below, zero := h.zero, cells := h.cells, rest := h.rest.tail, gsize := h.gsize, row := h.row, newB := h.newB, newG := h.newG, gB := h.gB, BT := h.BT, gT := h.gT, TR := h.TR, nb := h.nb }

end TC

/-- The plan and its reader. -/
def TW (W : World) (B T R g : Nat) (r : List Subj.Tok) (ok : Bool) (arr : Array Value) (vb : Value) (back : List Int) (w : World) : Prop :=
  ∃ off, TC W B T R g off r arr vb back w ∧ T < R ∧ w.heap[R]? = some (.cells #[.slice (some ⟨g, off, none⟩) r.length r.length, .bool ok] 298 (0, 0))

theorem TW.rd {W : World} {B T R g off : Nat} {r : List Subj.Tok} {arr : Array Value} {vb : Value} {back : List Int} {w : World} (h : TC W B T R g off r arr vb back w) (hTR : T < R) (j : Nat) (u : Value) : TC W B T R g off r arr vb back (w.setCell ⟨R, j, none⟩ u) := by
  have ht : Heap.Touch (· = R) w (w.setCell ⟨R, j, none⟩ u) := (Heap.Touch.refl (· = R) w).setCell (.inl rfl) _
  refine h.ofTouch ht fun k hk => ?_
  subst hk
  have h1 := h.newB; have h2 := h.BT; have h3 := h.gT
  exact ⟨by omega, by omega, by omega, by omega, fun hk => by have := h.nb _ hk; omega⟩

/-- Whether the rest tells what is wanted. -/
def Good (E : Option TakerP) (i : Nat) (r : List Subj.Tok) (t : TakerP) (ok : Bool) : Prop := (ok = true → E = seqT i r t) ∧ (ok = false → E = none)

theorem Good.no {E : Option TakerP} {i : Nat} {r : List Subj.Tok} {t : TakerP} {ok : Bool} (h : Good E i r t ok) (hi : i < 7) (hn : ∀ x r', r = x :: r' → (heads.getD i []).isPrefixOf x = false) : Good E (i + 1) r t ok := by
  refine ⟨fun e => ?_, h.2⟩
  rw [h.1 e]
  cases r with
  | nil => exact seqT_none hi t
  | cons x r => exact seqT_no hi x r t (hn x r rfl)

theorem Good.some {E : Option TakerP} {i : Nat} {x : Subj.Tok} {r : List Subj.Tok} {t t' : TakerP} {ok : Bool} (h : Good E i (x :: r) t ok) (hi : i < 7) (hx : (heads.getD i []).isPrefixOf x = true) (ho : optT i (x.drop (heads.getD i []).length) t = some t') : Good E (i + 1) r t' ok := by
  refine ⟨fun e => ?_, h.2⟩
  rw [h.1 e, seqT_yes hi x r t hx, ho]; rfl

theorem Good.none {E : Option TakerP} {i : Nat} {x : Subj.Tok} {r : List Subj.Tok} {t : TakerP} {ok : Bool} (h : Good E i (x :: r) t ok) (hi : i < 7) (hx : (heads.getD i []).isPrefixOf x = true) (ho : optT i (x.drop (heads.getD i []).length) t = none) (t' : TakerP) : Good E (i + 1) r t' false := by
  refine ⟨fun e => (by cases e), fun _ => ?_⟩
  cases hk : ok with
  | false => exact h.2 hk
  | true => rw [h.1 hk, seqT_yes hi x r t hx, ho]; rfl

end Go.Proofs.YthhgfdeegnimjaaGreatDoor.Subj

namespace Go.Proofs.YthhgfdeegnimjaaGreatDoor.Subj
open Go.RowKit

abbrev takerArg (name filt : ByteArray) (src start ack wait : Int) (vb : Value) (most pend : Int) (push : Bool) : Value :=
  .agg #[.string name, .string filt, .int .i64 src, .int .i64 start, .int .i64 ack, .int .i64 wait, vb, .int .i64 most, .int .i64 pend, .bool push]

def WaitIs (w : World) (z : Int) (e : Ending) (w' : World) : Prop := e = .returned (.int .i64 z) ∧ Below w.heap.size w w'

theorem waitC_none (nm fl : ByteArray) (fr st ak wt : Int) (ao : Option Addr) (cap : Nat) (mo pe : Int) (pu : Bool) (nth : Int) (w : World) :
    Calls Tryz.prog 67 #[takerArg nm fl fr st ak wt (.slice ao 0 cap) mo pe pu, .int .i64 nth] w (WaitIs w wt) := by
  go_enter Tryz.func67, Tryz.ntmps67
  go_wp2
  go_ret
  exact ⟨rfl, (Below.refl _ _).alloc (Nat.le_refl _) _⟩

theorem waitR_none (nm fl : ByteArray) (fr st ak wt : Int) (ao : Option Addr) (cap : Nat) (mo pe : Int) (pu : Bool) (nth : Int) (w : World) :
    Calls Tryz.prog 70 #[takerArg nm fl fr st ak wt (.slice ao 0 cap) mo pe pu, .int .i64 nth] w (WaitIs w wt) := by
  go_enter Tryz.func70, Tryz.ntmps70
  go_wp2
  go_ret
  exact ⟨rfl, (Below.refl _ _).alloc (Nat.le_refl _) _⟩

set_option maxRecDepth 100000 in
theorem waitC_some (nm fl : ByteArray) (fr st ak wt : Int) (b off cap n j : Nat) (z : List Int) (mo pe : Int) (pu : Bool) (nth : Int) (w : World)
    (hz : IntsAt w b off z) (hzn : z.length = n) (hl : n ≤ 1048576) (hn : 0 < n) (hj : min (max nth 1) n = j + 1) :
    Calls Tryz.prog 67 #[takerArg nm fl fr st ak wt (.slice (some ⟨b, off, none⟩) n cap) mo pe pu, .int .i64 nth] w (WaitIs w (z.getD j 0)) := by
  have hjn : j < n := by omega
  have hc := hz j (by omega)
  have hlt := World.block_lt_of_cell? w _ hc
  replace hlt : b < w.heap.size := hlt
  have hz0 : ((n : Int) == 0) = false := by simp; omega
  have he : (min (max nth 1) (n : Int)).toNat - 1 = j := by omega
  have hc2 : w.cell? ⟨b, off + ((min (max nth 1) (n : Int)).toNat - 1), none⟩ = some (.int .i64 (z.getD j 0)) := by rw [he]; exact hc
  have h1 : (0 : Int) ≤ min (max nth 1) (n : Int) - 1 := by omega
  have h2 : min (max nth 1) (n : Int) - 1 < n := by omega
  clear hz hzn hc he hj
  generalize z.getD j 0 = x at *
  go_enter Tryz.func67, Tryz.ntmps67
  go_wp2
  go_ret
  exact ⟨rfl, (Below.refl _ _).alloc (Nat.le_refl _) _⟩

set_option maxHeartbeats 1000000 in
set_option maxRecDepth 100000 in
theorem waitR_some (nm fl : ByteArray) (fr st ak wt : Int) (b off cap n j : Nat) (z : List Int) (mo pe : Int) (pu : Bool) (nth : Int) (w : World)
    (hz : IntsAt w b off z) (hzn : z.length = n) (hl : n ≤ 1048576) (hn : 0 < n) (hj : min (max nth 1) n = j + 1) :
    Calls Tryz.prog 70 #[takerArg nm fl fr st ak wt (.slice (some ⟨b, off, none⟩) n cap) mo pe pu, .int .i64 nth] w (WaitIs w (z.getD j 0)) := by
  have hjn : j < n := by omega
  have hc := hz j (by omega)
  have hlt := World.block_lt_of_cell? w _ hc
  replace hlt : b < w.heap.size := hlt
  have hz0 : ((n : Int) == 0) = false := by simp; omega
  have HJ := Lib.hid hj
  clear hz hzn hj
  generalize z.getD j 0 = x at *
  go_enter Tryz.func70, Tryz.ntmps70
  go_wp2_with fail
  go_loop [5, 6] (fun s5 s6 => ∃ i : Nat, i < n ∧ s5 = .int .i64 i ∧ s6 = .int .i64 ((i + 2 : Nat) : Int) ∧ (i = 0 ∨ (i : Int) + 1 ≤ nth)) (fun s5 _ => n - (intOf s5).toNat)
  case atStart => exact ⟨0, hn, rfl, rfl, .inl rfl⟩
  case round =>
    obtain ⟨i, hi, rfl, rfl, hor⟩ := hrel
    have HOR := Lib.hid hor
    clear hor
    by_cases h1 : (i : Int) + 2 ≤ nth
    · by_cases h2 : (i : Int) < (n : Int) - 1
      · go_wp2_with fail
        exact ⟨⟨i + 1, by omega, by go_num, by go_num, .inr (by omega)⟩, by simp [intOf]; omega⟩
      · obtain rfl : i = j := by have := HJ.out; omega
        go_wp2
        go_ret
        exact ⟨rfl, (Below.refl _ _).alloc (Nat.le_refl _) _⟩
    · obtain rfl : i = j := by have := HJ.out; have := HOR.out; omega
      go_wp2
      go_ret
      exact ⟨rfl, (Below.refl _ _).alloc (Nat.le_refl _) _⟩
end Go.Proofs.YthhgfdeegnimjaaGreatDoor.Subj

namespace Go.Proofs.YthhgfdeegnimjaaGreatDoor.Con
open Go.RowKit Heap
open Subj (Tok TakerP Ints WaitIs waitC_none waitC_some waitR_none waitR_some)

def pdC (p : Pd) : List Value := [.int .i64 p.seq, .int .i64 p.nth, .int .i64 p.due]
def pdsV (l : List Pd) : List Value := l.flatMap pdC

theorem pdsV_cons (p : Pd) (l : List Pd) : pdsV (p :: l) = pdC p ++ pdsV l := rfl
theorem pdsV_append (a b : List Pd) : pdsV (a ++ b) = pdsV a ++ pdsV b := by simp [pdsV]
theorem pdsV_one (l : List Pd) : ∀ u ∈ pdsV l, u.oneCell' = true := by
  intro u hu
  obtain ⟨e, _, h⟩ := List.mem_flatMap.1 hu
  simp only [pdC, List.mem_cons, List.not_mem_nil, or_false] at h
  rcases h with rfl | rfl | rfl <;> rfl
theorem pdsV_take (A : List Pd) (k : Nat) : (pdsV A).take (k * 3) = pdsV (A.take k) := by
  induction A generalizing k with
  | nil => simp [pdsV]
  | cons a r ih =>
    cases k with
    | zero => simp [pdsV]
    | succ k =>
      have hl : (pdC a).length = 3 := rfl
      rw [pdsV_cons, List.take_append, hl, show (k + 1) * 3 - 3 = k * 3 by omega, ih, List.take_of_length_le (by rw [hl]; omega)]
      rfl
theorem pdsV_drop (A : List Pd) (k : Nat) : (pdsV A).drop (k * 3) = pdsV (A.drop k) := by
  induction A generalizing k with
  | nil => simp [pdsV]
  | cons a r ih =>
    cases k with
    | zero => simp [pdsV]
    | succ k =>
      have hl : (pdC a).length = 3 := rfl
      rw [pdsV_cons, List.drop_append, hl, show (k + 1) * 3 - 3 = k * 3 by omega, ih, List.drop_of_length_le (by rw [hl]; omega)]
      rfl
theorem pdsV_at (l : List Pd) (k : Nat) (p : Pd) (h : l[k]? = some p) (i : Nat) (hi : i < 3) : (pdsV l)[k * 3 + i]? = (pdC p)[i]? := by
  induction l generalizing k with
  | nil => simp at h
  | cons q l ih =>
    rw [pdsV_cons]
    cases k with
    | zero =>
      simp at h; subst h
      rw [List.getElem?_append_left (by simp [pdC]; omega)]
      simp
    | succ k =>
      rw [List.getElem?_append_right (by simp [pdC]; omega)]
      rw [show (k + 1) * 3 + i - (pdC q).length = k * 3 + i by simp [pdC]; omega]
      exact ih k (by simpa using h)
theorem pdsV_set (l : List Pd) (k : Nat) (p : Pd) (h : l[k]? = some p) (a b : Int) : ((pdsV l).set (k * 3 + 1) (.int .i64 a)).set (k * 3 + 2) (.int .i64 b) = pdsV (l.set k ⟨p.seq, a, b⟩) := by
  induction l generalizing k with
  | nil => simp at h
  | cons q l ih =>
    rw [pdsV_cons]
    cases k with
    | zero => simp at h; subst h; rfl
    | succ k =>
      have ih := ih k (by simpa using h)
      show ((pdC q ++ pdsV l).set _ _).set _ _ = pdC q ++ pdsV (l.set k _)
      rw [← ih]
      have hl : (pdC q).length = 3 := rfl
      rw [List.set_append, if_neg (by rw [hl]; omega), List.set_append, if_neg (by rw [hl]; omega), hl]
      rw [show (k + 1) * 3 + 1 - 3 = k * 3 + 1 by omega, show (k + 1) * 3 + 2 - 3 = k * 3 + 2 by omega]
theorem pdsV_set2 (l : List Pd) (k : Nat) (p : Pd) (h : l[k]? = some p) (b : Int) : (pdsV l).set (k * 3 + 2) (.int .i64 b) = pdsV (l.set k ⟨p.seq, p.nth, b⟩) := by
  rw [← pdsV_set l k p h p.nth b]
  congr 1
  symm
  have h1 := pdsV_at l k p h 1 (by omega)
  obtain ⟨h2, h3⟩ := List.getElem?_eq_some_iff.1 (h1.trans (show (pdC p)[1]? = some (.int .i64 p.nth) from rfl))
  rw [← h3, List.set_getElem_self]

section
variable {e : TypeId} {w : World} {g off n cap : Nat} {l : List Pd}

/-- A delivery's cells in a row of them. -/
theorem cells_pd (h : Row w e 3 (.slice (some ⟨g, off, none⟩) n cap) n (pdsV l)) (k : Nat) (p : Pd) (hp : l[k]? = some p) (hk : k < n) :
    w.cell? ⟨g, off + k * 3, none⟩ = some (.int .i64 p.seq) ∧ w.cell? ⟨g, off + k * 3 + 1, none⟩ = some (.int .i64 p.nth) ∧ w.cell? ⟨g, off + k * 3 + 2, none⟩ = some (.int .i64 p.due) ∧
      w.frozen? ⟨g, off + k * 3 + 1, none⟩ = false ∧ w.frozen? ⟨g, off + k * 3 + 2, none⟩ = false := by
  have f : ∀ i, i < 3 → w.cell? ⟨g, off + k * 3 + i, none⟩ = (pdC p)[i]? ∧ w.frozen? ⟨g, off + k * 3 + i, none⟩ = false := fun i hi => by
    have := h.cell (k * 3 + i) (by omega)
    rw [← Nat.add_assoc] at this
    exact ⟨by rw [this.1, pdsV_at l k p hp i hi], this.2⟩
  exact ⟨(f 0 (by omega)).1, (f 1 (by omega)).1, (f 2 (by omega)).1, (f 1 (by omega)).2, (f 2 (by omega)).2⟩
end

/-- A plan's cells. -/
def takerV (t : TakerP) (vb : Value) : Value := .agg #[.string ⟨t.name.toArray⟩, .string ⟨t.filt.toArray⟩, .int .i64 t.src, .int .i64 t.start, .int .i64 t.ack, .int .i64 t.wait, vb, .int .i64 t.most, .int .i64 t.pend, .bool t.push]
def conC (t : TakerP) (vb v : Value) (c : Cn) : Array Value :=
  #[.string ⟨t.name.toArray⟩, .string ⟨t.filt.toArray⟩, .int .i64 t.src, .int .i64 t.start, .int .i64 t.ack, .int .i64 t.wait, vb, .int .i64 t.most, .int .i64 t.pend, .bool t.push, .int .i64 c.place, .int .i64 c.count, v]

/-- A consumer at K: of type tc, its deliveries of type tp. -/
structure CAt (tc tp : TypeId) (W : World) (K : Nat) (t : TakerP) (vb v : Value) (c : Cn) (w : World) : Prop where
  cell : w.heap[K]? = some (.cells (conC t vb v c) tc (0, 0))
  row : Row w tp 3 v c.l.length (pdsV c.l)
  back : Ints w vb t.back
  old : W.heap.size ≤ K
  mine : ∀ k, own v k → W.heap.size ≤ k ∧ k ≠ K
  fb : ∀ k, own vb k → k < w.heap.size ∧ k ≠ K ∧ ¬ own v k
  below : Below W.heap.size W w

/-- A consumer that has come of another one. -/
def NextC (tc tp : TypeId) (W : World) (K : Nat) (t : TakerP) (vb v : Value) (w : World) (c' : Cn) (w' : World) : Prop :=
  ∃ v', CAt tc tp W K t vb v' c' w' ∧ Heap.Touch (fun k => k = K ∨ own v k) w w' ∧ ∀ k, own v' k → own v k ∨ w.heap.size ≤ k

theorem Ints.touch {F : Nat → Prop} {w w' : World} {v : Value} {zs : List Int} (h : Ints w v zs) (ht : Heap.Touch F w w') (hn : ∀ k, own v k → ¬ F k) : Ints w' v zs := by
  obtain ⟨ao, cap, rfl, hc, hat⟩ := h
  refine ⟨ao, cap, rfl, hc, fun hne => ?_⟩
  obtain ⟨g, off, rfl, h2⟩ := hat hne
  refine ⟨g, off, rfl, fun k hk => ?_⟩
  have h3 := h2 k hk
  exact (World.cell?_of_block (a := ⟨g, off + k, none⟩) (ht.block g (World.block_lt_of_cell? w _ h3) (hn g (by simp [own, Value.ownBlock])))).trans h3

section
variable {tc tp : TypeId} {W w w1 : World} {K : Nat} {t : TakerP} {vb v v2 : Value} {c c2 : Cn}

theorem CAt.touch {F : Nat → Prop} (h : CAt tc tp W K t vb v c w) (ht : Heap.Touch F w w1) (hF : ∀ k, F k → W.heap.size ≤ k) (fK : ¬ F K) (fv : ∀ k, own v k → ¬ F k) (fb : ∀ k, own vb k → ¬ F k) : CAt tc tp W K t vb v c w1 :=
  ⟨(ht.block K (heap_lt h.cell) fK).trans h.cell, h.row.kept fun k hk hlt => ht.block k hlt (fv k hk), Ints.touch h.back ht fb, h.old, h.mine, fun k hk => ⟨Nat.lt_of_lt_of_le (h.fb k hk).1 ht.size, (h.fb k hk).2⟩, h.below.trans (ht.below h.below.size hF)⟩

theorem CAt.next (h : CAt tc tp W K t vb v c w) (hb : Below w.heap.size w w1) : CAt tc tp W K t vb v c w1 :=
  ⟨(hb.block K (heap_lt h.cell)).trans h.cell, h.row.kept fun k _ hk => hb.block k hk, h.back.below hb, h.old, h.mine, fun k hk => ⟨Nat.lt_of_lt_of_le (h.fb k hk).1 hb.size, (h.fb k hk).2⟩, h.below.trans (hb.mono h.below.size)⟩

theorem NextC.same (h : CAt tc tp W K t vb v c w) (hb : Below w.heap.size w w1) : NextC tc tp W K t vb v w c w1 := ⟨v, h.next hb, Heap.Touch.ofBelow hb, fun _ hk => .inl hk⟩

theorem touch_K (w : World) (K j : Nat) (u : Value) : Heap.Touch (fun k => k = K) w (w.setCell ⟨K, j, none⟩ u) := Heap.Touch.setCell (F := fun k => k = K) (p := ⟨K, j, none⟩) (Heap.Touch.refl _ w) (.inl rfl) _

/-- Its cells are written anew, its list lies elsewhere or is another one. -/
theorem CAt.put (h : CAt tc tp W K t vb v c w) (ht : Heap.Touch (fun k => k = K ∨ own v k) w w1) (hc : w1.heap[K]? = some (.cells (conC t vb v2 c2) tc (0, 0))) (hr : Row w1 tp 3 v2 c2.l.length (pdsV c2.l)) (ho : ∀ k, own v2 k → (own v k ∨ w.heap.size ≤ k)) (hK : ∀ k, own v2 k → k ≠ K) :
    CAt tc tp W K t vb v2 c2 w1 := by
  have hF : ∀ k, (k = K ∨ own v k) → W.heap.size ≤ k := fun k hk => by
    rcases hk with rfl | hk
    · exact h.old
    · exact (h.mine k hk).1
  refine ⟨hc, hr, Ints.touch h.back ht fun k hk hn => ?_, h.old, fun k hk => ⟨?_, hK k hk⟩, fun k hk => ⟨Nat.lt_of_lt_of_le (h.fb k hk).1 ht.size, (h.fb k hk).2.1, fun hn => ?_⟩, h.below.trans (ht.below h.below.size hF)⟩
  · rcases hn with rfl | hn
    · exact (h.fb k hk).2.1 rfl
    · exact (h.fb k hk).2.2 hn
  · rcases ho k hk with e | e
    · exact (h.mine k e).1
    · exact Nat.le_trans h.below.size e
  · rcases ho k hn with e | e
    · exact (h.fb k hk).2.2 e
    · have := (h.fb k hk).1; omega

theorem CAt.ne (h : CAt tc tp W K t vb v c w) : ∀ k, own v k → k ≠ K := fun k hk => (h.mine k hk).2

theorem NextC.after {c1 c2 : Cn} {w2 : World} (h : NextC tc tp W K t vb v w c1 w1) (hn : ∀ v1, CAt tc tp W K t vb v1 c1 w1 → NextC tc tp W K t vb v1 w1 c2 w2) : NextC tc tp W K t vb v w c2 w2 := by
  obtain ⟨v1, h1, t1, o1⟩ := h
  obtain ⟨v2, h2, t2, o2⟩ := hn v1 h1
  refine ⟨v2, h2, t1.trans t2 (fun k hk e => ?_), fun k hk => ?_⟩
  · rcases e with e | e
    · exact .inl e
    · rcases o1 k e with e | e
      · exact .inr e
      · omega
  · rcases o2 k hk with e | e
    · exact o1 k e
    · exact .inr (Nat.le_trans t1.size e)

/-- The cells as they are read. -/
theorem CAt.cells (h : CAt tc tp W K t vb v c w) :
    w.cell? ⟨K, 0, none⟩ = some (.string ⟨t.name.toArray⟩) ∧ w.cell? ⟨K, 1, none⟩ = some (.string ⟨t.filt.toArray⟩) ∧ w.cell? ⟨K, 2, none⟩ = some (.int .i64 t.src) ∧ w.cell? ⟨K, 3, none⟩ = some (.int .i64 t.start) ∧
    w.cell? ⟨K, 4, none⟩ = some (.int .i64 t.ack) ∧ w.cell? ⟨K, 5, none⟩ = some (.int .i64 t.wait) ∧ w.cell? ⟨K, 6, none⟩ = some vb ∧ w.cell? ⟨K, 7, none⟩ = some (.int .i64 t.most) ∧ w.cell? ⟨K, 8, none⟩ = some (.int .i64 t.pend) ∧
    w.cell? ⟨K, 9, none⟩ = some (.bool t.push) ∧ w.cell? ⟨K, 10, none⟩ = some (.int .i64 c.place) ∧ w.cell? ⟨K, 11, none⟩ = some (.int .i64 c.count) ∧ w.cell? ⟨K, 12, none⟩ = some v ∧ ∀ j, w.frozen? ⟨K, j, none⟩ = false := by
  have hc := h.cell
  refine ⟨?_, ?_, ?_, ?_, ?_, ?_, ?_, ?_, ?_, ?_, ?_, ?_, ?_, fun j => frozen_of_row w K j _ _ hc⟩ <;> (rw [cell_of_row w K _ _ _ _ hc]; rfl)
end

section
variable {w : World} {t : TakerP} {vb : Value}

theorem wait_c (hB : Ints w vb t.back) (hl : t.back.length ≤ 1048576) (nth : Int) : Calls Tryz.prog 67 #[takerV t vb, .int .i64 nth] w (WaitIs w (waitT t nth)) := by
  obtain ⟨ao, cap, rfl, hc, hat⟩ := hB
  unfold waitT takerV
  by_cases h0 : t.back.length = 0
  · rw [if_pos h0, h0]
    exact waitC_none _ _ _ _ _ _ _ _ _ _ _ _ _
  · rw [if_neg h0]
    obtain ⟨g, off, rfl, hz⟩ := hat (fun e => h0 (by rw [e]; rfl))
    exact waitC_some _ _ _ _ _ _ g off cap _ (backI t nth) t.back _ _ _ nth w hz rfl hl (by omega) (by unfold backI; omega)

theorem wait_r (hB : Ints w vb t.back) (hl : t.back.length ≤ 1048576) (nth : Int) : Calls Tryz.prog 70 #[takerV t vb, .int .i64 nth] w (WaitIs w (waitT t nth)) := by
  obtain ⟨ao, cap, rfl, hc, hat⟩ := hB
  unfold waitT takerV
  by_cases h0 : t.back.length = 0
  · rw [if_pos h0, h0]
    exact waitR_none _ _ _ _ _ _ _ _ _ _ _ _ _
  · rw [if_neg h0]
    obtain ⟨g, off, rfl, hz⟩ := hat (fun e => h0 (by rw [e]; rfl))
    exact waitR_some _ _ _ _ _ _ g off cap _ (backI t nth) t.back _ _ _ nth w hz rfl hl (by omega) (by unfold backI; omega)
end
end Go.Proofs.YthhgfdeegnimjaaGreatDoor.Con

namespace Go.Proofs.YthhgfdeegnimjaaGreatDoor.Con
open Subj (TakerP)
open Sto (tk seekR)
open Rec (Rc far)

/-- Where the next one is sought behind j of them. -/
def placeQ (p0 : Int) (G : List Rc) : Nat → Int
  | 0 => p0
  | j + 1 => match G[j]? with
    | some x => x.seq + 1
    | none => p0

theorem placeQ_step {p0 : Int} {G : List Rc} {j : Nat} {x : Rc} (h : G[j]? = some x) : placeQ p0 G (j + 1) = x.seq + 1 := by
  show (match G[j]? with | some x => x.seq + 1 | none => p0) = _
  rw [h]

theorem filter_behind {G : List Rc} (hr : G.Pairwise fun a b => a.seq < b.seq) {j : Nat} {x : Rc} (h : G[j]? = some x) : G.filter (fun y => decide (x.seq + 1 ≤ y.seq)) = G.drop (j + 1) := by
  obtain ⟨hj, e⟩ := List.getElem?_eq_some_iff.1 h
  have hG : G = G.take j ++ x :: G.drop (j + 1) := by rw [← e, ← List.drop_eq_getElem_cons hj, List.take_append_drop]
  conv => lhs; rw [hG]
  rw [hG, List.pairwise_append, List.pairwise_cons] at hr
  rw [List.filter_append, List.filter_cons_of_neg (by simp; omega), List.filter_eq_nil_iff.2 (fun y hy => by
    have := hr.2.2 y hy x (by simp)
    simp; omega), List.nil_append, List.filter_eq_self.2 (fun y hy => by
    have := hr.2.1.1 y hy
    simp; omega)]

theorem find_want {t : TakerP} {L G : List Rc} {p0 : Int} (hr : L.Pairwise fun a b => a.seq < b.seq) (hG : L.filter (want t p0) = G) {j : Nat} (hj : j ≤ G.length) : L.find? (want t (placeQ p0 G j)) = G[j]? := by
  rw [← List.head?_filter]
  cases j with
  | zero => rw [show placeQ p0 G 0 = p0 from rfl, hG, List.head?_eq_getElem?]
  | succ j =>
    obtain ⟨x, hx⟩ : ∃ x, G[j]? = some x := ⟨_, List.getElem?_eq_getElem (by omega)⟩
    have hgr : G.Pairwise fun a b => a.seq < b.seq := by rw [← hG]; exact hr.sublist List.filter_sublist
    have hxp : p0 ≤ x.seq := by
      have hm := List.mem_of_getElem? hx
      rw [← hG] at hm
      have := (List.mem_filter.1 hm).2
      unfold want at this
      rw [Bool.and_eq_true, decide_eq_true_eq] at this
      exact this.1
    rw [placeQ_step hx]
    have e : L.filter (want t (x.seq + 1)) = G.filter (fun y => decide (x.seq + 1 ≤ y.seq)) := by
      rw [← hG, List.filter_filter]
      refine List.filter_congr fun y _ => ?_
      unfold want
      by_cases h1 : x.seq + 1 ≤ y.seq
      · rw [decide_eq_true h1, decide_eq_true (show p0 ≤ y.seq by omega)]; simp
      · rw [decide_eq_false h1]; simp
    rw [e, filter_behind hgr hx, List.head?_drop]

theorem left_len (t : TakerP) (L : List Rc) (p : Int) : leftC t L p = (L.filter (want t p)).length := List.countP_eq_length_filter

theorem placeQ_range {p0 : Int} {G : List Rc} (h0 : 0 ≤ p0 ∧ p0 ≤ far + 1) (h : ∀ r ∈ G, 1 ≤ r.seq ∧ r.seq ≤ far) (j : Nat) : 0 ≤ placeQ p0 G j ∧ placeQ p0 G j ≤ far + 1 := by
  cases j with
  | zero => exact h0
  | succ j =>
    cases hx : G[j]? with
    | none => show 0 ≤ (match G[j]? with | some x => x.seq + 1 | none => p0) ∧ (match G[j]? with | some x => x.seq + 1 | none => p0) ≤ far + 1
              rw [hx]; exact h0
    | some x => rw [placeQ_step hx]; have := h x (List.mem_of_getElem? hx); omega

theorem seek_want {t : TakerP} {L : List Rc} {q : Int} {i : Nat} (h1 : ∀ r ∈ L.take i, r.seq < q) (h2 : ∀ r ∈ L.drop i, q ≤ r.seq) : (L.drop i).find? (tk t.filt) = L.find? (want t q) := by
  conv => rhs; rw [← List.take_append_drop i L]
  rw [List.find?_append]
  have e1 : (L.take i).find? (want t q) = none := by
    rw [List.find?_eq_none]
    intro x hx
    have := h1 x hx
    unfold want
    rw [decide_eq_false (by omega)]
    simp
  rw [e1, Option.none_or]
  have : ∀ M : List Rc, (∀ r ∈ M, q ≤ r.seq) → M.find? (tk t.filt) = M.find? (want t q) := by
    intro M
    induction M with
    | nil => intro _; rfl
    | cons a l ih =>
      intro hM
      rw [List.find?_cons, List.find?_cons, ih fun r hr => hM r (by simp [hr])]
      have : want t q a = tk t.filt a := by unfold want; rw [decide_eq_true (hM a (by simp)), Bool.true_and]
      rw [this]
  exact this _ h2
end Go.Proofs.YthhgfdeegnimjaaGreatDoor.Con

namespace Go.Proofs.YthhgfdeegnimjaaGreatDoor.Grow
open Go Go.RowKit

section
variable {P : Program} {ops : Array Oper} {md : Region.Mode}

/-- What an operation yields: something of which R holds, in a world that goes on from the one that it got. -/
def upon (P : Program) (w : World) (R : Value → World → Prop) : Result Next → Prop
  | .ok (.value u) w' => Below w.heap.size w w' ∧ R u w'
  | .ok .skip w' => Below w.heap.size w w' ∧ R undef w'
  | .ok (.enter f args) w' => w' = w ∧ Calls P f args w (fun e w'' => ∃ v, e = .returned v ∧ Below w.heap.size w w'' ∧ R v w'')
  | _ => False

def growAt (P : Program) (o : Oper) (a : Act) (w : World) (R : Value → World → Prop) : Prop := upon P w R ((execOp a.eval o).run P w)

def GY (P : Program) (ops : Array Oper) (G : World → Prop) (o : Oper) (v : Value) (a : Act) : Prop :=
  (Region.wanted o (yielded ops a.tmps) = true ∧ ∀ w, G w → growAt P o a w (fun u _ => u = v)) ∨
  (Region.wanted o (yielded ops a.tmps) = false ∧ v = undef)

theorem GY.mono {G G' : World → Prop} {o : Oper} {v : Value} {a : Act} (h : GY P ops G o v a) (hG : ∀ w, G' w → G w) : GY P ops G' o v a := by
  rcases h with ⟨h1, h2⟩ | h
  · exact .inl ⟨h1, fun w hw => h2 w (hG w hw)⟩
  · exact .inr h

/-! ### An order of one's own -/

/-! ### The class as a variable of a kind of its own: the walk's simp goes through it -/

structure Over (w : World) where
  val : World
  below : Below w.heap.size w val

@[go_sem] theorem below_self (w : World) : Below w.heap.size w w = True := by simp [Below.refl]

instance (w : World) : Nonempty (Over w) := ⟨⟨w, Below.refl _ _⟩⟩

variable {L : (World → Prop) → Act → Prop} {G : World → Prop} {a : Act} {rest : List (Nat × Bool)}

end
end Go.Proofs.YthhgfdeegnimjaaGreatDoor.Grow
