/- Parts of the proof, joined: Texts cut at whatever byte: strings.Split at one byte and rillref.Pieces answer the same pieces.; Plans in plain Lean: what is right, how a text of a plan is read. No program here.; How a plan is printed: in plain Lean.; What is printed of a plan is read as it was, and the other way round: in plain Lean.; What is printed of a right plan is read as it was: in plain Lean.; A stream in plain Lean: what Publish does of its messages. No program here.; A vault in memory: its disk, its log, its store, each of blocks of its own. -/
import Derived.Test.YtbgchhgdlceceaaGreatDoorStrmBaseM24
import Derived.Lib.Join
import Derived.Lib.ItoaNum
namespace Go.Proofs.YtbgchhgdlceceaaGreatDoor.Subj
open Go.RowKit

/-- A text's pieces between bytes c. -/
def piecesC (c : UInt8) : List UInt8 → List Tok
  | [] => [[]]
  | b :: l => if b = c then [] :: piecesC c l else
    match piecesC c l with
    | p :: ps => (b :: p) :: ps
    | [] => [[b]]

section
variable (c : UInt8)

end
end Go.Proofs.YtbgchhgdlceceaaGreatDoor.Subj

namespace Go.Proofs.YtbgchhgdlceceaaGreatDoor.Subj

/-- A byte of a name. -/
def nameByte (b : UInt8) : Bool := (decide (97 ≤ b.toNat) && decide (b.toNat ≤ 122)) || (decide (48 ≤ b.toNat) && decide (b.toNat ≤ 57)) || b.toNat == 45
def nameOk (t : List UInt8) : Bool := t.all nameByte && (decide (1 ≤ t.length) && decide (t.length ≤ 16))

/-- The first error of filters, 0: none. -/
def firstErr : List Tok → Nat
  | [] => 0
  | f :: r => if err true f = 0 then firstErr r else err true f

/-- Do two overlap? -/
def over (f g : Tok) : Bool := overlap (pieces f) (pieces g)
def clash (fs : List Tok) : Bool := (List.range fs.length).any fun b => (List.range b).any fun a => over (fs.getD b []) (fs.getD a [])

theorem clash_true {fs : List Tok} {a b : Nat} (hab : a < b) (hb : b < fs.length) (h : over (fs.getD b []) (fs.getD a []) = true) : clash fs = true := by
  unfold clash
  rw [List.any_eq_true]
  refine ⟨b, by simpa using hb, ?_⟩
  rw [List.any_eq_true]
  exact ⟨a, by simpa using hab, h⟩

theorem clash_false {fs : List Tok} (h : ∀ b a, b < fs.length → a < b → over (fs.getD b []) (fs.getD a []) = false) : clash fs = false := by
  cases hc : clash fs with
  | false => rfl
  | true =>
    unfold clash at hc
    rw [List.any_eq_true] at hc
    obtain ⟨b, hb, h2⟩ := hc
    rw [List.any_eq_true] at h2
    obtain ⟨a, ha, h3⟩ := h2
    rw [h b a (by simpa using hb) (by simpa using ha)] at h3
    cases h3

def filtersErr (fs : List Tok) : Nat :=
  if 4 < fs.length then 2 else if fs.length = 0 then 1 else if firstErr fs ≠ 0 then firstErr fs else if clash fs then 10 else 0

theorem firstErr_zero {fs : List Tok} : firstErr fs = 0 ↔ ∀ i, i < fs.length → err true (fs.getD i []) = 0 := by
  induction fs with
  | nil => simp [firstErr]
  | cons f r ih =>
    unfold firstErr
    constructor
    · intro h i hi
      by_cases h0 : err true f = 0
      · rw [if_pos h0] at h
        cases i with
        | zero => exact h0
        | succ i => simpa using ih.1 h i (by simpa using hi)
      · rw [if_neg h0] at h
        exact absurd h h0
    · intro h
      have h0 : err true f = 0 := h 0 (by simp)
      rw [if_pos h0]
      exact ih.2 fun i hi => by simpa using h (i + 1) (by simpa using hi)

theorem firstErr_at {fs : List Tok} {k : Nat} (hk : k < fs.length) (h : ∀ i, i < k → err true (fs.getD i []) = 0) (he : err true (fs.getD k []) ≠ 0) : firstErr fs = err true (fs.getD k []) := by
  induction fs generalizing k with
  | nil => simp at hk
  | cons f r ih =>
    unfold firstErr
    cases k with
    | zero => rw [if_neg (by simpa using he)]; rfl
    | succ k =>
      rw [if_pos (by simpa using h 0 (by omega))]
      simpa using ih (by simpa using hk) (fun i hi => by simpa using h (i + 1) (by omega)) (by simpa using he)

/-- The words of a plan's numbers, and the most that each may be. -/
def words : List (List UInt8) := [[109, 115, 103, 115], [98, 121, 116, 101, 115], [97, 103, 101], [112, 101, 114], [115, 105, 122, 101], [100, 105, 115, 99, 97, 114, 100], [107, 101, 101, 112], [119, 105, 110, 100, 111, 119]]
def mosts : List Int := [200, 65536, 100000, 200, 256, 1, 2, 100000]

def inAll (vs : List Int) : Bool := (List.range 8).all fun k => decide (0 ≤ vs.getD k 0) && decide (vs.getD k 0 ≤ mosts.getD k 0)

theorem inAll_true {vs : List Int} (h : ∀ k, k < 8 → 0 ≤ vs.getD k 0 ∧ vs.getD k 0 ≤ mosts.getD k 0) : inAll vs = true := by
  unfold inAll
  rw [List.all_eq_true]
  intro k hk
  have := h k (by simpa using hk)
  rw [Bool.and_eq_true, decide_eq_true_eq, decide_eq_true_eq]
  exact this

theorem inAll_false {vs : List Int} {k : Nat} (hk : k < 8) (h : vs.getD k 0 < 0 ∨ mosts.getD k 0 < vs.getD k 0) : inAll vs = false := by
  unfold inAll
  rw [List.all_eq_false]
  refine ⟨k, by simpa using hk, ?_⟩
  rw [Bool.and_eq_true, decide_eq_true_eq, decide_eq_true_eq]
  omega

/-- What is wrong with a plan. -/
def planErr (name : List UInt8) (fs : List Tok) (vs : List Int) : Nat :=
  if nameOk name then if filtersErr fs = 0 then if inAll vs then 0 else 1 else filtersErr fs else 3

/-- A number's digits, read from the left. -/
def isDigit (b : UInt8) : Bool := decide (48 ≤ b.toNat) && decide (b.toNat ≤ 57)
def digitsVal (l : List UInt8) : Nat := l.foldl (fun n b => 10 * n + (b.toNat - 48)) 0
def numberOf (l : List UInt8) : Int :=
  if l.length = 0 ∨ 9 < l.length ∨ (l.head? = some 48 ∧ 1 < l.length) ∨ l.all isDigit = false then -1 else digitsVal l

theorem digitsVal_snoc (l : List UInt8) (b : UInt8) : digitsVal (l ++ [b]) = 10 * digitsVal l + (b.toNat - 48) := by
  unfold digitsVal
  rw [List.foldl_append]
  rfl

theorem digitsVal_step {l : List UInt8} {b : UInt8} {k : Nat} (h : digitsVal l < 10 ^ k) (hb : isDigit b = true) : digitsVal (l ++ [b]) < 10 ^ (k + 1) := by
  rw [digitsVal_snoc, Nat.pow_succ]
  unfold isDigit at hb
  rw [Bool.and_eq_true, decide_eq_true_eq, decide_eq_true_eq] at hb
  omega

structure PlanP where
  name : List UInt8
  fs : List Tok
  vs : List Int

end Go.Proofs.YtbgchhgdlceceaaGreatDoor.Subj

namespace Go.Proofs.YtbgchhgdlceceaaGreatDoor.Subj

end Go.Proofs.YtbgchhgdlceceaaGreatDoor.Subj

namespace Go.Proofs.YtbgchhgdlceceaaGreatDoor.Subj

/-! ### Pieces -/
section
variable {c : UInt8}

end

/-! ### Numbers -/
/-! ### The words -/
/-! ### The other way -/
end Go.Proofs.YtbgchhgdlceceaaGreatDoor.Subj

namespace Go.Proofs.YtbgchhgdlceceaaGreatDoor.Subj

theorem plan_facts {n : List UInt8} {fs : List Tok} {vs : List Int} (h : planErr n fs vs = 0) : nameOk n = true ∧ 1 ≤ fs.length ∧ fs.length ≤ 4 ∧ (∀ f ∈ fs, err true f = 0) ∧ inAll vs = true := by
  unfold planErr at h
  split at h
  · rename_i hn
    split at h
    · rename_i hf
      split at h
      · rename_i hi
        unfold filtersErr at hf
        split at hf
        · cases hf
        · split at hf
          · cases hf
          · split at hf
            · contradiction
            · rename_i h1
              refine ⟨hn, by omega, by omega, fun f hm => ?_, hi⟩
              have h2 : firstErr fs = 0 := by
                by_cases e : firstErr fs = 0
                · exact e
                · exact absurd e h1
              obtain ⟨i, hi', rfl⟩ := List.getElem_of_mem hm
              have := firstErr_zero.1 h2 i hi'
              simpa [List.getD, hi'] using this
      · cases h
    · contradiction
  · cases h

end Go.Proofs.YtbgchhgdlceceaaGreatDoor.Subj

namespace Go.Proofs.YtbgchhgdlceceaaGreatDoor.Strm
open Dsk Log
open Vlt (Vt doV Whole good_log try_err)
open Rec (Rc recErr far codedL)
open Sto (tryD after leftS lastS tk bytesR cntR dist Right sizeR hasSeq cnt_append bytes_append)
open Subj (Tok takes pieces err planErr err_wild err_zero takes_plain pieces_inj inAll pieces_ne)

/-- A stream's plan. -/
structure Pl where
  fs : List Tok
  msgs : Int
  bytes : Int
  age : Int
  per : Int
  size : Int
  disc : Int
  keep : Int
  win : Int

def Pl.nums (p : Pl) : List Int := [p.msgs, p.bytes, p.age, p.per, p.size, p.disc, p.keep, p.win]

/-- What is published. -/
structure Po where
  subj : Tok
  id : Tok
  head : Tok
  data : Tok
  exp : Int
  roll : Int

/-- An id that is known. -/
structure Kn where
  id : Tok
  time : Int
  seq : Int

structure Sm where
  v : Vt
  ids : List Kn

def sizeP (x : Po) : Nat := x.subj.length + x.head.length + x.data.length
def eraR (q t : Int) : Rc := ⟨2, q, t, [], [], []⟩
def purR (q t : Int) (f : Tok) : Rc := ⟨3, q, t, f, [], []⟩
def msgR (q t : Int) (x : Po) : Rc := ⟨1, q, t, x.subj, x.head, x.data⟩

def takesP (fs : List Tok) (s : Tok) : Bool := fs.any fun f => takes (pieces f) (pieces s)

def checkP (p : Pl) (now : Int) (x : Po) : Nat :=
  if now < 0 ∨ far < now ∨ x.exp < -1 ∨ x.roll < 0 ∨ 2 < x.roll then 1
  else if err false x.subj ≠ 0 then err false x.subj
  else if takesP p.fs x.subj = false then 10
  else if 256 < x.head.length + x.data.length ∨ (0 < p.size ∧ p.size < ((x.head.length + x.data.length : Nat) : Int)) ∨ 16 < x.id.length then 2
  else 0

def hitP (p : Pl) (now : Int) (id : Tok) (k : Kn) : Bool := k.id == id && decide (now - p.win ≤ k.time)

def knownP (p : Pl) (ids : List Kn) (now : Int) (id : Tok) : Int :=
  if id = [] ∨ p.win = 0 then 0 else match ids.reverse.find? (hitP p now id) with
    | none => 0
    | some k => k.seq

def crowdedP (p : Pl) (x : Po) (s : Vt) : Bool := decide (0 < p.per) && decide (p.per ≤ (cntR s.L x.subj : Nat))
def fullP (p : Pl) (x : Po) (s : Vt) : Bool := (decide (0 < p.msgs) && decide (p.msgs ≤ (s.L.length : Nat))) || (decide (0 < p.bytes) && decide (p.bytes < ((bytesR s.L + sizeP x : Nat) : Int)))

def eraseP (room size now : Int) (f : Tok) (s : Vt) : Vt × Nat := match s.L.find? (tk f) with
  | none => (s, 4)
  | some r => doV room size s (eraR r.seq now)

/-- Erased one after another, as long as there is too much. -/
def thin (t : Vt → Bool) (e : Vt → Vt × Nat) : Nat → Vt → Vt × Nat
  | 0, s => (s, 0)
  | n + 1, s => if t s then (if (e s).2 ≠ 0 then e s else thin t e n (e s).1) else (s, 0)

def roomP (p : Pl) (room size now : Int) (x : Po) (s : Vt) : Vt × Nat :=
  if 0 < p.bytes ∧ p.bytes < (sizeP x : Nat) then (s, 8)
  else if p.disc = 1 then (if crowdedP p x s ∨ fullP p x s then (s, 8) else (s, 0))
  else if (thin (crowdedP p x) (eraseP room size now x.subj) 201 s).2 ≠ 0 then thin (crowdedP p x) (eraseP room size now x.subj) 201 s
  else thin (fullP p x) (eraseP room size now [62]) 201 (thin (crowdedP p x) (eraseP room size now x.subj) 201 s).1

def idsP (ids : List Kn) (now q : Int) (x : Po) : List Kn := if x.id = [] then ids else ids ++ [⟨x.id, now, q⟩]
def rollF (x : Po) : Tok := if x.roll = 2 then [62] else x.subj

/-- What a post answers. -/
structure An where
  n : Int
  again : Bool
  er : Nat

/-- Behind the message: what rolls up. -/
def rollP (room size now q : Int) (x : Po) (s : Sm) : Sm × An :=
  if x.roll ≤ 0 then (s, ⟨q, false, 0⟩)
  else if (doV room size s.v (purR q now (rollF x))).2 ≠ 0 then (⟨(doV room size s.v (purR q now (rollF x))).1, s.ids⟩, ⟨0, false, (doV room size s.v (purR q now (rollF x))).2⟩)
  else (⟨(doV room size s.v (purR q now (rollF x))).1, s.ids⟩, ⟨q, false, 0⟩)

/-- Behind the room: the message is written. -/
def writeP (room size now q : Int) (x : Po) (s : Sm) : Sm × An :=
  if (doV room size s.v (msgR q now x)).2 ≠ 0 then (⟨(doV room size s.v (msgR q now x)).1, s.ids⟩, ⟨0, false, (doV room size s.v (msgR q now x)).2⟩)
  else rollP room size now q x ⟨(doV room size s.v (msgR q now x)).1, idsP s.ids now q x⟩

def pubP (p : Pl) (room size now : Int) (x : Po) (s : Sm) : Sm × An :=
  if checkP p now x ≠ 0 then (s, ⟨0, false, checkP p now x⟩)
  else if 0 < knownP p s.ids now x.id then (s, ⟨knownP p s.ids now x.id, true, 0⟩)
  else if 0 ≤ x.exp ∧ x.exp ≠ s.v.last then (s, ⟨0, false, 9⟩)
  else if (roomP p room size now x s.v).2 ≠ 0 then (⟨(roomP p room size now x s.v).1, s.ids⟩, ⟨0, false, (roomP p room size now x s.v).2⟩)
  else writeP room size now (s.v.last + 1) x ⟨(roomP p room size now x s.v).1, s.ids⟩

/-! ### what is right of a post -/

theorem check_facts {p : Pl} {now : Int} {x : Po} (h : checkP p now x = 0) :
    (0 ≤ now ∧ now ≤ far ∧ -1 ≤ x.exp ∧ 0 ≤ x.roll ∧ x.roll ≤ 2) ∧ err false x.subj = 0 ∧ takesP p.fs x.subj = true ∧ x.head.length + x.data.length ≤ 256 ∧ x.id.length ≤ 16 := by
  unfold checkP at h
  split at h
  · cases h
  · rename_i h1
    split at h
    · rename_i h2; exact absurd h h2
    · rename_i h2
      split at h
      · cases h
      · rename_i h3
        split at h
        · cases h
        · rename_i h4
          refine ⟨by omega, Classical.not_not.1 h2, by simpa using h3, by omega, by omega⟩

theorem takes_subj {s t : Tok} (h : err false s = 0) : takes (pieces s) (pieces t) = true ↔ s = t := by
  have := takes_plain (pieces s) (pieces t) ((err_zero false s).1 h).2
  simp [this]
  exact ⟨pieces_inj, fun e => by rw [e]⟩

theorem tk_subj {s : Tok} (h : err false s = 0) (r : Rc) : tk s r = (r.subj == s) := by
  unfold tk
  rw [Bool.eq_iff_iff, takes_subj h, beq_iff_eq]
  exact eq_comm

theorem tk_tail (r : Rc) : tk [62] r = true := by
  unfold tk
  rw [show pieces [62] = [[62]] by decide]
  cases hp : pieces r.subj with
  | nil => exact absurd hp (pieces_ne _)
  | cons a b => simp [takes]

theorem rfind_hit {α : Type} {l : List α} {f : α → Bool} {k : Nat} {q : α} (hk : l[k]? = some q) (hf : f q = true) (hb : ∀ x ∈ l.drop (k + 1), f x = false) : l.reverse.find? f = some q := by
  obtain ⟨hlt, e⟩ := List.getElem?_eq_some_iff.1 hk
  have hl : l = l.take k ++ q :: l.drop (k + 1) := by rw [← e, ← List.drop_eq_getElem_cons hlt, List.take_append_drop]
  have hn : (l.drop (k + 1)).reverse.find? f = none := by
    rw [List.find?_eq_none]
    intro x hx
    rw [hb x (List.mem_reverse.1 hx)]; simp
  rw [hl, List.reverse_append, List.reverse_cons, List.append_assoc, List.find?_append, hn]
  simp [hf]

theorem rfind_none {α : Type} {l : List α} {f : α → Bool} (hb : ∀ x ∈ l, f x = false) : l.reverse.find? f = none := by
  rw [List.find?_eq_none]
  intro x hx
  rw [hb x (List.mem_reverse.1 hx)]; simp

/-! ### one record -/

theorem do_cases {room size : Int} {s : Vt} {r : Rc} : ((doV room size s r).2 ≠ 0 ∧ (doV room size s r).1.L = s.L ∧ (doV room size s r).1.last = s.last) ∨
    ((doV room size s r).2 = 0 ∧ tryD s.L s.last r = 0 ∧ (doV room size s r).1.L = leftS s.L r ∧ (doV room size s r).1.last = lastS s.last r) := by
  unfold doV
  by_cases ht : tryD s.L s.last r ≠ 0
  · rw [if_pos ht]; exact .inl ⟨ht, rfl, rfl⟩
  · rw [if_neg ht]
    have h0 := Classical.not_not.1 ht
    by_cases hl : (logD room size s.A r).2 ≠ 0
    · rw [if_pos hl]; exact .inl ⟨hl, rfl, rfl⟩
    · rw [if_neg hl]
      have ha : after s.L s.last r = (leftS s.L r, lastS s.last r) := by unfold after; rw [if_pos h0]
      rw [ha]
      exact .inr ⟨rfl, h0, rfl, rfl⟩

/-- What an erasing leaves. -/
theorem erase_step (room size now : Int) (f : Tok) (s : Vt) : ((eraseP room size now f s).2 ≠ 0 ∧ (eraseP room size now f s).1.L = s.L ∧ (eraseP room size now f s).1.last = s.last) ∨
    ((eraseP room size now f s).2 = 0 ∧ (eraseP room size now f s).1.L.Sublist s.L ∧ (eraseP room size now f s).1.L.length < s.L.length ∧ (eraseP room size now f s).1.last = s.last) := by
  unfold eraseP
  cases hf : s.L.find? (tk f) with
  | none => exact .inl ⟨by simp, rfl, rfl⟩
  | some r =>
    have hr := List.mem_of_find?_eq_some hf
    rcases do_cases (room := room) (size := size) (s := s) (r := eraR r.seq now) with h | ⟨h1, _, h3, h4⟩
    · exact .inl h
    · refine .inr ⟨h1, ?_, ?_, h4⟩
      · show (doV room size s (eraR r.seq now)).1.L.Sublist s.L
        rw [h3]; exact List.filter_sublist
      · show (doV room size s (eraR r.seq now)).1.L.length < s.L.length
        rw [h3]
        show (s.L.filter fun x => x.seq != r.seq).length < s.L.length
        exact List.length_filter_lt_length_iff_exists.2 ⟨r, hr, by simp⟩

theorem thin_facts {t : Vt → Bool} {e : Vt → Vt × Nat} (he : ∀ s, ((e s).2 ≠ 0 ∧ (e s).1.L = s.L ∧ (e s).1.last = s.last) ∨ ((e s).2 = 0 ∧ (e s).1.L.Sublist s.L ∧ (e s).1.L.length < s.L.length ∧ (e s).1.last = s.last)) :
    ∀ (n : Nat) (s : Vt), s.L.length < n → (thin t e n s).1.L.Sublist s.L ∧ (thin t e n s).1.last = s.last ∧ ((thin t e n s).2 = 0 → t (thin t e n s).1 = false)
  | 0, s, h => by omega
  | n + 1, s, h => by
    unfold thin
    by_cases ht : t s = true
    · rw [if_pos ht]
      rcases he s with ⟨h1, h2, h3⟩ | ⟨h1, h2, h3, h4⟩
      · rw [if_pos h1]
        exact ⟨by rw [h2]; exact List.Sublist.refl _, h3, fun e => absurd e h1⟩
      · rw [if_neg (by omega)]
        obtain ⟨i1, i2, i3⟩ := thin_facts he n (e s).1 (by omega)
        exact ⟨i1.trans h2, i2.trans h4, i3⟩
    · rw [if_neg ht]
      exact ⟨List.Sublist.refl _, rfl, fun _ => by simpa using ht⟩

/-- Room was made: what it is then. -/
theorem room_facts {p : Pl} {room size now : Int} {x : Po} {s : Vt} (hl : s.L.length ≤ 200) :
    (roomP p room size now x s).1.L.Sublist s.L ∧ (roomP p room size now x s).1.last = s.last ∧ ((roomP p room size now x s).2 = 0 → crowdedP p x (roomP p room size now x s).1 = false ∧ fullP p x (roomP p room size now x s).1 = false) ∧
      (p.disc = 1 → (roomP p room size now x s).1 = s) := by
  unfold roomP
  split
  · exact ⟨List.Sublist.refl _, rfl, fun e => by simp at e, fun _ => rfl⟩
  · split
    · split
      · exact ⟨List.Sublist.refl _, rfl, fun e => by simp at e, fun _ => rfl⟩
      · rename_i h
        refine ⟨List.Sublist.refl _, rfl, fun _ => ⟨?_, ?_⟩, fun _ => rfl⟩
        · cases hc : crowdedP p x s with
          | false => rfl
          | true => exact absurd (.inl hc) h
        · cases hc : fullP p x s with
          | false => rfl
          | true => exact absurd (.inr hc) h
    · rename_i hd
      obtain ⟨a1, a2, a3⟩ := thin_facts (t := crowdedP p x) (erase_step room size now x.subj) 201 s (by omega)
      split
      · rename_i h
        exact ⟨a1, a2, fun e => absurd e h, fun e => absurd e hd⟩
      · rename_i h
        have h := Classical.not_not.1 h
        generalize thin (crowdedP p x) (eraseP room size now x.subj) 201 s = a at *
        obtain ⟨b1, b2, b3⟩ := thin_facts (t := fullP p x) (erase_step room size now [62]) 201 a.1 (by have := a1.length_le; omega)
        generalize thin (fullP p x) (eraseP room size now [62]) 201 a.1 = b at *
        refine ⟨b1.trans a1, b2.trans a2, fun e => ⟨?_, b3 e⟩, fun e => absurd e hd⟩
        have h1 := a3 h
        unfold crowdedP at h1 ⊢
        rw [Bool.and_eq_false_iff] at h1 ⊢
        rcases h1 with h1 | h1
        · exact .inl h1
        · refine .inr ?_
          rw [decide_eq_false_iff_not] at h1 ⊢
          have : cntR b.1.L x.subj ≤ cntR a.1.L x.subj := b1.countP_le
          omega

/-! ### bounds -/

theorem bytes_sub {A B : List Rc} (h : A.Sublist B) : bytesR A ≤ bytesR B := by
  unfold bytesR
  induction h with
  | slnil => exact Nat.le_refl _
  | cons a h ih => simp only [List.map_cons, List.sum_cons]; omega
  | cons_cons a h ih => simp only [List.map_cons, List.sum_cons]; omega

structure Bd (p : Pl) (L : List Rc) : Prop where
  msgs : 0 < p.msgs → (L.length : Int) ≤ p.msgs
  bytes : 0 < p.bytes → (bytesR L : Int) ≤ p.bytes
  per : 0 < p.per → ∀ t, (cntR L t : Int) ≤ p.per

theorem Bd.sub {p : Pl} {A B : List Rc} (h : Bd p B) (hs : A.Sublist B) : Bd p A :=
  ⟨fun e => by have := h.msgs e; have := hs.length_le; omega, fun e => by have := h.bytes e; have := bytes_sub hs; omega, fun e t => by have := h.per e t; have : cntR A t ≤ cntR B t := hs.countP_le; omega⟩

theorem Bd.nil (p : Pl) : Bd p [] := ⟨fun e => by simp; omega, fun e => by simp [bytesR]; omega, fun e t => by simp [cntR]; omega⟩

theorem leftS_kind {L : List Rc} {r : Rc} (h : r.kind ≠ 1) : (leftS L r).Sublist L := by
  unfold leftS
  rw [if_neg h]
  split
  · exact List.filter_sublist
  · split
    · exact List.filter_sublist
    · exact List.Sublist.refl _

theorem write_left (L : List Rc) (q now : Int) (x : Po) : leftS L (msgR q now x) = L ++ [msgR q now x] := by
  exact if_pos (show (msgR q now x).kind = 1 from rfl)

theorem Bd.write {p : Pl} {L : List Rc} {s : Vt} (h : Bd p L) (q now : Int) (x : Po) (hL : s.L = L) (hc : crowdedP p x s = false) (hf : fullP p x s = false) : Bd p (L ++ [msgR q now x]) := by
  subst hL
  unfold fullP at hf
  simp only [Bool.or_eq_false_iff, Bool.and_eq_false_iff, decide_eq_false_iff_not] at hf
  unfold crowdedP at hc
  simp only [Bool.and_eq_false_iff, decide_eq_false_iff_not] at hc
  refine ⟨fun e => ?_, fun e => ?_, fun e t => ?_⟩
  · rw [List.length_append, List.length_singleton]; omega
  · rw [bytes_append]
    have : sizeR (msgR q now x) = sizeP x := rfl
    omega
  · rw [cnt_append]
    have h1 := h.per e t
    split
    · rename_i e2
      have e2 : x.subj = t := e2
      rw [e2] at hc
      omega
    · omega

/-- Behind a post the bounds hold. -/
theorem pub_bounds {p : Pl} {room size now : Int} {x : Po} {s : Sm} (hl : s.v.L.length ≤ 200) (h : Bd p s.v.L) : Bd p (pubP p room size now x s).1.v.L := by
  unfold pubP
  split
  · exact h
  · split
    · exact h
    · split
      · exact h
      · obtain ⟨a1, a2, a3, _⟩ := room_facts (p := p) (room := room) (size := size) (now := now) (x := x) hl
        split
        · exact h.sub a1
        · rename_i h0
          obtain ⟨c1, c2⟩ := a3 (Classical.not_not.1 h0)
          generalize roomP p room size now x s.v = a at *
          unfold writeP
          rcases do_cases (room := room) (size := size) (s := a.1) (r := msgR (s.v.last + 1) now x) with ⟨d1, d2, _⟩ | ⟨d1, _, d2, _⟩
          · simp only
            rw [if_pos d1]
            show Bd p (doV room size a.1 (msgR (s.v.last + 1) now x)).1.L
            rw [d2]; exact h.sub a1
          · simp only
            rw [if_neg (by omega)]
            have hb : Bd p (doV room size a.1 (msgR (s.v.last + 1) now x)).1.L := by
              rw [d2, write_left]
              exact (h.sub a1).write _ _ _ rfl c1 c2
            generalize doV room size a.1 (msgR (s.v.last + 1) now x) = b at *
            unfold rollP
            split
            · exact hb
            · have hr : Bd p (doV room size b.1 (purR (s.v.last + 1) now (rollF x))).1.L := by
                rcases do_cases (room := room) (size := size) (s := b.1) (r := purR (s.v.last + 1) now (rollF x)) with ⟨_, d2, _⟩ | ⟨_, _, d2, _⟩
                · rw [d2]; exact hb
                · rw [d2]; exact hb.sub (leftS_kind (by show (3 : Int) ≠ 1; decide))
              simp only
              split
              · exact hr
              · exact hr

/-- What is told: an error, a number that is known, or the next one. -/
theorem pub_told (p : Pl) (room size now : Int) (x : Po) (s : Sm) : ((pubP p room size now x s).2.er ≠ 0 ∧ (pubP p room size now x s).2.n = 0 ∧ (pubP p room size now x s).2.again = false) ∨
    ((pubP p room size now x s).2.er = 0 ∧ (pubP p room size now x s).2.again = true ∧ (pubP p room size now x s).1 = s ∧ checkP p now x = 0) ∨
    ((pubP p room size now x s).2.er = 0 ∧ (pubP p room size now x s).2.again = false ∧ (pubP p room size now x s).2.n = s.v.last + 1 ∧ checkP p now x = 0) := by
  unfold pubP
  split
  · rename_i h; exact .inl ⟨h, rfl, rfl⟩
  · rename_i h
    have h := Classical.not_not.1 h
    split
    · exact .inr (.inl ⟨rfl, rfl, rfl, h⟩)
    · split
      · exact .inl ⟨by simp, rfl, rfl⟩
      · split
        · rename_i h2; exact .inl ⟨h2, rfl, rfl⟩
        · unfold writeP
          split
          · rename_i h2; exact .inl ⟨h2, rfl, rfl⟩
          · unfold rollP
            split
            · exact .inr (.inr ⟨rfl, rfl, rfl, h⟩)
            · split
              · rename_i h2; exact .inl ⟨h2, rfl, rfl⟩
              · exact .inr (.inr ⟨rfl, rfl, rfl, h⟩)
end Go.Proofs.YtbgchhgdlceceaaGreatDoor.Strm

namespace Go.Proofs.YtbgchhgdlceceaaGreatDoor.Vlt
open Go.RowKit Heap Dsk Log
open Subj (ML)
open Rec (Rc recErr recA rcOf codedL ml_alloc)
open Sto (StoreAt NextSt tryD after runS RecsAt Fits parts sixC recV recsV fourS)

def ptrV (b : Nat) : Value := .pointer (some ⟨b, 0, none⟩)

structure VParts (W : World) (F1 F2 : Nat → Prop) (V D G S B : Nat) (room size : Int) (s : Vt) (w : World) : Prop where
  cells : w.heap[V]? = some (.cells #[.pointer (some ⟨D, 0, none⟩), .pointer (some ⟨G, 0, none⟩), .pointer (some ⟨S, 0, none⟩), .int .i64 size] 250 (0, 0))
  disk : DiskAt W F1 D room s.A w
  log : LogAt D G size w
  store : StoreAt W F2 S B s.L s.last w
  apart : ∀ k, F1 k → ¬ F2 k
  lt1 : ∀ k, F1 k → k < w.heap.size
  g1 : ¬ F1 G
  g2 : ¬ F2 G
  v1 : ¬ F1 V
  v2 : ¬ F2 V
  oldG : W.heap.size ≤ G
  oldV : W.heap.size ≤ V
  sz : 1 ≤ size ∧ size ≤ 4096

/-- The vault at V, of the blocks F. -/
structure VAt (W : World) (F : Nat → Prop) (V D G S B : Nat) (room size : Int) (s : Vt) (w : World) : Prop where
  ex : ∃ F1 F2, VParts W F1 F2 V D G S B room size s w ∧ ∀ k, F1 k ∨ F2 k ∨ k = G ∨ k = V → F k
  newF : ∀ k, F k → W.heap.size ≤ k
  bF : ∀ k, F k → k < w.heap.size

/-- What a call at a vault leaves. -/
def NextVA (W : World) (F : Nat → Prop) (V D G S B : Nat) (room size : Int) (w : World) (s' : Vt) (w' : World) : Prop :=
  (∃ F', VAt W F' V D G S B room size s' w' ∧ ∀ k, F' k → F k ∨ w.heap.size ≤ k) ∧ Heap.Touch F w w'

section
variable {W w w1 w2 : World} {F F1 F2 : Nat → Prop} {V D G S B B' : Nat} {room size : Int} {s s1 s2 : Vt}

theorem VParts.ltG (h : VParts W F1 F2 V D G S B room size s w) : G < w.heap.size := heap_lt (show w.heap[G]? = _ from h.log)
theorem VParts.ltV (h : VParts W F1 F2 V D G S B room size s w) : V < w.heap.size := heap_lt h.cells
theorem VParts.low (h : VParts W F1 F2 V D G S B room size s w) (hb : Below w.heap.size w w1) : VParts W F1 F2 V D G S B room size s w1 :=
  { h with
    cells := (hb.block V h.ltV).trans h.cells
    disk := DiskAt.low h.disk hb
    log := h.log.below hb
    store := h.store.next hb
    lt1 := fun k hk => Nat.lt_of_lt_of_le (h.lt1 k hk) hb.size }

theorem VParts.more (h : VParts W F1 F2 V D G S B room size s w) (hB : B ≤ B') : VParts W F1 F2 V D G S B' room size s w := { h with store := h.store.mono hB }

/-- The disk is turned. -/
theorem VParts.dsk {A' : List FileP} (h : VParts W F1 F2 V D G S B room size s w) (hd : DiskAt W (Grow F1 w) D room A' w1) (ht : Heap.Touch F1 w w1) :
    VParts W (fun k => Grow F1 w k ∧ k < w1.heap.size) F2 V D G S B room size ⟨A', s.L, s.last⟩ w1 where
  cells := (ht.block V h.ltV h.v1).trans h.cells
  disk := hd.shrink
  log := h.log.touch ht h.g1
  store := h.store.kept hd.below ht.size fun k hk hlt => ht.block k hlt fun e => h.apart k e hk
  apart := fun k hk h2 => by
    rcases hk.1 with e | e
    · exact h.apart k e h2
    · have := h.store.bF k h2; omega
  lt1 := fun k hk => hk.2
  g1 := fun e => by
    rcases e.1 with e | e
    · exact h.g1 e
    · have := h.ltG; omega
  g2 := h.g2
  v1 := fun e => by
    rcases e.1 with e | e
    · exact h.v1 e
    · have := h.ltV; omega
  v2 := h.v2
  oldG := h.oldG
  oldV := h.oldV
  sz := h.sz

/-- The store is turned. -/
theorem VParts.sto {L' : List Rc} {last' : Int} (h : VParts W F1 F2 V D G S B room size s w) (hn : NextSt W F2 S B' w L' last' w1) :
    ∃ F2', VParts W F1 F2' V D G S B' room size ⟨s.A, L', last'⟩ w1 ∧ ∀ k, F2' k → F2 k ∨ w.heap.size ≤ k := by
  obtain ⟨⟨F2', hS, hF⟩, ht⟩ := hn
  refine ⟨F2', ⟨(ht.block V h.ltV h.v2).trans h.cells, h.disk.kept (ht.below h.store.below.size h.store.newF) fun k hk hlt => ht.block k hlt (h.apart k hk), h.log.touch ht h.g2, hS, fun k hk h2 => ?_, fun k hk => Nat.lt_of_lt_of_le (h.lt1 k hk) ht.size, h.g1, fun e => ?_, h.v1, fun e => ?_, h.oldG, h.oldV, h.sz⟩, hF⟩
  · rcases hF k h2 with e | e
    · exact h.apart k hk e
    · have := h.lt1 k hk; omega
  · rcases hF G e with e | e
    · exact h.g2 e
    · have := h.ltG; omega
  · rcases hF V e with e | e
    · exact h.v2 e
    · have := h.ltV; omega

theorem VAt.below (h : VAt W F V D G S B room size s w) : Below W.heap.size W w := by
  obtain ⟨F1, F2, hP, _⟩ := h.ex
  exact hP.disk.below

theorem VAt.low (h : VAt W F V D G S B room size s w) (hb : Below w.heap.size w w1) : VAt W F V D G S B room size s w1 := by
  obtain ⟨F1, F2, hP, hF⟩ := h.ex
  exact ⟨⟨F1, F2, hP.low hb, hF⟩, h.newF, fun k hk => Nat.lt_of_lt_of_le (h.bF k hk) hb.size⟩

theorem VAt.more (h : VAt W F V D G S B room size s w) (hB : B ≤ B') : VAt W F V D G S B' room size s w := by
  obtain ⟨F1, F2, hP, hF⟩ := h.ex
  exact ⟨⟨F1, F2, hP.more hB, hF⟩, h.newF, h.bF⟩

theorem VAt.kept (h : VAt W F V D G S B room size s w) (hb : Below W.heap.size W w1) (hsz : w.heap.size ≤ w1.heap.size) (hs : Same F w w1) : VAt W F V D G S B room size s w1 := by
  obtain ⟨F1, F2, hP, hF⟩ := h.ex
  have h1 : Same F1 w w1 := fun k hk hlt => hs k (hF k (.inl hk)) hlt
  have h2 : Same F2 w w1 := fun k hk hlt => hs k (hF k (.inr (.inl hk))) hlt
  have hd : DiskAt W F1 D room s.A w1 := by
    obtain ⟨M, β, X, hm⟩ := hP.disk.mem
    exact ⟨hP.disk.right, hb, hP.disk.newF, M, β, X, hm.kept h1⟩
  refine ⟨⟨F1, F2, { hP with cells := (hs V (hF V (.inr (.inr (.inr rfl)))) hP.ltV).trans hP.cells, disk := hd, log := (hs G (hF G (.inr (.inr (.inl rfl)))) hP.ltG).trans hP.log, store := hP.store.kept hb hsz h2, lt1 := fun k hk => Nat.lt_of_lt_of_le (hP.lt1 k hk) hsz }, hF⟩, h.newF, fun k hk => Nat.lt_of_lt_of_le (h.bF k hk) hsz⟩

theorem NextVA.same (h : VAt W F V D G S B room size s w) (hb : Below w.heap.size w w1) : NextVA W F V D G S B room size w s w1 :=
  ⟨⟨F, h.low hb, fun _ hk => .inl hk⟩, Heap.Touch.ofBelow hb⟩

theorem NextVA.more (h : NextVA W F V D G S B room size w s w1) (hB : B ≤ B') : NextVA W F V D G S B' room size w s w1 := by
  obtain ⟨⟨F', h1, h2⟩, h3⟩ := h
  exact ⟨⟨F', h1.more hB, h2⟩, h3⟩

theorem NextVA.trans {F' : Nat → Prop} (hF : ∀ k, F' k → F k ∨ w.heap.size ≤ k) (ht : Heap.Touch F w w1) (h : NextVA W F' V D G S B room size w1 s w2) : NextVA W F V D G S B room size w s w2 := by
  obtain ⟨⟨F2, h1, h2⟩, h3⟩ := h
  refine ⟨⟨F2, h1, fun k hk => ?_⟩, ht.trans h3 fun k hk hf => ?_⟩
  · rcases h2 k hk with e | e
    · exact hF k e
    · exact .inr (Nat.le_trans ht.size e)
  · rcases hF k hf with e | e
    · exact e
    · omega

/-- A call at the disk. -/
theorem VAt.dsk {A' : List FileP} (h : VAt W F V D G S B room size s w) (hP : VParts W F1 F2 V D G S B room size s w) (hF : ∀ k, F1 k ∨ F2 k ∨ k = G ∨ k = V → F k) (hd : DiskAt W (Grow F1 w) D room A' w1) (ht : Heap.Touch F1 w w1) :
    NextVA W F V D G S B room size w ⟨A', s.L, s.last⟩ w1 := by
  refine ⟨⟨fun k => (F k ∨ w.heap.size ≤ k) ∧ k < w1.heap.size, ⟨⟨_, F2, hP.dsk hd ht, fun k hk => ?_⟩, fun k hk => ?_, fun k hk => hk.2⟩, fun k hk => hk.1⟩, ht.mono fun k _ hk => hF k (.inl hk)⟩
  · rcases hk with hk | hk | rfl | rfl
    · exact ⟨hk.1.imp (fun e => hF k (.inl e)) id, hk.2⟩
    · exact ⟨.inl (hF k (.inr (.inl hk))), Nat.lt_of_lt_of_le (hP.store.bF k hk) ht.size⟩
    · exact ⟨.inl (hF _ (.inr (.inr (.inl rfl)))), Nat.lt_of_lt_of_le hP.ltG ht.size⟩
    · exact ⟨.inl (hF _ (.inr (.inr (.inr rfl)))), Nat.lt_of_lt_of_le hP.ltV ht.size⟩
  · rcases hk.1 with e | e
    · exact h.newF k e
    · exact Nat.le_trans h.below.size e

/-- A call at the store. -/
theorem VAt.sto {L' : List Rc} {last' : Int} (h : VAt W F V D G S B room size s w) (hP : VParts W F1 F2 V D G S B room size s w) (hF : ∀ k, F1 k ∨ F2 k ∨ k = G ∨ k = V → F k) (hn : NextSt W F2 S B' w L' last' w1) :
    NextVA W F V D G S B' room size w ⟨s.A, L', last'⟩ w1 := by
  obtain ⟨F2', hP', hF2⟩ := hP.sto hn
  have ht := hn.2
  refine ⟨⟨fun k => (F k ∨ w.heap.size ≤ k) ∧ k < w1.heap.size, ⟨⟨F1, F2', hP', fun k hk => ?_⟩, fun k hk => ?_, fun k hk => hk.2⟩, fun k hk => hk.1⟩, ht.mono fun k _ hk => hF k (.inr (.inl hk))⟩
  · rcases hk with hk | hk | rfl | rfl
    · exact ⟨.inl (hF k (.inl hk)), hP'.lt1 k hk⟩
    · exact ⟨(hF2 k hk).imp (fun e => hF k (.inr (.inl e))) id, hP'.store.bF k hk⟩
    · exact ⟨.inl (hF _ (.inr (.inr (.inl rfl)))), hP'.ltG⟩
    · exact ⟨.inl (hF _ (.inr (.inr (.inr rfl)))), hP'.ltV⟩
  · rcases hk.1 with e | e
    · exact h.newF k e
    · exact Nat.le_trans h.below.size e
end
end Go.Proofs.YtbgchhgdlceceaaGreatDoor.Vlt
