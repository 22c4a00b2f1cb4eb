/- Parts of the proof, joined: Numbers as bytes: how a number is written, how it is read, and that the two fit. Plain lists of bytes; no program here.; The sum of a text, bit by bit, over 32 bits; and that two texts that differ in at most 32 bits side by side have unlike sums. No program here.; Bits of a text that are turned one by one, 32 side by side at the most. No program here.; Records over lists of bytes: what is right, how they are written and read; that what is written is read, and what is read is what is written. No program here.; (*Index).find, walked.; (*Index).Put, walked.; rillref.Subject, Filter, walked; and these and subject's as calls that keep.; A disk in memory: its three cells, the map of its files, each file's two cells. -/
import Derived.Test.YthhgfdeegnimjaaGreatDoorConsumerPlaysUptoM1
import Derived.Test.YthhgfdeegnimjaaGreatDoorConsumerPlaysUptoM4
import Derived.Test.YthhgfdeegnimjaaGreatDoorConsumerPlaysUptoM5
import Derived.Test.YthhgfdeegnimjaaGreatDoorConsumerPlaysUptoM8
import Derived.Test.YthhgfdeegnimjaaGreatDoorConsumerPlaysUptoM9
import Derived.Deep.CutRange
import Derived.Maps.OwnSet
import Derived.Maps.RangeWalk
import Derived.Test.YthhgfdeegnimjaaGreatDoorChecked
namespace Go.Proofs.YthhgfdeegnimjaaGreatDoor.Pack

/-- What is written of n, in at most f bytes. -/
def numF : Nat → Nat → List UInt8
  | 0, _ => []
  | f + 1, n => if n < 128 then [UInt8.ofNat n] else UInt8.ofNat (128 + n % 128) :: numF f (n / 128)

/-- What is written of a number below 2^63. -/
def numL (n : Nat) : List UInt8 := numF 9 n

/-- What is read at byte i, acc read so far: the number, how many bytes, the error. -/
def rdL : Nat → Nat → List UInt8 → Nat × Nat × Nat
  | _, _, [] => (0, 0, 6)
  | i, acc, b :: l =>
    if (128 ≤ b.toNat ∧ i = 8) ∨ (b.toNat = 0 ∧ 0 < i) then (0, 0, 7)
    else if b.toNat < 128 then (acc + b.toNat * 128 ^ i, i + 1, 0)
    else rdL (i + 1) (acc + (b.toNat - 128) * 128 ^ i) l

def rdN (l : List UInt8) : Nat × Nat × Nat := rdL 0 0 l

/-- A text with its length ahead. -/
def textL (t : List UInt8) : List UInt8 := numL t.length ++ t

/-- What is read of a text of at most 'most' bytes: the text, how many bytes, the error. -/
def rdT (l : List UInt8) (most : Int) : List UInt8 × Nat × Nat :=
  if (rdN l).2.2 ≠ 0 then ([], 0, (rdN l).2.2)
  else if most < ((rdN l).1 : Int) then ([], 0, 7)
  else if l.length - (rdN l).2.1 < (rdN l).1 then ([], 0, 6)
  else ((l.drop (rdN l).2.1).take (rdN l).1, (rdN l).2.1 + (rdN l).1, 0)

end Go.Proofs.YthhgfdeegnimjaaGreatDoor.Pack

namespace Go.Proofs.YthhgfdeegnimjaaGreatDoor.Crc

abbrev R := BitVec 32

def poly : R := 0xedb88320#32

/-- One step of the division. -/
def stp (r : R) : R := if r.getLsbD 0 then (r >>> 1) ^^^ poly else r >>> 1

def stps : Nat → R → R
  | 0, r => r
  | n + 1, r => stps n (stp r)

/-- A byte. -/
def byteStep (r : R) (b : UInt8) : R := stps 8 (r ^^^ BitVec.ofNat 32 b.toNat)

def crcL (l : List UInt8) : R := ~~~ (l.foldl byteStep 0xffffffff#32)

/-- The bits of x from the lowest on, n of them. -/
def low : Nat → Nat → List Bool
  | 0, _ => []
  | n + 1, x => (x % 2 == 1) :: low n (x / 2)

end Go.Proofs.YthhgfdeegnimjaaGreatDoor.Crc

namespace Go.Proofs.YthhgfdeegnimjaaGreatDoor.Crc

end Go.Proofs.YthhgfdeegnimjaaGreatDoor.Crc

namespace Go.Proofs.YthhgfdeegnimjaaGreatDoor.Rec
open Subj Pack Crc

structure Rc where
  kind : Int
  seq : Int
  time : Int
  subj : List UInt8
  head : List UInt8
  data : List UInt8

def Rc.zero : Rc := ⟨0, 0, 0, [], [], []⟩

def far : Int := 1099511627776

/-- What is wrong with a record. -/
def recErr (r : Rc) : Nat :=
  if r.kind < 1 ∨ 4 < r.kind ∨ r.seq < 1 ∨ far < r.seq ∨ r.time < 0 ∨ far < r.time then 1
  else if r.kind = 1 then if err false r.subj ≠ 0 then err false r.subj else if 256 < r.head.length + r.data.length then 2 else 0
  else if r.kind = 3 then if err true r.subj ≠ 0 then err true r.subj else if r.head = [] ∧ r.data = [] then 0 else 1
  else if r.subj = [] ∧ r.head = [] ∧ r.data = [] then 0 else 1

def bodyL (r : Rc) : List UInt8 := UInt8.ofNat r.kind.toNat :: (numL r.seq.toNat ++ (numL r.time.toNat ++ (textL r.subj ++ (textL r.head ++ textL r.data))))

/-- A number's four bytes. -/
def le4 (c : Nat) : List UInt8 := [UInt8.ofNat (c % 256), UInt8.ofNat (c / 256 % 256), UInt8.ofNat (c / 65536 % 256), UInt8.ofNat (c / 16777216 % 256)]
def sum4 (l : List UInt8) : List UInt8 := le4 (crcL l).toNat

def codedL (r : Rc) : List UInt8 := textL (bodyL r) ++ sum4 (bodyL r)

/-- What is left behind a number, behind a text. -/
def fB (l : List UInt8) : List UInt8 := l.drop (rdN l).2.1
def fT (l : List UInt8) : List UInt8 := l.drop (rdT l 1024).2.1

/-- The fields behind the kind: the record, what is left, is all right? -/
def fields (kind : Int) (l : List UInt8) : Rc × List UInt8 × Bool :=
  (⟨kind, (rdN l).1, (rdN (fB l)).1, (rdT (fB (fB l)) 1024).1, (rdT (fT (fB (fB l))) 1024).1, (rdT (fT (fT (fB (fB l)))) 1024).1⟩,
    fT (fT (fT (fB (fB l)))),
    (rdN l).2.2 == 0 && (rdN (fB l)).2.2 == 0 && (rdT (fB (fB l)) 1024).2.2 == 0 && (rdT (fT (fB (fB l))) 1024).2.2 == 0 && (rdT (fT (fT (fB (fB l)))) 1024).2.2 == 0)

/-- The record of a body whose sum is right. -/
def bodyR (k : UInt8) (rest : List UInt8) (n : Nat) : Rc × Nat × Nat :=
  if (fields k.toNat rest).2.2 = true ∧ (fields k.toNat rest).2.1 = [] ∧ recErr (fields k.toNat rest).1 = 0 then ((fields k.toNat rest).1, n, 0) else (Rc.zero, 0, 7)

/-- A record that is read: it, its bytes, what is wrong. -/
def decL (s : List UInt8) : Rc × Nat × Nat :=
  if (rdT s 1024).2.2 ≠ 0 then (Rc.zero, 0, (rdT s 1024).2.2)
  else if s.length < (rdT s 1024).2.1 + 4 then (Rc.zero, 0, 6)
  else match (rdT s 1024).1 with
    | [] => (Rc.zero, 0, 7)
    | k :: rest => if (s.drop (rdT s 1024).2.1).take 4 ≠ sum4 (k :: rest) then (Rc.zero, 0, 7) else bodyR k rest ((rdT s 1024).2.1 + 4)

/-! ### Sizes -/

theorem pieces_sum (l : List UInt8) : l.length + 1 = ((pieces l).map (fun t => t.length + 1)).sum := by
  induction l with
  | nil => simp [pieces]
  | cons b l ih =>
    unfold pieces
    split
    · simp; omega
    · split
      · rename_i p ps e
        rw [e] at ih
        simp at ih ⊢; omega
      · rename_i e
        exact absurd e (pieces_ne l)

theorem sum_le (L : List Tok) (h : ∀ t ∈ L, t.length ≤ 16) : (L.map (fun t => t.length + 1)).sum ≤ 17 * L.length := by
  induction L with
  | nil => simp
  | cons t L ih =>
    have h1 := h t (by simp)
    have h2 := ih (fun t ht => h t (by simp [ht]))
    simp; omega

theorem okPieces_len (wild : Bool) : ∀ L : List Tok, okPieces wild L = true → ∀ t ∈ L, t.length ≤ 16
  | [], _, t, ht => by cases ht
  | x :: L, h, t, ht => by
    simp only [okPieces, Bool.and_eq_true] at h
    rcases List.mem_cons.1 ht with rfl | ht
    · rcases Bool.or_eq_true_iff.1 h.1 with h1 | h1
      · simp only [Bool.and_eq_true, Bool.or_eq_true, beq_iff_eq] at h1
        rcases h1.2 with h2 | h2
        · rw [h2]; decide
        · rw [h2.1]; decide
      · simp only [tokenOk, Bool.and_eq_true, decide_eq_true_eq] at h1
        exact h1.2
    · exact okPieces_len wild L h.2 t ht

theorem err_len {wild : Bool} {l : List UInt8} (h : err wild l = 0) : l.length ≤ 135 := by
  unfold err at h
  split at h
  · cases h
  · split at h
    · rename_i h1 h2
      have h3 := pieces_sum l
      have h4 := sum_le _ (okPieces_len wild _ h2)
      omega
    · cases h

theorem recErr_sizes {r : Rc} (h : recErr r = 0) : 1 ≤ r.kind ∧ r.kind ≤ 4 ∧ 1 ≤ r.seq ∧ r.seq ≤ far ∧ 0 ≤ r.time ∧ r.time ≤ far ∧ r.subj.length ≤ 135 ∧ r.head.length + r.data.length ≤ 256 := by
  unfold recErr at h
  split at h
  · cases h
  · rename_i h0
    simp only [not_or, Int.not_lt] at h0
    obtain ⟨a, b, c, d, e, f⟩ := h0
    refine ⟨a, b, c, d, e, f, ?_⟩
    split at h
    · split at h
      · rename_i h1; exact absurd h h1
      · rename_i h1
        split at h
        · cases h
        · rename_i h2
          exact ⟨err_len (by simpa using h1), by omega⟩
    · split at h
      · split at h
        · rename_i h1; exact absurd h h1
        · rename_i h1
          split at h
          · rename_i h2
            exact ⟨err_len (by simpa using h1), by rw [h2.1, h2.2]; decide⟩
          · cases h
      · split at h
        · rename_i h2
          rw [h2.1, h2.2.1, h2.2.2]; decide
        · cases h

/-! ### What is written is read -/

/-! ### What is read is what is written -/

end Go.Proofs.YthhgfdeegnimjaaGreatDoor.Rec

namespace Go.Proofs.YthhgfdeegnimjaaGreatDoor.Idx
open Go.RowKit Heap
open Subj (Tok ML pieces StrsAt strAt)

set_option maxRecDepth 100000 in
theorem split_dot (s : ByteArray) (w : World) (hs : s.size ≤ 1048576) (hm : ML w) :
    Calls Tryz.prog 115 #[.string s, .string ⟨#[46]⟩] w fun e w' => e = .returned (.slice (some ⟨w.heap.size, 0, none⟩) (pieces s.data.toList).length (pieces s.data.toList).length) ∧ StrsAt w' w.heap.size 0 (pieces s.data.toList) ∧ Below w.heap.size w w' := by
  obtain ⟨m, hm⟩ := hm
  have hc := Tryz.strings_Split s ⟨#[46]⟩ m w (by omega) hm (by decide)
  rw [Subj.countB_dot] at hc
  refine hc.mono ?_
  rintro e w' ⟨rfl, rfl⟩
  exact ⟨rfl, Subj.strsAt_made w s 9, (Below.refl w.heap.size w).alloc (Nat.le_refl _) _⟩

theorem strsAt_lt {w : World} {g off : Nat} {l : List Tok} (h : StrsAt w g off l) (hl : l ≠ []) : g < w.heap.size :=
  World.block_lt_of_cell? w _ (h 0 (List.length_pos_iff.2 hl))

section
variable {W w : World} {M : Nat → Prop} {x : Nat} {H : Hp} {vf : Nat → Value} {cnt N : Nat}

/-- What 'find' answers. -/
def Found (H : Hp) (x : Nat) (ts : List Tok) (e : Ending) : Prop :=
  (∃ c nd, e = .returned (ptrV c) ∧ Go H x ts c ∧ H c = some nd) ∨ (e = .returned (.pointer none) ∧ ∀ c, ¬ Go H x ts c)

/-- One step further. -/
theorem go_more (_h : Good N H x) {l : List Tok} {k c j : Nat} (hk : k < l.length) (hg : Go H x (l.take k) c) (hs : Step H c (l.getD k []) j) : Go H x (l.take (k + 1)) j := by
  have e : l.take (k + 1) = l.take k ++ [l.getD k []] := by
    rw [List.take_add_one, List.getElem?_eq_getElem hk]; simp [List.getD, hk]
  rw [e]
  exact go_app hg (go_one hs)

theorem go_stops (h : Good N H x) {l : List Tok} {k c : Nat} {nd : NodeP} (hk : k < l.length) (hg : Go H x (l.take k) c) (hc : H c = some nd) (hn : ∀ j ∈ nd.kids, tokH H j ≠ l.getD k []) : ∀ d, ¬ Go H x l d := fun d hd => by
  have e : l = l.take k ++ (l.getD k [] :: l.drop (k + 1)) := by
    have := List.drop_eq_getElem_cons hk
    have h2 : l.getD k [] = l[k] := by simp [List.getD, hk]
    rw [h2, ← this, List.take_append_drop]
  rw [e] at hd
  obtain ⟨c', h1, h2⟩ := go_split hd
  have := h.go_det h1 hg
  subst this
  cases h2 with
  | cons s _ =>
    obtain ⟨nd', e2, h3, h4⟩ := s
    rw [hc] at e2; cases e2
    exact hn _ h3 h4

set_option maxHeartbeats 2000000 in
set_option maxRecDepth 100000 in
theorem find_any (hG : Good N H x) (hM : IdxAt W M x H vf cnt w) (hN : N ≤ 100000) (hm : ML w) (s : ByteArray) (hs : s.size ≤ 1048576) :
    Calls Tryz.prog 234 #[ptrV x, .string s] w fun e w' => Found H x (pieces s.data.toList) e ∧ Below w.heap.size w w' := by
  have HS := Lib.hid (split_dot s w hs hm)
  obtain ⟨rd, hrd, _⟩ := hG.root
  have hx := hM.lt hrd
  have HG := Lib.hid hG; have HM := Lib.hid hM; have HRD := Lib.hid hrd
  have hpl := Subj.pieces_size s hs
  clear hG hM hm hs hrd
  generalize pieces s.data.toList = l at *
  obtain ⟨n, hn⟩ : ∃ n, l.length = n := ⟨_, rfl⟩
  rw [hn] at HS hpl
  have HL := Lib.hid hn
  clear hn
  go_enter Tryz.func234, Tryz.ntmps234
  go_wp2_with fail
  refine HS.out.mono ?_
  rintro e w1 ⟨rfl, hst, hb1⟩
  have HST := Lib.hid hst; have HB := Lib.hid hb1
  clear hst hb1 HS
  obtain ⟨g, hgg⟩ : ∃ g, w.heap.size = g := ⟨_, rfl⟩
  have HGG := Lib.hid hgg
  rw [hgg] at HST ⊢
  clear hgg
  go_wp2_with fail
  go_loopw [5, 16] (fun a i wr => ∃ (k c : Nat), k ≤ n ∧ i = .int .i64 k ∧ a = .pointer (some ⟨c, 0, none⟩) ∧ Hid (Go H x (l.take k) c ∧ ∃ nd, H c = some nd) ∧ Hid (Below w1.heap.size w1 wr)) (fun _ i _ => n - (intOf i).toNat)
  case atStart => exact ⟨0, x, Nat.zero_le _, rfl, rfl, Lib.hid ⟨.nil x, rd, HRD.out⟩, Lib.hid (Below.refl _ _)⟩
  case round =>
    obtain ⟨k, c, hk, rfl, rfl, HGO, HBW⟩ := hrel
    obtain ⟨nd, hnd⟩ := HGO.out.2
    by_cases hlt : k < n
    · have hltz : (k : Int) < n := by omega
      have hlt' : k < l.length := by rw [HL.out]; exact hlt
      have hM2 := (HM.out.next HB.out).next HBW.out
      have hcell := (HST.out.below (HBW.out)) k hlt'
      rw [Nat.zero_add] at hcell
      have HPL := Lib.hid (show Calls Tryz.prog 236 #[.pointer (some ⟨c, 0, none⟩), .string (strAt l k)] wr _ from place_any HG.out hM2 hnd hN (l.getD k []))
      have HND := Lib.hid hnd; have HM2 := Lib.hid hM2; have HLT := Lib.hid hlt'
      clear hM2 hnd hlt'
      go_wp2_with fail
      refine HPL.out.mono ?_
      rintro e w2 ⟨i, fd, rfl, hp, hb2⟩
      clear hcell HPL
      cases fd with
      | false =>
        have HF := Lib.hid (show Found H x l (.returned (.pointer none)) ∧ Below w.heap.size w w2 from ⟨.inr ⟨rfl, go_stops HG.out HLT.out HGO.out.1 HND.out (hp.no rfl)⟩, (HB.out.trans (HBW.out.mono HB.out.size)).trans (hb2.mono (Nat.le_trans HB.out.size HBW.out.size))⟩)
        clear hp hb2
        go_wp2
        go_ret
        exact HF.out
      | true =>
        obtain ⟨j, hj, ht⟩ := hp.yes rfl
        have hM3 := HM2.out.next hb2
        obtain ⟨c0, c1, c2, c3, cf⟩ := node_of (hM3.node c nd HND.out)
        have hrow := hM3.row c nd HND.out
        have hil : i < nd.kids.length := (List.getElem?_eq_some_iff.1 hj).1
        obtain ⟨gk, off, cap, ev, hcap, hcell⟩ : ∃ gk off cap, vf c = .slice (some ⟨gk, off, none⟩) nd.kids.length cap ∧ nd.kids.length ≤ cap ∧ w2.cell? ⟨gk, off + i, none⟩ = some (.pointer (some ⟨j, 0, none⟩)) := by
          rcases hrow.2 with ⟨_, h0⟩ | ⟨gk, off, cap, cur, ev, hg, h1, _⟩
          · omega
          · rw [ev] at hrow
            exact ⟨gk, off, cap, ev, h1, by rw [(hrow.cell i (by omega)).1, kidsV_get, hj]; rfl⟩
        rw [ev] at c1
        have hclt := hM3.lt HND.out
        have HN2 := Lib.hid (show Go H x (l.take (k + 1)) j ∧ (∃ nd, H j = some nd) ∧ Below w1.heap.size w1 w2 from
          ⟨go_more HG.out HLT.out HGO.out.1 ⟨nd, HND.out, List.mem_of_getElem? hj, ht⟩, (let ⟨kd, h, _⟩ := HG.out.kid c nd j HND.out (List.mem_of_getElem? hj); ⟨kd, h⟩), HBW.out.trans (hb2.mono HBW.out.size)⟩)
        have hil2 : (i : Int) < (nd.kids.length : Nat) := by omega
        generalize nd.kids.length = m at *
        clear hp hb2 hM3 hrow hj ht ev c0 c2 c3
        go_wp2_with fail
        exact ⟨⟨k + 1, j, by omega, by go_num, rfl, Lib.hid ⟨HN2.out.1, HN2.out.2.1⟩, Lib.hid HN2.out.2.2⟩, by simp [intOf]; omega⟩
    · obtain rfl : k = n := by omega
      have HF := Lib.hid (show Found H x l (.returned (.pointer (some ⟨c, 0, none⟩))) ∧ Below w.heap.size w wr from ⟨.inl ⟨c, nd, rfl, by have := HGO.out.1; rw [List.take_of_length_le (by rw [HL.out]; exact Nat.le_refl _)] at this; exact this, hnd⟩, HB.out.trans (HBW.out.mono HB.out.size)⟩)
      clear hnd
      go_wp2
      go_ret
      exact HF.out
end
end Go.Proofs.YthhgfdeegnimjaaGreatDoor.Idx

namespace Go.Proofs.YthhgfdeegnimjaaGreatDoor.Idx
open Go.RowKit Heap
open Subj (Tok ML pieces StrsAt strAt)

/-- The tokens of a right subject. -/
theorem err_toks {l : List UInt8} (h : Subj.err false l = 0) : (pieces l).length ≤ 8 ∧ ∀ t ∈ pieces l, t ≠ [] ∧ t.length ≤ 16 := by
  unfold Subj.err at h
  split at h
  · cases h
  · rename_i h8
    split at h
    · rename_i hok
      refine ⟨by omega, ?_⟩
      clear h h8
      revert hok
      generalize pieces l = ts
      intro hok
      induction ts with
      | nil => intro t ht; cases ht
      | cons a ts ih =>
        simp only [Subj.okPieces, Bool.false_and, Bool.false_or, Bool.and_eq_true] at hok
        intro t ht
        rcases List.mem_cons.1 ht with rfl | ht
        · have h1 := hok.1
          unfold Subj.tokenOk at h1
          simp only [Bool.and_eq_true, decide_eq_true_eq] at h1
          exact ⟨fun e => by subst e; simp at h1, h1.2⟩
        · exact ih hok.2 t ht
    · cases h

/-- The same is told. -/
def SameDen (H H' : Hp) (x : Nat) : Prop := ∀ ts m, Den H' x ts m ↔ Den H x ts m

/-- An index that has come of another one. -/
structure Next (W : World) (M : Nat → Prop) (x N : Nat) (cnt : Nat) (w : World) (H' : Hp) (w' : World) : Prop where
  good : Good N H' x
  mem : ∃ M' vf', IdxAt W M' x H' vf' cnt w' ∧ ∀ k, M' k → M k ∨ w.heap.size ≤ k
  touch : Heap.Touch M w w'

section
variable {W w : World} {M : Nat → Prop} {x : Nat} {H : Hp} {vf : Nat → Value} {cnt N : Nat}

theorem Next.refl (hG : Good N H x) (hM : IdxAt W M x H vf cnt w) : Next W M x N cnt w H w := ⟨hG, ⟨M, vf, hM, fun _ h => .inl h⟩, Heap.Touch.refl _ _⟩

theorem Next.below' {H' : Hp} {w' w2 : World} (h : Next W M x N cnt w H' w') (hb : Below w'.heap.size w' w2) : Next W M x N cnt w H' w2 := by
  obtain ⟨hG, ⟨M', vf', h1, h2⟩, h3⟩ := h
  exact ⟨hG, ⟨M', vf', h1.next hb, h2⟩, h3.after (Heap.Touch.ofBelow (hb.mono (Nat.le_refl _)))⟩

theorem Next.from {H' : Hp} {w0 w' : World} (h : Next W M x N cnt w H' w') (hb : Below w0.heap.size w0 w) : Next W M x N cnt w0 H' w' := by
  obtain ⟨hG, ⟨M', vf', h1, h2⟩, h3⟩ := h
  refine ⟨hG, ⟨M', vf', h1, fun k hk => ?_⟩, (Heap.Touch.ofBelow hb).trans h3 fun _ _ h => h⟩
  rcases h2 k hk with e | e
  · exact .inl e
  · exact .inr (Nat.le_trans hb.size e)

/-- One index comes of one that has come. -/
theorem Next.trans {H1 H2 : Hp} {M1 : Nat → Prop} {w1 w2 : World} {N2 cnt2 : Nat} (h1 : Next W M x N cnt w H1 w1) (hm : ∀ k, M1 k → M k ∨ w.heap.size ≤ k) (h2 : Next W M1 x N2 cnt2 w1 H2 w2) : Next W M x N2 cnt2 w H2 w2 := by
  obtain ⟨hG, ⟨M', vf', h3, h4⟩, h5⟩ := h2
  refine ⟨hG, ⟨M', vf', h3, fun k hk => ?_⟩, h1.touch.trans h5 fun k hk hf => ?_⟩
  · rcases h4 k hk with e | e
    · exact hm k e
    · exact .inr (Nat.le_trans h1.touch.size e)
  · rcases hm k hf with e | e
    · exact e
    · omega

/-- What a node has is set: in memory. -/
theorem next_set (hG : Good N H x) (hM : IdxAt W M x H vf cnt w) {c : Nat} {nd : NodeP} (hc : H c = some nd) (y : Bool) (n : Int) :
    Next W M x N cnt w (upd H c { nd with has := y, n := n }) ((w.setCell ⟨c, 2, none⟩ (.bool y)).setCell ⟨c, 3, none⟩ (.int .i64 n)) := by
  have hn := hM.node c nd hc
  have ht : Heap.Touch (fun k => k = c ∨ own (vf c) k) w ((w.setCell ⟨c, 2, none⟩ (.bool y)).setCell ⟨c, 3, none⟩ (.int .i64 n)) :=
    Heap.Touch.setCell (p := ⟨c, 3, none⟩) (Heap.Touch.setCell (F := fun k => k = c ∨ own (vf c) k) (p := ⟨c, 2, none⟩) (Heap.Touch.refl _ w) (.inl (.inl rfl)) _) (.inl (.inl rfl)) _
  have hr := (hM.row c nd hc).kept (w' := ((w.setCell ⟨c, 2, none⟩ (.bool y)).setCell ⟨c, 3, none⟩ (.int .i64 n))) (fun k hk hlt => by
    have e : k ≠ c := fun e => own_ne hn (hM.row c nd hc) (e ▸ hk)
    rw [Below.heap_setCell _ _ _ _ e, Below.heap_setCell _ _ _ _ e])
  obtain ⟨h1, h2⟩ := hM.set (nd' := { nd with has := y, n := n }) (v' := vf c) hc ht (node_has hn y n) hr (fun k hk => .inl hk)
  exact ⟨good_set hG hc y n, ⟨_, _, h1, fun k hk => hk.1⟩, h2⟩

/-- A kid more: in memory. -/
theorem next_ins (hG : Good N H x) (hM : IdxAt W M x H vf cnt w) {c i k : Nat} {nd : NodeP} {t : Tok} {wa w5 : World} {v' : Value} (hc : H c = some nd) (hp : Placed H nd.kids t i false) (hlen : nd.path.length < 8) (ht : t ≠ [] ∧ t.length ≤ 16)
    (hba : Below w.heap.size w wa) (hk : w.heap.size = k) (hka : wa.heap[k]? = some (.cells #[.string ⟨t.toArray⟩, .slice none 0 0, .bool false, .int .i64 0] 234 (0, 0))) (hsz : k < wa.heap.size)
    (hr : Row w5 318 1 v' (nd.kids.length + 1) ((kidsV nd.kids).take (i * 1) ++ [ptrV k] ++ (kidsV nd.kids).drop (i * 1))) (ht5 : Heap.Touch (own (vf c)) wa w5) (ho : ∀ j, own v' j → own (vf c) j ∨ wa.heap.size ≤ j) :
    Next W M x (N + 1) cnt w (insH H c nd i k t) (w5.setCell ⟨c, 1, none⟩ v') := by
  have hMa := hM.next hba
  have hn := hMa.node c nd hc
  have hn5 : w5.heap[c]? = some (nodeO x cnt c nd (vf c)) := (ht5.block c (hMa.lt hc) (own_ne hn (hMa.row c nd hc))).trans hn
  have htc : Heap.Touch (fun j => j = c ∨ own (vf c) j) wa (w5.setCell ⟨c, 1, none⟩ v') :=
    Heap.Touch.setCell (F := fun j => j = c ∨ own (vf c) j) (p := ⟨c, 1, none⟩) (ht5.mono fun j _ h => .inr h) (.inl (.inl rfl)) _
  have hHk : H k = none := hM.fresh (by omega)
  have hck : k ≠ c := fun e => by subst e; rw [hHk] at hc; cases hc
  have hrow : Row (w5.setCell ⟨c, 1, none⟩ v') 318 1 v' ({ nd with kids := nd.kids.take i ++ k :: nd.kids.drop i } : NodeP).kids.length (kidsV ({ nd with kids := nd.kids.take i ++ k :: nd.kids.drop i } : NodeP).kids) := by
    have e1 : (nd.kids.take i ++ k :: nd.kids.drop i).length = nd.kids.length + 1 := by
      have := hp.le
      simp only [List.length_append, List.length_cons, List.length_take, List.length_drop]; omega
    have e2 : kidsV (nd.kids.take i ++ k :: nd.kids.drop i) = (kidsV nd.kids).take (i * 1) ++ [ptrV k] ++ (kidsV nd.kids).drop (i * 1) := by
      simp [kidsV, List.map_take, List.map_drop]
    show Row _ _ 1 v' (nd.kids.take i ++ k :: nd.kids.drop i).length (kidsV (nd.kids.take i ++ k :: nd.kids.drop i))
    rw [e1, e2]
    refine hr.kept fun j hj _ => ?_
    rw [Below.heap_setCell _ _ _ _ (fun e => ?_)]
    exact own_ne hn5 hr (by rw [← show j = c from e]; exact hj)
  obtain ⟨h1, h2⟩ := hMa.set (nd' := { nd with kids := nd.kids.take i ++ k :: nd.kids.drop i }) (v' := v') hc htc (node_kids hn5 v' _) hrow ho
  have hxk : k ≠ x := fun e => by
    obtain ⟨rd, hr, _⟩ := hG.root
    rw [← e, hHk] at hr; cases hr
  have hMk : ¬ M k := fun h => by have := hM.bM k h; omega
  have hkb : (w5.setCell ⟨c, 1, none⟩ v').heap[k]? = some (nodeO x cnt k ⟨t, [], false, 0, nd.path ++ [t]⟩ (.slice none 0 0)) := by
    rw [h2.block k hsz hMk, hka]
    unfold nodeO
    rw [if_neg hxk]
  have h3 := h1.add hkb rfl (fun h => by
    rcases h.1 with h | h
    · exact hMk h
    · omega) (by have := hM.below.size; omega)
  have hG' := good_ins (i := i) (t := t) hG hc hHk (fun b y hb hky => by
    obtain ⟨kd, hkd, _⟩ := hG.kid b y k hb hky
    rw [hHk] at hkd; cases hkd) hlen ht hp.lo hp.hi'
  refine ⟨hG', ⟨_, _, h3, fun j hj => ?_⟩, (Heap.Touch.ofBelow hba).trans h2 fun _ _ h => h⟩
  rcases hj with hj | rfl
  · rcases hj.1 with hj | hj
    · exact .inl hj
    · exact .inr (Nat.le_trans hba.size hj)
  · exact .inr (by omega)
end
end Go.Proofs.YthhgfdeegnimjaaGreatDoor.Idx

namespace Go.Proofs.YthhgfdeegnimjaaGreatDoor.Subj
open Go.RowKit

set_option maxRecDepth 100000 in
theorem refSubject_any (s : ByteArray) (w : World) (hs : s.size ≤ 1048576) :
    Calls Tryz.prog 179 #[.string s] w fun e w' => e = .returned (.int .i64 (err false s.data.toList)) ∧ Below w.heap.size w w' := by
  have h := tokens_any s false w hs
  have HC := Lib.hid h; clear h
  generalize err false s.data.toList = er at *
  generalize pieces s.data.toList = l at *
  go_enter Tryz.func179, Tryz.ntmps179
  go_wp2_with fail
  refine HC.out.mono ?_
  rintro e w' ⟨hb, ⟨rfl, v, rfl, _⟩ | ⟨h0, rfl⟩⟩
  · go_wp2
    go_ret
    exact ⟨rfl, hb⟩
  · go_wp2
    go_ret
    exact ⟨rfl, hb⟩

set_option maxRecDepth 100000 in
theorem refFilter_any (s : ByteArray) (w : World) (hs : s.size ≤ 1048576) :
    Calls Tryz.prog 63 #[.string s] w fun e w' => e = .returned (.int .i64 (err true s.data.toList)) ∧ Below w.heap.size w w' := by
  have h := tokens_any s true w hs
  have HC := Lib.hid h; clear h
  generalize err true s.data.toList = er at *
  generalize pieces s.data.toList = l at *
  go_enter Tryz.func63, Tryz.ntmps63
  go_wp2_with fail
  refine HC.out.mono ?_
  rintro e w' ⟨hb, ⟨rfl, v, rfl, _⟩ | ⟨h0, rfl⟩⟩
  · go_wp2
    go_ret
    exact ⟨rfl, hb⟩
  · go_wp2
    go_ret
    exact ⟨rfl, hb⟩

end Go.Proofs.YthhgfdeegnimjaaGreatDoor.Subj

namespace Go.Proofs.YthhgfdeegnimjaaGreatDoor.Dsk
open Go.RowKit Go.Maps Heap

/-- How a pointer to a file reads: as the number of its block. -/
def ptrElem : Value → Option (DataW Unit × List MemPlace)
  | .pointer (some ⟨b, 0, none⟩) => some (.lit (.int .i64 b), [])
  | .pointer none => some (.lit (.bool false), [])
  | _ => none

theorem ptrElem_inv {v : Value} {b : Nat} {ps : List MemPlace} (h : ptrElem v = some (.lit (.int .i64 b), ps)) : v = .pointer (some ⟨b, 0, none⟩) := by
  unfold ptrElem at h
  split at h
  · rename_i b'
    simp only [Option.some.injEq, Prod.mk.injEq, DataW.lit.injEq, Lit.int.injEq, true_and] at h
    have : b' = b := by omega
    rw [this]
  · simp at h
  · cases h

theorem ptrElem_any {v : Value} {y : DataW Unit × List MemPlace} (h : ptrElem v = some y) : ∃ c : Option Nat, v = .pointer (c.map fun b => ⟨b, 0, none⟩) := by
  unfold ptrElem at h
  split at h
  · rename_i b; exact ⟨some b, rfl⟩
  · exact ⟨none, rfl⟩
  · cases h

theorem keyLaw : Keyed Tryz.prog 3 := int_keyed Tryz.underlying3
theorem zeroP (w : World) : (zeroValue 372).run Tryz.prog w = .ok (.pointer none) w := by kernel_rfl

theorem wf64 {n : Int} (h : -9223372036854775808 ≤ n) (h2 : n ≤ 9223372036854775807) : (Lit.int .i64 n).wf = true := WalkArith.wf_i64 ⟨h, h2⟩

theorem key64 {n : Int} (h : -9223372036854775808 ≤ n ∧ n ≤ 9223372036854775807) : keyOf Tryz.prog 3 (.int .i64 n) = some (.int .i64 n) := keyOf_int_mk Tryz.underlying3 (wf64 h.1 h.2)

theorem ownsMap_of_block {w w' : World} {b n : Nat} {X : DataW Unit} (h : w.ownsMap Tryz.prog 3 ptrElem b n X) (he : w'.heap[b]? = w.heap[b]?) : w'.ownsMap Tryz.prog 3 ptrElem b n X := by
  obtain ⟨es, clock, hb, r⟩ := h
  exact ⟨es, clock, he.trans hb, r⟩

structure DM (F : Nat → Prop) (D M : Nat) (β : Int → Nat) (X : DataW Unit) (room : Int) (A : List FileP) (w : World) : Prop where
  cells : w.heap[D]? = some (.cells #[.int .i64 room, .int .i64 (total A : Nat), .map (some M)] 327 (0, 0))
  own : w.ownsMap Tryz.prog 3 ptrElem M A.length X
  size : Maps.size X = A.length
  has : ∀ k : Int, Maps.has X (.int .i64 k) = (getF A k).isSome
  at_ : ∀ p ∈ A, ∀ z, X.atKey (.int .i64 p.n) z = .lit (.int .i64 (β p.n : Nat))
  files : ∀ p ∈ A, w.heap[β p.n]? = some (.cells #[.string ⟨p.text.toArray⟩, .int .i64 (p.sure : Nat)] 375 (0, 0))
  inj : ∀ p ∈ A, ∀ q ∈ A, β p.n = β q.n → p.n = q.n
  fD : F D
  fM : F M
  fF : ∀ p ∈ A, F (β p.n)

namespace DM
variable {F : Nat → Prop} {D M : Nat} {β : Int → Nat} {X : DataW Unit} {room : Int} {A : List FileP} {w w' : World}

theorem mono (h : DM F D M β X room A w) {G : Nat → Prop} (hG : ∀ k, F k → G k) : DM G D M β X room A w :=
  { h with fD := hG _ h.fD, fM := hG _ h.fM, fF := fun p hp => hG _ (h.fF p hp) }

theorem mapBlk (h : DM F D M β X room A w) : ∃ es c, w.heap[M]? = some (.map es c) := by
  obtain ⟨es, c, hb, _⟩ := h.own
  exact ⟨es, c, hb⟩

theorem neDM (h : DM F D M β X room A w) : D ≠ M := fun e => by
  obtain ⟨es, c, hb⟩ := h.mapBlk
  have := h.cells
  rw [e, hb] at this; cases this

theorem neDF (h : DM F D M β X room A w) {p : FileP} (hp : p ∈ A) : D ≠ β p.n := fun e => by
  have h1 := h.cells
  have h2 := h.files p hp
  rw [← e, h1] at h2
  simp at h2

theorem neMF (h : DM F D M β X room A w) {p : FileP} (hp : p ∈ A) : M ≠ β p.n := fun e => by
  obtain ⟨es, c, hb⟩ := h.mapBlk
  have h2 := h.files p hp
  rw [← e, hb] at h2; cases h2

theorem ltD (h : DM F D M β X room A w) : D < w.heap.size := heap_lt h.cells
theorem ltM (h : DM F D M β X room A w) : M < w.heap.size := by obtain ⟨es, c, hb⟩ := h.mapBlk; exact heap_lt hb
theorem ltF (h : DM F D M β X room A w) {p : FileP} (hp : p ∈ A) : β p.n < w.heap.size := heap_lt (h.files p hp)

/-- The disk stands while others are turned. -/
theorem kept (h : DM F D M β X room A w) (hs : Same F w w') : DM F D M β X room A w' :=
  { h with
    cells := (hs D h.fD h.ltD).trans h.cells
    own := ownsMap_of_block h.own (hs M h.fM h.ltM)
    files := fun p hp => (hs _ (h.fF p hp) (h.ltF hp)).trans (h.files p hp) }

/-- A file that is there is turned. -/
theorem set (h : DM F D M β X room A w) (hr : RightD room A) {p q : FileP} (hp : getF A q.n = some p) (ht : Heap.Touch (fun k => k = D ∨ k = β q.n) w w')
    (hD : w'.heap[D]? = some (.cells #[.int .i64 room, .int .i64 (total (setF A q) : Nat), .map (some M)] 327 (0, 0)))
    (hB : w'.heap[β q.n]? = some (.cells #[.string ⟨q.text.toArray⟩, .int .i64 (q.sure : Nat)] 375 (0, 0))) : DM F D M β X room (setF A q) w' := by
  obtain ⟨hpn, hpm⟩ := getF_n hp
  have hM := ht.block M h.ltM (by rintro (e | e); exact h.neDM e.symm; exact h.neMF hpm (by rw [hpn]; exact e))
  refine ⟨hD, ?_, ?_, fun k => ?_, fun x hx z => ?_, fun x hx => ?_, fun x hx y hy e => ?_, h.fD, h.fM, fun x hx => ?_⟩
  · rw [len_setF]; exact ownsMap_of_block h.own hM
  · rw [len_setF]; exact h.size
  · rw [h.has, getF_setF]
    by_cases e : k = q.n
    · rw [if_pos e, e, hp]; rfl
    · rw [if_neg e]
  · rcases mem_setF hr.sorted hx with rfl | ⟨hx, _⟩
    · rw [← hpn]; exact h.at_ p hpm z
    · exact h.at_ x hx z
  · rcases mem_setF hr.sorted hx with rfl | ⟨hx, hne⟩
    · exact hB
    · rw [ht.block _ (h.ltF hx) (by
        rintro (e | e)
        · exact h.neDF hx e.symm
        · exact hne ((h.inj x hx p hpm (by rw [hpn]; exact e)).trans hpn))]
      exact h.files x hx
  · have hx' : ∃ x' ∈ A, x'.n = x.n := by rcases mem_setF hr.sorted hx with rfl | ⟨hx, _⟩; exact ⟨p, hpm, hpn⟩; exact ⟨x, hx, rfl⟩
    have hy' : ∃ y' ∈ A, y'.n = y.n := by rcases mem_setF hr.sorted hy with rfl | ⟨hy, _⟩; exact ⟨p, hpm, hpn⟩; exact ⟨y, hy, rfl⟩
    obtain ⟨x', hx', ex⟩ := hx'
    obtain ⟨y', hy', ey⟩ := hy'
    rw [← ex, ← ey] at e ⊢
    exact h.inj x' hx' y' hy' e
  · rcases mem_setF hr.sorted hx with rfl | ⟨hx, _⟩
    · rw [← hpn]; exact h.fF p hpm
    · exact h.fF x hx

end DM

/-- The disk at block D, of the blocks F. -/
structure DiskAt (W : World) (F : Nat → Prop) (D : Nat) (room : Int) (A : List FileP) (w : World) : Prop where
  right : RightD room A
  below : Below W.heap.size W w
  newF : ∀ k, F k → W.heap.size ≤ k
  mem : ∃ M β X, DM F D M β X room A w

/-- What has come to be since w. -/
abbrev Grow (F : Nat → Prop) (w : World) : Nat → Prop := fun k => F k ∨ w.heap.size ≤ k

/-! ### a look-up -/
section
variable {P : Program} (w : World) {ops : Array Oper} {rest : List Oper} {o : Oper} {a : Act} {Q : Exit → Act → World → Prop}

theorem look_hit (hg : o.guard = none) (m x : Operand) (hop : o.op = Op.lookup 325 m x true) (b n : Nat) (X : DataW Unit) (hm : a.eval m = .map (some b)) (hown : w.ownsMap Tryz.prog 3 ptrElem b n X)
    (k : Int) (hx : a.eval x = .int .i64 k) (hk : -9223372036854775808 ≤ k ∧ k ≤ 9223372036854775807) (B : Nat) (hhas : Maps.has X (.int .i64 k) = true) (hat : ∀ z, X.atKey (.int .i64 k) z = .lit (.int .i64 (B : Nat)))
    (hK : wpList Tryz.prog ops Q rest (a.put o.dst (.tuple #[.pointer (some ⟨B, 0, none⟩), .bool true])) w) : wpList Tryz.prog ops Q (o :: rest) a w :=
  wpList_lookup_own_ok w hg m x _ hop 3 372 keyLaw Tryz.underlying325 ptrElem (zeroP w) (.lit (.bool false)) [] rfl b n X hm hown _ _ hx (key64 hk) (fun v ps hv => by
    rw [hat] at hv
    obtain rfl := ptrElem_inv hv
    rw [hhas]; exact hK)

theorem look_miss (hg : o.guard = none) (m x : Operand) (hop : o.op = Op.lookup 325 m x true) (b n : Nat) (X : DataW Unit) (hm : a.eval m = .map (some b)) (hown : w.ownsMap Tryz.prog 3 ptrElem b n X)
    (k : Int) (hx : a.eval x = .int .i64 k) (hk : -9223372036854775808 ≤ k ∧ k ≤ 9223372036854775807) (hhas : Maps.has X (.int .i64 k) = false)
    (hK : wpList Tryz.prog ops Q rest (a.put o.dst (.tuple #[.pointer none, .bool false])) w) : wpList Tryz.prog ops Q (o :: rest) a w :=
  wpList_lookup_own_ok w hg m x _ hop 3 372 keyLaw Tryz.underlying325 ptrElem (zeroP w) (.lit (.bool false)) [] rfl b n X hm hown _ _ hx (key64 hk) (fun v ps hv => by
    rw [Maps.atKey_of_not_has hhas] at hv
    obtain rfl : v = .pointer none := by
      unfold ptrElem at hv
      split at hv
      · simp at hv
      · rfl
      · cases hv
    rw [hhas]; exact hK)

end

end Go.Proofs.YthhgfdeegnimjaaGreatDoor.Dsk
