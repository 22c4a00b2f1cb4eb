/- Parts of the proof, joined: The sum of a text, bit by bit, over 32 bits; and that two texts that differ in at most 32 bits side by side have unlike sums. No program here.; Bits of a text that are turned one by one, 32 side by side at the most. No program here.; Subjects and filters over lists of bytes: their tokens, what is right, who takes, overlaps, covers whom; and the laws of these. No program here.; Records over lists of bytes: what is right, how they are written and read; that what is written is read, and what is read is what is written. No program here.; A log on a disk in plain Lean: what Open tells and leaves, Append, Rewrite. No program here. -/
import Derived.Test.YtbgchhgdlceceaaGreatDoorLogPlaysUptoM9
import Derived.Lib.SplitLaws
namespace Go.Proofs.YtbgchhgdlceceaaGreatDoor.Crc

abbrev R := BitVec 32

def poly : R := 0xedb88320#32

/-- One step of the division. -/
def stp (r : R) : R := if r.getLsbD 0 then (r >>> 1) ^^^ poly else r >>> 1

def stps : Nat → R → R
  | 0, r => r
  | n + 1, r => stps n (stp r)

/-- A byte. -/
def byteStep (r : R) (b : UInt8) : R := stps 8 (r ^^^ BitVec.ofNat 32 b.toNat)

def crcL (l : List UInt8) : R := ~~~ (l.foldl byteStep 0xffffffff#32)

theorem stp_xor (a b : R) : stp (a ^^^ b) = stp a ^^^ stp b := by
  unfold stp
  rw [BitVec.getLsbD_xor, BitVec.ushiftRight_xor_distrib]
  cases a.getLsbD 0 <;> cases b.getLsbD 0 <;> simp
  · rw [BitVec.xor_assoc]
  · rw [BitVec.xor_assoc, BitVec.xor_assoc, BitVec.xor_comm poly (b >>> 1)]
  · rw [← BitVec.xor_assoc, BitVec.xor_assoc (a >>> 1) poly, BitVec.xor_comm poly, BitVec.xor_assoc (a >>> 1), BitVec.xor_assoc (b >>> 1), BitVec.xor_self, BitVec.xor_zero]

theorem stps_add (m n : Nat) (r : R) : stps (m + n) r = stps n (stps m r) := by
  induction m generalizing r with
  | zero => simp [stps]
  | succ m ih => rw [Nat.succ_add]; simp only [stps]; rw [ih]

/-- One message bit at a time. -/
def bitStep (r : R) (b : Bool) : R := stp (r ^^^ (if b then 1#32 else 0#32))

/-- The bits of x from the lowest on, n of them. -/
def low : Nat → Nat → List Bool
  | 0, _ => []
  | n + 1, x => (x % 2 == 1) :: low n (x / 2)

theorem ofNat_split (x : Nat) : BitVec.ofNat 32 x = (if (x % 2 == 1) then 1#32 else 0#32) ^^^ (BitVec.ofNat 32 (x / 2) <<< 1) := by
  apply BitVec.eq_of_getLsbD_eq
  intro i hi
  rw [BitVec.getLsbD_xor, BitVec.getLsbD_shiftLeft, BitVec.getLsbD_ofNat, BitVec.getLsbD_ofNat]
  cases i with
  | zero =>
    have : x.testBit 0 = (x % 2 == 1) := by rw [Nat.testBit_zero]; cases hx : (x % 2 == 1) <;> simp_all
    simp only [this]
    cases hx : (x % 2 == 1) <;> simp
  | succ i =>
    have h1 : x.testBit (i + 1) = (x / 2).testBit i := by rw [Nat.testBit_succ]
    rw [h1]
    cases hx : (x % 2 == 1) <;> simp [hi] <;> omega

theorem stp_shl (x : Nat) (h : x < 2 ^ 31) : stp (BitVec.ofNat 32 x <<< 1) = BitVec.ofNat 32 x := by
  unfold stp
  rw [if_neg (by simp)]
  apply BitVec.eq_of_getLsbD_eq
  intro i hi
  rw [BitVec.getLsbD_ushiftRight, BitVec.getLsbD_shiftLeft]
  by_cases h31 : 1 + i < 32
  · simp [h31, hi]
  · have : i = 31 := by omega
    subst this
    have h1 : (BitVec.ofNat 32 x).getLsbD 31 = false := by
      rw [BitVec.getLsbD_ofNat, Nat.testBit_lt_two_pow (by omega)]; rfl
    rw [h1]
    simp

/-- n message bits, one at a time, are the word of them at once. -/
theorem fold_low (n : Nat) : ∀ (x : Nat) (r : R), n ≤ 32 → x < 2 ^ n → (low n x).foldl bitStep r = stps n (r ^^^ BitVec.ofNat 32 x) := by
  induction n with
  | zero =>
    intro x r _ hx
    have : x = 0 := by simpa using hx
    subst this
    simp [low, stps]
  | succ n ih =>
    intro x r hn hx
    have hx2 : x / 2 < 2 ^ n := by rw [Nat.pow_succ] at hx; omega
    have h32 : 2 ^ (n + 1) ≤ 2 ^ 32 := Nat.pow_le_pow_right (by decide) hn
    have h31 : 2 ^ n ≤ 2 ^ 31 := Nat.pow_le_pow_right (by decide) (by omega)
    simp only [low, List.foldl_cons, stps]
    rw [ih (x / 2) _ (by omega) hx2]
    congr 1
    rw [ofNat_split x, ← BitVec.xor_assoc, stp_xor, stp_shl _ (by omega)]
    rfl

def low8 (b : UInt8) : List Bool := low 8 b.toNat

theorem byteStep_bits (r : R) (b : UInt8) : byteStep r b = (low8 b).foldl bitStep r :=
  (fold_low 8 b.toNat r (by decide) b.toNat_lt).symm

end Go.Proofs.YtbgchhgdlceceaaGreatDoor.Crc

namespace Go.Proofs.YtbgchhgdlceceaaGreatDoor.Crc

end Go.Proofs.YtbgchhgdlceceaaGreatDoor.Crc

namespace Go.Proofs.YtbgchhgdlceceaaGreatDoor.Subj

abbrev Tok := List UInt8

/-- A text's pieces between dots. -/
def pieces : List UInt8 → List Tok
  | [] => [[]]
  | b :: l => if b = 46 then [] :: pieces l else
    match pieces l with
    | p :: ps => (b :: p) :: ps
    | [] => [[b]]

theorem pieces_ne (l : List UInt8) : pieces l ≠ [] := by
  cases l with
  | nil => simp [pieces]
  | cons b l =>
    unfold pieces
    split
    · simp
    · split <;> simp

theorem pieces_len (l : List UInt8) : (pieces l).length = l.count 46 + 1 := by
  induction l with
  | nil => simp [pieces]
  | cons b l ih =>
    unfold pieces
    by_cases h : b = 46
    · rw [if_pos h, List.length_cons, ih, h]; simp
    · rw [if_neg h, List.count_cons_of_ne (by simpa using h)]
      split
      · rename_i p ps e
        rw [e] at ih
        simpa using ih
      · rename_i e
        exact absurd e (pieces_ne l)

open Go.Lib in
theorem index_dot (l : List UInt8) : (index l [46] = -1 ∧ pieces l = [l]) ∨ ∃ i : Nat, index l [46] = i ∧ i < l.length ∧ pieces l = l.take i :: pieces (l.drop (i + 1)) := by
  induction l with
  | nil => left; exact ⟨by simp [index], rfl⟩
  | cons b l ih =>
    by_cases h : b = 46
    · right
      subst h
      refine ⟨0, by rw [index]; simp [List.isPrefixOf], by simp, ?_⟩
      simp [pieces]
    · have hp : ([46] : List UInt8).isPrefixOf (b :: l) = false := by simp [List.isPrefixOf, Ne.symm h]
      have hix : index (b :: l) [46] = if index l [46] == -1 then -1 else index l [46] + 1 := by rw [index, hp]; simp
      rcases ih with ⟨h1, h2⟩ | ⟨i, h1, h2, h3⟩
      · left
        refine ⟨by rw [hix, h1]; rfl, ?_⟩
        unfold pieces
        rw [if_neg h, h2]
      · right
        refine ⟨i + 1, ?_, by simp; omega, ?_⟩
        · rw [hix, h1, if_neg (by intro e; have := beq_iff_eq.1 e; omega)]; omega
        · conv => lhs; unfold pieces
          rw [if_neg h, h3]
          simp

open Go.Lib in
theorem splitK_pieces : ∀ (k : Nat) (l : List UInt8), (pieces l).length ≤ k + 1 → splitK [46] 0 k l = pieces l
  | 0, l, h => by
    rcases index_dot l with ⟨_, h2⟩ | ⟨i, _, _, h3⟩
    · rw [h2]; rfl
    · rw [h3] at h
      have := List.length_pos_iff.2 (pieces_ne (l.drop (i + 1)))
      rw [List.length_cons] at h; omega
  | k + 1, l, h => by
    unfold splitK
    rcases index_dot l with ⟨h1, h2⟩ | ⟨i, h1, h2, h3⟩
    · rw [h1, h2]; rfl
    · rw [h1, if_neg (by intro e; have := beq_iff_eq.1 e; omega), h3]
      have := splitK_pieces k (l.drop (i + 1)) (by rw [h3] at h; simpa using h)
      rw [show ((i : Int).toNat + ([46] : List UInt8).length) = i + 1 from rfl, this]
      rfl

/-- A byte of a token. -/
def byteOk (b : UInt8) : Bool := decide (33 ≤ b.toNat) && decide (b.toNat ≤ 126) && b.toNat != 42 && b.toNat != 62

def tokenOk (t : Tok) : Bool := t.all byteOk && decide (1 ≤ t.length) && decide (t.length ≤ 16)

/-- Are all tokens right? -/
def okPieces (wild : Bool) : List Tok → Bool
  | [] => true
  | t :: ts => ((wild && (t == [42] || (t == [62] && ts.isEmpty))) || tokenOk t) && okPieces wild ts

/-- What is wrong with a subject (wild: a filter): 0: nothing; 2: too many tokens; 3: a token. -/
def err (wild : Bool) (l : List UInt8) : Nat := if 8 < (pieces l).length then 2 else if okPieces wild (pieces l) then 0 else 3

end Go.Proofs.YtbgchhgdlceceaaGreatDoor.Subj

namespace Go.Proofs.YtbgchhgdlceceaaGreatDoor.Rec
open Subj Pack Crc

structure Rc where
  kind : Int
  seq : Int
  time : Int
  subj : List UInt8
  head : List UInt8
  data : List UInt8

def Rc.zero : Rc := ⟨0, 0, 0, [], [], []⟩

def far : Int := 1099511627776

/-- What is wrong with a record. -/
def recErr (r : Rc) : Nat :=
  if r.kind < 1 ∨ 4 < r.kind ∨ r.seq < 1 ∨ far < r.seq ∨ r.time < 0 ∨ far < r.time then 1
  else if r.kind = 1 then if err false r.subj ≠ 0 then err false r.subj else if 256 < r.head.length + r.data.length then 2 else 0
  else if r.kind = 3 then if err true r.subj ≠ 0 then err true r.subj else if r.head = [] ∧ r.data = [] then 0 else 1
  else if r.subj = [] ∧ r.head = [] ∧ r.data = [] then 0 else 1

def bodyL (r : Rc) : List UInt8 := UInt8.ofNat r.kind.toNat :: (numL r.seq.toNat ++ (numL r.time.toNat ++ (textL r.subj ++ (textL r.head ++ textL r.data))))

/-- A number's four bytes. -/
def le4 (c : Nat) : List UInt8 := [UInt8.ofNat (c % 256), UInt8.ofNat (c / 256 % 256), UInt8.ofNat (c / 65536 % 256), UInt8.ofNat (c / 16777216 % 256)]
def sum4 (l : List UInt8) : List UInt8 := le4 (crcL l).toNat

def codedL (r : Rc) : List UInt8 := textL (bodyL r) ++ sum4 (bodyL r)

/-- What is left behind a number, behind a text. -/
def fB (l : List UInt8) : List UInt8 := l.drop (rdN l).2.1
def fT (l : List UInt8) : List UInt8 := l.drop (rdT l 1024).2.1

/-- The fields behind the kind: the record, what is left, is all right? -/
def fields (kind : Int) (l : List UInt8) : Rc × List UInt8 × Bool :=
  (⟨kind, (rdN l).1, (rdN (fB l)).1, (rdT (fB (fB l)) 1024).1, (rdT (fT (fB (fB l))) 1024).1, (rdT (fT (fT (fB (fB l)))) 1024).1⟩,
    fT (fT (fT (fB (fB l)))),
    (rdN l).2.2 == 0 && (rdN (fB l)).2.2 == 0 && (rdT (fB (fB l)) 1024).2.2 == 0 && (rdT (fT (fB (fB l))) 1024).2.2 == 0 && (rdT (fT (fT (fB (fB l)))) 1024).2.2 == 0)

/-- The record of a body whose sum is right. -/
def bodyR (k : UInt8) (rest : List UInt8) (n : Nat) : Rc × Nat × Nat :=
  if (fields k.toNat rest).2.2 = true ∧ (fields k.toNat rest).2.1 = [] ∧ recErr (fields k.toNat rest).1 = 0 then ((fields k.toNat rest).1, n, 0) else (Rc.zero, 0, 7)

/-- A record that is read: it, its bytes, what is wrong. -/
def decL (s : List UInt8) : Rc × Nat × Nat :=
  if (rdT s 1024).2.2 ≠ 0 then (Rc.zero, 0, (rdT s 1024).2.2)
  else if s.length < (rdT s 1024).2.1 + 4 then (Rc.zero, 0, 6)
  else match (rdT s 1024).1 with
    | [] => (Rc.zero, 0, 7)
    | k :: rest => if (s.drop (rdT s 1024).2.1).take 4 ≠ sum4 (k :: rest) then (Rc.zero, 0, 7) else bodyR k rest ((rdT s 1024).2.1 + 4)

/-! ### Sizes -/

theorem pieces_sum (l : List UInt8) : l.length + 1 = ((pieces l).map (fun t => t.length + 1)).sum := by
  induction l with
  | nil => simp [pieces]
  | cons b l ih =>
    unfold pieces
    split
    · simp; omega
    · split
      · rename_i p ps e
        rw [e] at ih
        simp at ih ⊢; omega
      · rename_i e
        exact absurd e (pieces_ne l)

theorem sum_le (L : List Tok) (h : ∀ t ∈ L, t.length ≤ 16) : (L.map (fun t => t.length + 1)).sum ≤ 17 * L.length := by
  induction L with
  | nil => simp
  | cons t L ih =>
    have h1 := h t (by simp)
    have h2 := ih (fun t ht => h t (by simp [ht]))
    simp; omega

theorem okPieces_len (wild : Bool) : ∀ L : List Tok, okPieces wild L = true → ∀ t ∈ L, t.length ≤ 16
  | [], _, t, ht => by cases ht
  | x :: L, h, t, ht => by
    simp only [okPieces, Bool.and_eq_true] at h
    rcases List.mem_cons.1 ht with rfl | ht
    · rcases Bool.or_eq_true_iff.1 h.1 with h1 | h1
      · simp only [Bool.and_eq_true, Bool.or_eq_true, beq_iff_eq] at h1
        rcases h1.2 with h2 | h2
        · rw [h2]; decide
        · rw [h2.1]; decide
      · simp only [tokenOk, Bool.and_eq_true, decide_eq_true_eq] at h1
        exact h1.2
    · exact okPieces_len wild L h.2 t ht

theorem err_len {wild : Bool} {l : List UInt8} (h : err wild l = 0) : l.length ≤ 135 := by
  unfold err at h
  split at h
  · cases h
  · split at h
    · rename_i h1 h2
      have h3 := pieces_sum l
      have h4 := sum_le _ (okPieces_len wild _ h2)
      omega
    · cases h

theorem textL_len (t : List UInt8) : t.length + 1 ≤ (textL t).length ∧ (textL t).length ≤ t.length + 9 := by
  have h1 := numL_len t.length
  have h2 := numF_pos 8 t.length
  have h3 : (numL t.length).length = (numF (8 + 1) t.length).length := rfl
  unfold textL
  simp only [List.length_append]
  omega

theorem recErr_sizes {r : Rc} (h : recErr r = 0) : 1 ≤ r.kind ∧ r.kind ≤ 4 ∧ 1 ≤ r.seq ∧ r.seq ≤ far ∧ 0 ≤ r.time ∧ r.time ≤ far ∧ r.subj.length ≤ 135 ∧ r.head.length + r.data.length ≤ 256 := by
  unfold recErr at h
  split at h
  · cases h
  · rename_i h0
    simp only [not_or, Int.not_lt] at h0
    obtain ⟨a, b, c, d, e, f⟩ := h0
    refine ⟨a, b, c, d, e, f, ?_⟩
    split at h
    · split at h
      · rename_i h1; exact absurd h h1
      · rename_i h1
        split at h
        · cases h
        · rename_i h2
          exact ⟨err_len (by simpa using h1), by omega⟩
    · split at h
      · split at h
        · rename_i h1; exact absurd h h1
        · rename_i h1
          split at h
          · rename_i h2
            exact ⟨err_len (by simpa using h1), by rw [h2.1, h2.2]; decide⟩
          · cases h
      · split at h
        · rename_i h2
          rw [h2.1, h2.2.1, h2.2.2]; decide
        · cases h

theorem bodyL_len {r : Rc} (h : recErr r = 0) : 6 ≤ (bodyL r).length ∧ (bodyL r).length ≤ 1024 := by
  obtain ⟨_, _, _, _, _, _, h1, h2⟩ := recErr_sizes h
  have t1 := textL_len r.subj
  have t2 := textL_len r.head
  have t3 := textL_len r.data
  have n1 := numL_len r.seq.toNat
  have n2 := numL_len r.time.toNat
  have p1 : 0 < (numL r.seq.toNat).length := numF_pos 8 _
  have p2 : 0 < (numL r.time.toNat).length := numF_pos 8 _
  unfold bodyL
  simp only [List.length_cons, List.length_append]
  omega

/-! ### What is written is read -/

theorem sum4_len (l : List UInt8) : (sum4 l).length = 4 := rfl

/-! ### What is read is what is written -/

theorem take_drop_eq {s : List UInt8} {a : List UInt8} {k : Nat} (h : a = s.take k) : s = a ++ s.drop k := by
  rw [h, List.take_append_drop]

theorem rdN_rest {s : List UInt8} (h : (rdN s).2.2 = 0) : (rdN s).1 < 2 ^ 63 ∧ s = numL (rdN s).1 ++ s.drop (rdN s).2.1 := by
  obtain ⟨_, _, h1, h2⟩ := ((rdN_one s (rdN s).1 (rdN s).2.1 (by rw [← h])))
  exact ⟨by assumption, take_drop_eq h2⟩

theorem rdT_rest {s : List UInt8} {most : Int} (h : (rdT s most).2.2 = 0) : ((rdT s most).1.length : Int) ≤ most ∧ (rdT s most).2.1 ≤ s.length ∧ (textL (rdT s most).1).length = (rdT s most).2.1 ∧ s = textL (rdT s most).1 ++ s.drop (rdT s most).2.1 := by
  rcases rdT_cases s most with ⟨t, k, e, h1, _, h3, h4, h5⟩ | e | e
  · rw [e]
    exact ⟨h1, h3, h5.symm, take_drop_eq h4⟩
  · rw [e] at h; cases h
  · rw [e] at h; cases h

theorem fields_one {k : UInt8} {l : List UInt8} {f : Rc × List UInt8 × Bool} (hf : fields k.toNat l = f) (h : f.2.2 = true) (h2 : f.2.1 = []) : k :: l = bodyL f.1 := by
  subst hf
  unfold fields at h h2 ⊢
  generalize hx1 : fB l = l1 at *
  generalize hx2 : fB l1 = l2 at *
  generalize hx3 : fT l2 = l3 at *
  generalize hx4 : fT l3 = l4 at *
  generalize hx5 : fT l4 = l5 at *
  simp only [Bool.and_eq_true, beq_iff_eq] at h
  obtain ⟨⟨⟨⟨ha, hb⟩, hc⟩, hd⟩, he⟩ := h
  obtain ⟨_, ea⟩ := rdN_rest ha
  obtain ⟨_, eb⟩ := rdN_rest hb
  obtain ⟨_, _, _, ec⟩ := rdT_rest hc
  obtain ⟨_, _, _, ed⟩ := rdT_rest hd
  obtain ⟨_, _, _, ee⟩ := rdT_rest he
  simp only at h2
  unfold fB at hx1 hx2
  unfold fT at hx3 hx4 hx5
  rw [hx1] at ea
  rw [hx2] at eb
  rw [hx3] at ec
  rw [hx4] at ed
  rw [hx5, h2, List.append_nil] at ee
  clear hx1 hx2 hx3 hx4 hx5
  have hk : UInt8.ofNat (Int.toNat (k.toNat : Int)) = k := by simp
  unfold bodyL
  rw [hk]
  exact congrArg (List.cons k) (ea.trans (congrArg _ (eb.trans (congrArg _ (ec.trans (congrArg _ (ed.trans (congrArg _ ee))))))))

theorem take_app (T D : List UInt8) (k : Nat) (h : T.length = k) : (T ++ D).take (k + 4) = T ++ D.take 4 := by
  subst h
  rw [List.take_append, List.take_of_length_le (by omega)]
  congr 2; omega

theorem decL_one {s : List UInt8} {r : Rc} {n : Nat} (h : decL s = (r, n, 0)) : recErr r = 0 ∧ n ≤ s.length ∧ codedL r = s.take n := by
  unfold decL at h
  split at h
  · rename_i h0
    simp only [Prod.mk.injEq] at h
    exact absurd h.2.2 h0
  · rename_i h0
    have h0' : (rdT s 1024).2.2 = 0 := by simpa using h0
    obtain ⟨h1, h2, h3, h4⟩ := rdT_rest h0'
    split at h
    · simp only [Prod.mk.injEq] at h
      exact absurd h.2.2 (by decide)
    · rename_i h5
      split at h
      · simp only [Prod.mk.injEq] at h
        exact absurd h.2.2 (by decide)
      · rename_i k rest hb
        split at h
        · simp only [Prod.mk.injEq] at h
          exact absurd h.2.2 (by decide)
        · rename_i h6
          unfold bodyR at h
          split at h
          · rename_i h7
            obtain ⟨h7, h8, h9⟩ := h7
            simp only [Prod.mk.injEq] at h
            obtain ⟨rfl, rfl, _⟩ := h
            have hbody := fields_one rfl h7 h8
            refine ⟨h9, by omega, ?_⟩
            unfold codedL
            rw [← hbody, ← hb]
            have h6' : (s.drop (rdT s 1024).2.1).take 4 = sum4 (k :: rest) := by simpa using h6
            rw [← hb] at h6'
            rw [← h6']
            have key := take_app (textL (rdT s 1024).1) (s.drop (rdT s 1024).2.1) (rdT s 1024).2.1 h3
            rw [← h4] at key
            exact key.symm
          · simp only [Prod.mk.injEq] at h
            exact absurd h.2.2 (by decide)

end Go.Proofs.YtbgchhgdlceceaaGreatDoor.Rec

namespace Go.Proofs.YtbgchhgdlceceaaGreatDoor.Log
open Dsk Rec

/-- A block's records, and how many bytes they have. -/
def scanF : Nat → List UInt8 → List Rc × Nat
  | 0, _ => ([], 0)
  | f + 1, s => if s = [] then ([], 0) else if (decL s).2.2 ≠ 0 then ([], 0)
    else ((decL s).1 :: (scanF f (s.drop (decL s).2.1)).1, (decL s).2.1 + (scanF f (s.drop (decL s).2.1)).2)

def scan (s : List UInt8) : List Rc × Nat := scanF s.length s

def openD : List FileP → List Rc × List FileP
  | [] => ([], [])
  | p :: r =>
    if (scan p.text).2 < p.text.length then ((scan p.text).1, [⟨p.n, p.text.take (scan p.text).2, (scan p.text).2⟩])
    else ((scan p.text).1 ++ (openD r).1, p :: (openD r).2)

/-- The last block and its bytes. -/
def lastD (A : List FileP) : Int × Nat := match A.getLast? with
  | none => (-1, 0)
  | some p => (p.n, p.text.length)

def putD (room size : Int) (A : List FileP) (s : List UInt8) : List FileP × Nat :=
  match A.getLast? with
  | none => appD room A 0 s
  | some p => if 0 < p.text.length ∧ size < p.text.length + s.length then appD room (syncD A p.n).1 (p.n + 1) s else appD room A p.n s

def logD (room size : Int) (A : List FileP) (r : Rc) : List FileP × Nat :=
  if recErr r ≠ 0 then (A, recErr r) else putD room size A (codedL r)

def syncL (A : List FileP) : List FileP := match A.getLast? with
  | none => A
  | some p => (syncD A p.n).1

def textsL (rs : List Rc) : List UInt8 := rs.flatMap codedL

/-- The first error among some records. -/
def errL : List Rc → Nat
  | [] => 0
  | r :: l => if recErr r ≠ 0 then recErr r else errL l

def rewD (room size : Int) (A : List FileP) (rs : List Rc) : List FileP × Nat :=
  if errL rs ≠ 0 then (A, errL rs)
  else if 1 < rs.length ∧ size < (textsL rs).length then (A, 8)
  else
    let n := (lastD A).1 + 1
    if (appD room A n (textsL rs)).2 ≠ 0 then (A, (appD room A n (textsL rs)).2) else ([⟨n, textsL rs, (textsL rs).length⟩], 0)
end Go.Proofs.YtbgchhgdlceceaaGreatDoor.Log
