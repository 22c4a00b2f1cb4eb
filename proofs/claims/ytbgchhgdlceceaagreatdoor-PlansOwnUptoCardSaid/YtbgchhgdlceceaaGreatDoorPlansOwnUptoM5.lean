/- Parts of the proof, joined: How a consumer's text is read: in plain Lean.; How a plan is printed: in plain Lean.; How a consumer's plan is printed: in plain Lean.; Numbers as bytes: how a number is written, how it is read, and that the two fit. Plain lists of bytes; no program here.; The sum of a text, bit by bit, over 32 bits; and that two texts that differ in at most 32 bits side by side have unlike sums. No program here. -/
import Derived.Test.YtbgchhgdlceceaaGreatDoorPlansOwnUptoM4
import Derived.Lib.Join
import Derived.Lib.ItoaNum
namespace Go.Proofs.YtbgchhgdlceceaaGreatDoor.Subj

structure TakerP where
  name : List UInt8
  filt : List UInt8
  src : Int
  start : Int
  ack : Int
  wait : Int
  back : List Int
  most : Int
  pend : Int
  push : Bool

/-- The beginnings of the options, in their order: "from=", "ack=", "wait=", "backoff=", "most=", "pending=", "push". -/
def heads : List Tok := [[102, 114, 111, 109, 61], [97, 99, 107, 61], [119, 97, 105, 116, 61], [98, 97, 99, 107, 111, 102, 102, 61], [109, 111, 115, 116, 61], [112, 101, 110, 100, 105, 110, 103, 61], [112, 117, 115, 104]]

def lastW : Tok := [108, 97, 115, 116]
def newW : Tok := [110, 101, 119]
def noneW : Tok := [110, 111, 110, 101]
def allW : Tok := [97, 108, 108]

/-- An option is laid into a plan; none: it is none. -/
def optT (i : Nat) (v : Tok) (t : TakerP) : Option TakerP :=
  match i with
  | 0 => if v = lastW then some { t with src := 1 } else if v = newW then some { t with src := 2 } else if 0 < numberOf v then some { t with src := 3, start := numberOf v } else none
  | 1 => if v = noneW then some { t with ack := 0 } else if v = allW then some { t with ack := 1 } else none
  | 2 => if 0 < numberOf v then some { t with wait := numberOf v } else none
  | 3 => if ((piecesC 44 v).all fun x => decide (0 < numberOf x)) = true then some { t with back := t.back ++ (piecesC 44 v).map numberOf } else none
  | 4 => if 0 < numberOf v then some { t with most := numberOf v } else none
  | 5 => if 0 < numberOf v then some { t with pend := numberOf v } else none
  | _ => if v = [] then some { t with push := true } else none

/-- What is told from the option i on. -/
def seqF : Nat → Nat → List Tok → TakerP → Option TakerP
  | 0, _, r, t => if r = [] then some t else none
  | k + 1, i, r, t =>
    match r with
    | [] => seqF k (i + 1) [] t
    | x :: r' => if (heads.getD i []).isPrefixOf x = true then (optT i (x.drop (heads.getD i []).length) t).bind (seqF k (i + 1) r') else seqF k (i + 1) (x :: r') t

def seqT (i : Nat) (r : List Tok) (t : TakerP) : Option TakerP := seqF (7 - i) i r t

theorem seqT_no {i : Nat} (hi : i < 7) (x : Tok) (r : List Tok) (t : TakerP) (h : (heads.getD i []).isPrefixOf x = false) : seqT i (x :: r) t = seqT (i + 1) (x :: r) t := by
  unfold seqT
  obtain ⟨k, hk⟩ : ∃ k, 7 - i = k + 1 := ⟨6 - i, by omega⟩
  have hk2 : 7 - (i + 1) = k := by omega
  rw [hk, hk2]
  conv => lhs; unfold seqF
  simp only [h, Bool.false_eq_true, if_false]

theorem seqT_yes {i : Nat} (hi : i < 7) (x : Tok) (r : List Tok) (t : TakerP) (h : (heads.getD i []).isPrefixOf x = true) : seqT i (x :: r) t = (optT i (x.drop (heads.getD i []).length) t).bind (seqT (i + 1) r) := by
  unfold seqT
  obtain ⟨k, hk⟩ : ∃ k, 7 - i = k + 1 := ⟨6 - i, by omega⟩
  have hk2 : 7 - (i + 1) = k := by omega
  rw [hk, hk2]
  conv => lhs; unfold seqF
  simp only [h, if_true]

theorem seqT_none {i : Nat} (hi : i < 7) (t : TakerP) : seqT i [] t = seqT (i + 1) [] t := by
  unfold seqT
  obtain ⟨k, hk⟩ : ∃ k, 7 - i = k + 1 := ⟨6 - i, by omega⟩
  have hk2 : 7 - (i + 1) = k := by omega
  rw [hk, hk2]
  rfl

def errT (t : TakerP) : Nat := takerErr t.name t.filt t.src t.start t.ack t.wait t.back t.most t.pend

end Go.Proofs.YtbgchhgdlceceaaGreatDoor.Subj

namespace Go.Proofs.YtbgchhgdlceceaaGreatDoor.Subj

end Go.Proofs.YtbgchhgdlceceaaGreatDoor.Subj

namespace Go.Proofs.YtbgchhgdlceceaaGreatDoor.Subj

/-- What a right plan's parts are. -/
theorem errT_facts {t : TakerP} (h : errT t = 0) : nameOk t.name = true ∧ err true t.filt = 0 ∧ t.back.length ≤ 5 ∧ argsOk t.src t.start t.ack t.wait t.back t.most t.pend = true := by
  unfold errT takerErr at h
  split at h
  · rename_i h1
    split at h
    · rename_i h2
      split at h
      · cases h
      · split at h
        · rename_i h3 h4; exact ⟨h1, h2, by omega, h4⟩
        · cases h
    · contradiction
  · cases h

theorem inB_iff {n lo hi : Int} : inB n lo hi = true ↔ lo ≤ n ∧ n ≤ hi := by
  unfold inB; rw [Bool.and_eq_true, decide_eq_true_eq, decide_eq_true_eq]

theorem argsOk_facts {src start ack wait : Int} {back : List Int} {most pend : Int} (h : argsOk src start ack wait back most pend = true) :
    (0 ≤ src ∧ src ≤ 3) ∧ (src = 3 → 1 ≤ start ∧ start ≤ 999999999) ∧ (0 ≤ start ∧ start ≤ 999999999) ∧ (0 ≤ ack ∧ ack ≤ 2) ∧ (0 ≤ wait ∧ wait ≤ 100000) ∧ (ack ≠ 0 → 1 ≤ wait) ∧ (ack = 0 → wait = 0) ∧ (0 ≤ most ∧ most ≤ 20) ∧ (0 ≤ pend ∧ pend ≤ 50) ∧ ∀ k, k < back.length → 1 ≤ back.getD k 0 ∧ back.getD k 0 ≤ 100000 := by
  unfold argsOk at h
  simp only [Bool.and_eq_true] at h
  obtain ⟨⟨⟨h1, h2⟩, h3⟩, h4⟩ := h
  rw [inB_iff] at h1 h3
  have hst : (src = 3 → 1 ≤ start ∧ start ≤ 999999999) ∧ (0 ≤ start ∧ start ≤ 999999999) := by
    unfold startOk at h2
    by_cases e : src = 3
    · rw [e, if_pos (show ((3 : Int) == 3) = true from rfl), inB_iff] at h2
      exact ⟨fun _ => h2, by omega⟩
    · rw [if_neg (by simpa using e), beq_iff_eq] at h2
      exact ⟨fun e2 => absurd e2 e, by omega⟩
  refine ⟨h1, hst.1, hst.2, h3, ?_⟩
  unfold timesOk at h4
  by_cases e : ack = 0
  · rw [e, if_pos (show ((0 : Int) == 0) = true from rfl)] at h4
    simp only [Bool.and_eq_true, beq_iff_eq] at h4
    obtain ⟨⟨⟨g1, g2⟩, g3⟩, g4⟩ := h4
    exact ⟨by omega, fun h => absurd e h, fun _ => g1, by omega, by omega, fun k hk => by omega⟩
  · rw [if_neg (by simpa using e)] at h4
    simp only [Bool.and_eq_true] at h4
    obtain ⟨⟨⟨g1, g2⟩, g3⟩, g4⟩ := h4
    rw [inB_iff] at g1 g2 g3
    refine ⟨by omega, fun _ => g1.1, fun h => absurd h e, by omega, by omega, fun k hk => ?_⟩
    rw [List.all_eq_true] at g4
    have := g4 (back.getD k 0) (by simp [List.getD, hk])
    rwa [inB_iff] at this

end Go.Proofs.YtbgchhgdlceceaaGreatDoor.Subj

namespace Go.Proofs.YtbgchhgdlceceaaGreatDoor.Pack

/-- What is written of n, in at most f bytes. -/
def numF : Nat → Nat → List UInt8
  | 0, _ => []
  | f + 1, n => if n < 128 then [UInt8.ofNat n] else UInt8.ofNat (128 + n % 128) :: numF f (n / 128)

/-- What is written of a number below 2^63. -/
def numL (n : Nat) : List UInt8 := numF 9 n

/-- What is read at byte i, acc read so far: the number, how many bytes, the error. -/
def rdL : Nat → Nat → List UInt8 → Nat × Nat × Nat
  | _, _, [] => (0, 0, 6)
  | i, acc, b :: l =>
    if (128 ≤ b.toNat ∧ i = 8) ∨ (b.toNat = 0 ∧ 0 < i) then (0, 0, 7)
    else if b.toNat < 128 then (acc + b.toNat * 128 ^ i, i + 1, 0)
    else rdL (i + 1) (acc + (b.toNat - 128) * 128 ^ i) l

def rdN (l : List UInt8) : Nat × Nat × Nat := rdL 0 0 l

theorem numF_len (f n : Nat) : (numF f n).length ≤ f := by
  induction f generalizing n with
  | zero => simp [numF]
  | succ f ih => unfold numF; split <;> simp; have := ih (n / 128); omega

theorem numF_pos (f n : Nat) : 0 < (numF (f + 1) n).length := by
  unfold numF; split <;> simp

theorem numL_len (n : Nat) : (numL n).length ≤ 9 := numF_len 9 n

theorem ofNat_toNat_lt (n : Nat) (h : n < 256) : (UInt8.ofNat n).toNat = n := by
  simp [UInt8.toNat_ofNat']; omega

theorem pow_pos' (i : Nat) : 0 < 128 ^ i := Nat.pow_pos (by decide)

theorem rdL_num (f i acc n : Nat) (more : List UInt8) (hf : i + f = 8) (hn : n < 128 ^ (f + 1)) (hp : 0 < i → 0 < n) :
    rdL i acc (numF (f + 1) n ++ more) = (acc + n * 128 ^ i, i + (numF (f + 1) n).length, 0) := by
  induction f generalizing i acc n with
  | zero =>
    have h : n < 128 := by simpa using hn
    unfold numF
    rw [if_pos h]
    simp only [List.cons_append, List.nil_append, rdL]
    rw [ofNat_toNat_lt n (by omega), if_neg (by rintro (⟨a, _⟩ | ⟨a, b⟩); { omega }; { have := hp b; omega }), if_pos h]
    simp
  | succ f ih =>
    unfold numF
    by_cases h : n < 128
    · rw [if_pos h]
      simp only [List.cons_append, List.nil_append, rdL]
      rw [ofNat_toNat_lt n (by omega), if_neg (by rintro (⟨a, _⟩ | ⟨a, b⟩); { omega }; { have := hp b; omega }), if_pos h]
      simp
    · rw [if_neg h]
      simp only [List.cons_append, rdL]
      rw [ofNat_toNat_lt _ (by omega), if_neg (by omega), if_neg (by omega),
        ih (i + 1) _ (n / 128) (by omega) (by rw [Nat.div_lt_iff_lt_mul (by decide)]; simpa [Nat.pow_succ] using hn) (by intro; omega)]
      simp only [Prod.mk.injEq, List.length_cons, and_true]
      refine ⟨?_, by omega⟩
      have e : 128 + n % 128 - 128 = n % 128 := by omega
      rw [e, Nat.pow_succ]
      have hd := Nat.div_add_mod n 128
      generalize 128 ^ i = p at *
      have : n * p = (128 * (n / 128) + n % 128) * p := by rw [hd]
      rw [this, Nat.add_mul, Nat.mul_comm p 128, ← Nat.mul_assoc, Nat.mul_comm (n / 128) 128]
      omega

theorem rdL_front (f i acc n j : Nat) (hf : i + f = 8) (hn : n < 128 ^ (f + 1)) (hj : j < (numF (f + 1) n).length) :
    rdL i acc ((numF (f + 1) n).take j) = (0, 0, 6) := by
  induction f generalizing i acc n j with
  | zero =>
    have h : n < 128 := by simpa using hn
    unfold numF at hj ⊢
    rw [if_pos h] at hj ⊢
    have : j = 0 := by simpa using hj
    subst this
    rfl
  | succ f ih =>
    unfold numF at hj ⊢
    by_cases h : n < 128
    · rw [if_pos h] at hj ⊢
      have : j = 0 := by simpa using hj
      subst this
      rfl
    · rw [if_neg h] at hj ⊢
      cases j with
      | zero => rfl
      | succ j =>
        simp only [List.take_succ_cons, rdL]
        rw [ofNat_toNat_lt _ (by omega), if_neg (by omega), if_neg (by omega)]
        exact ih (i + 1) _ (n / 128) j (by omega) (by rw [Nat.div_lt_iff_lt_mul (by decide)]; simpa [Nat.pow_succ] using hn) (by simpa using hj)

theorem rdL_one (f i acc : Nat) (s : List UInt8) (n k : Nat) (hf : i + f = 8) (h : rdL i acc s = (n, k, 0)) :
    ∃ m, n = acc + m * 128 ^ i ∧ m < 128 ^ (f + 1) ∧ i < k ∧ k ≤ i + s.length ∧ numF (f + 1) m = s.take (k - i) ∧ (0 < i → 0 < m) := by
  induction f generalizing i acc s with
  | zero =>
    cases s with
    | nil => simp [rdL] at h
    | cons b l =>
      simp only [rdL] at h
      split at h
      · simp at h
      · rename_i h1
        split at h
        · rename_i h2
          simp only [Prod.mk.injEq, and_true] at h
          obtain ⟨rfl, rfl⟩ := h
          refine ⟨b.toNat, rfl, by omega, by omega, by simp, ?_, by omega⟩
          have e : i + 1 - i = 1 := by omega
          rw [e]
          simp [numF, h2]
        · omega
  | succ f ih =>
    cases s with
    | nil => simp [rdL] at h
    | cons b l =>
      simp only [rdL] at h
      split at h
      · simp at h
      · rename_i h1
        split at h
        · rename_i h2
          simp only [Prod.mk.injEq, and_true] at h
          obtain ⟨rfl, rfl⟩ := h
          refine ⟨b.toNat, rfl, ?_, by omega, by simp, ?_, by omega⟩
          · have : 128 ≤ 128 ^ (f + 1 + 1) := by rw [Nat.pow_succ]; have := pow_pos' (f + 1); omega
            omega
          · have e : i + 1 - i = 1 := by omega
            rw [e]
            simp [numF, h2]
        · rename_i h2
          obtain ⟨m, rfl, hm, hik, hk, hnum, hmp⟩ := ih (i + 1) _ l (by omega) h
          have hb := b.toNat_lt
          have hmp := hmp (by omega)
          refine ⟨b.toNat - 128 + 128 * m, ?_, ?_, by omega, by simp; omega, ?_, by omega⟩
          · rw [Nat.pow_succ, Nat.add_mul]
            generalize 128 ^ i = p
            rw [Nat.mul_comm 128 m, Nat.mul_assoc m 128 p, Nat.mul_comm p 128]
            omega
          · rw [Nat.pow_succ]; omega
          · have e : k - i = (k - (i + 1)) + 1 := by omega
            rw [e, List.take_succ_cons, ← hnum]
            have h3 : ¬ (b.toNat - 128 + 128 * m < 128) := by omega
            conv => lhs; unfold numF
            rw [if_neg h3]
            have e1 : (b.toNat - 128 + 128 * m) % 128 = b.toNat - 128 := by omega
            have e2 : (b.toNat - 128 + 128 * m) / 128 = m := by omega
            rw [e1, e2]
            have e3 : 128 + (b.toNat - 128) = b.toNat := by omega
            rw [e3]
            simp

/-- What is written is read. -/
theorem rdN_num (n : Nat) (more : List UInt8) (hn : n < 2 ^ 63) : rdN (numL n ++ more) = (n, (numL n).length, 0) := by
  have := rdL_num 8 0 0 n more rfl (by simpa using hn) (by omega)
  simpa [rdN, numL] using this

theorem rdN_front (n j : Nat) (hn : n < 2 ^ 63) (hj : j < (numL n).length) : rdN ((numL n).take j) = (0, 0, 6) :=
  rdL_front 8 0 0 n j rfl (by simpa using hn) hj

/-- What is read is written as just those bytes. -/
theorem rdN_one (s : List UInt8) (n k : Nat) (h : rdN s = (n, k, 0)) : n < 2 ^ 63 ∧ 0 < k ∧ k ≤ s.length ∧ numL n = s.take k := by
  obtain ⟨m, h1, h2, h3, h4, h5, _⟩ := rdL_one 8 0 0 s n k rfl h
  simp at h1 h4 h5
  subst h1
  exact ⟨by simpa using h2, h3, h4, h5⟩

theorem rdL_err (s : List UInt8) : ∀ i acc, (rdL i acc s).2.2 = 0 ∨ rdL i acc s = (0, 0, 6) ∨ rdL i acc s = (0, 0, 7) := by
  induction s with
  | nil => intro i acc; right; left; rfl
  | cons b l ih =>
    intro i acc
    simp only [rdL]
    split
    · right; right; rfl
    · split
      · left; rfl
      · exact ih _ _

/-- The three forms that an answer has. -/
theorem rdN_cases (s : List UInt8) : (∃ n k, rdN s = (n, k, 0) ∧ n < 2 ^ 63 ∧ 0 < k ∧ k ≤ s.length ∧ k ≤ 9 ∧ numL n = s.take k) ∨ rdN s = (0, 0, 6) ∨ rdN s = (0, 0, 7) := by
  rcases rdL_err s 0 0 with h | h | h
  · left
    obtain ⟨n, k, e⟩ : ∃ n k, rdN s = (n, k, 0) := ⟨(rdN s).1, (rdN s).2.1, by
      have : rdN s = ((rdN s).1, (rdN s).2.1, (rdN s).2.2) := rfl
      rw [this]; simp only [Prod.mk.injEq, true_and]; exact h⟩
    obtain ⟨a, b, c, d⟩ := rdN_one s n k e
    refine ⟨n, k, e, a, b, c, ?_, d⟩
    have := numL_len n
    rw [d, List.length_take] at this
    omega
  · right; left; exact h
  · right; right; exact h

/-- A text with its length ahead. -/
def textL (t : List UInt8) : List UInt8 := numL t.length ++ t

/-- What is read of a text of at most 'most' bytes: the text, how many bytes, the error. -/
def rdT (l : List UInt8) (most : Int) : List UInt8 × Nat × Nat :=
  if (rdN l).2.2 ≠ 0 then ([], 0, (rdN l).2.2)
  else if most < ((rdN l).1 : Int) then ([], 0, 7)
  else if l.length - (rdN l).2.1 < (rdN l).1 then ([], 0, 6)
  else ((l.drop (rdN l).2.1).take (rdN l).1, (rdN l).2.1 + (rdN l).1, 0)

theorem rdT_text (t more : List UInt8) (most : Int) (ht : t.length < 2 ^ 63) (hm : (t.length : Int) ≤ most) :
    rdT (textL t ++ more) most = (t, (textL t).length, 0) := by
  have h := rdN_num t.length (t ++ more) ht
  unfold rdT textL
  rw [List.append_assoc, h]
  have h2 : ¬ (most < (t.length : Int)) := by omega
  simp [h2]

theorem rdT_front (t : List UInt8) (most : Int) (j : Nat) (ht : t.length < 2 ^ 63) (hm : (t.length : Int) ≤ most) (hj : j < (textL t).length) :
    rdT ((textL t).take j) most = ([], 0, 6) := by
  unfold textL at hj ⊢
  by_cases h : j < (numL t.length).length
  · have e : (numL t.length ++ t).take j = (numL t.length).take j := by
      rw [List.take_append_of_le_length (by omega)]
    rw [e]
    unfold rdT
    rw [rdN_front _ _ ht h]
    simp
  · have e : (numL t.length ++ t).take j = numL t.length ++ t.take (j - (numL t.length).length) := by
      rw [List.take_append]
      rw [List.take_of_length_le (by omega)]
    rw [e]
    unfold rdT
    rw [rdN_num _ _ ht]
    have h2 : ¬ (most < (t.length : Int)) := by omega
    simp only [ne_eq, not_true, if_false, h2, List.length_append, List.length_take]
    rw [if_pos]
    simp only [List.length_append] at hj
    omega

/-- The three forms that an answer has. -/
theorem rdT_cases (s : List UInt8) (most : Int) : (∃ t k, rdT s most = (t, k, 0) ∧ (t.length : Int) ≤ most ∧ t.length < 2 ^ 63 ∧ k ≤ s.length ∧ textL t = s.take k ∧ k = (textL t).length) ∨ rdT s most = ([], 0, 6) ∨ rdT s most = ([], 0, 7) := by
  rcases rdN_cases s with ⟨n, k, h, h1, h2, h3, h4, h5⟩ | h | h
  · unfold rdT
    rw [h]
    simp only [ne_eq, not_true, if_false]
    split
    · right; right; rfl
    · split
      · right; left; rfl
      · left
        rename_i ha hb
        have hl : ((s.drop k).take n).length = n := by simp; omega
        refine ⟨_, _, rfl, by omega, by omega, by omega, ?_, ?_⟩
        · unfold textL
          rw [hl, h5, List.take_add]
        · unfold textL
          rw [List.length_append, hl, h5, List.length_take]
          omega
  · right; left; unfold rdT; rw [h]; simp
  · right; right; unfold rdT; rw [h]; simp

end Go.Proofs.YtbgchhgdlceceaaGreatDoor.Pack

namespace Go.Proofs.YtbgchhgdlceceaaGreatDoor.Crc

abbrev R := BitVec 32

def poly : R := 0xedb88320#32

/-- One step of the division. -/
def stp (r : R) : R := if r.getLsbD 0 then (r >>> 1) ^^^ poly else r >>> 1

def stps : Nat → R → R
  | 0, r => r
  | n + 1, r => stps n (stp r)

/-- A byte. -/
def byteStep (r : R) (b : UInt8) : R := stps 8 (r ^^^ BitVec.ofNat 32 b.toNat)

def crcL (l : List UInt8) : R := ~~~ (l.foldl byteStep 0xffffffff#32)

theorem stps_add (m n : Nat) (r : R) : stps (m + n) r = stps n (stps m r) := by
  induction m generalizing r with
  | zero => simp [stps]
  | succ m ih => rw [Nat.succ_add]; simp only [stps]; rw [ih]

/-- The bits of x from the lowest on, n of them. -/
def low : Nat → Nat → List Bool
  | 0, _ => []
  | n + 1, x => (x % 2 == 1) :: low n (x / 2)

end Go.Proofs.YtbgchhgdlceceaaGreatDoor.Crc
