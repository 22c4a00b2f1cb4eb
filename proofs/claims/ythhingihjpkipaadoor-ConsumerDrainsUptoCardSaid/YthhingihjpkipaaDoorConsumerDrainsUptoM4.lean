/- Parts of the proof, joined: How a consumer's plan is printed: in plain Lean.; Numbers as bytes: how a number is written, how it is read, and that the two fit. Plain lists of bytes; no program here.; The sum of a text, bit by bit, over 32 bits; and that two texts that differ in at most 32 bits side by side have unlike sums. No program here.; Bits of a text that are turned one by one, 32 side by side at the most. No program here. -/
import Derived.Test.YthhingihjpkipaaDoorConsumerDrainsUptoM3
namespace Go.Proofs.YthhingihjpkipaaDoor.Subj

def fromE : Tok := [102, 114, 111, 109, 61]
def waitE : Tok := [119, 97, 105, 116, 61]
def backE : Tok := [98, 97, 99, 107, 111, 102, 102, 61]
def mostE : Tok := [109, 111, 115, 116, 61]
def pendE : Tok := [112, 101, 110, 100, 105, 110, 103, 61]

def fromWs (src start : Int) : List Tok :=
  if src == 1 then [[102, 114, 111, 109, 61, 108, 97, 115, 116]] else if src == 2 then [[102, 114, 111, 109, 61, 110, 101, 119]] else if src == 3 then [fromE ++ Lib.itoa start] else []
def ackWs (ack : Int) : List Tok :=
  if ack == 0 then [[97, 99, 107, 61, 110, 111, 110, 101]] else if ack == 1 then [[97, 99, 107, 61, 97, 108, 108]] else []
def numWs (e : Tok) (n : Int) : List Tok := if 0 < n then [e ++ Lib.itoa n] else []
def listT (back : List Int) : List UInt8 := Lib.join (back.map Lib.itoa) [44]
def backWs (back : List Int) : List Tok := if 0 < back.length then [backE ++ listT back] else []
def pushWs (push : Bool) : List Tok := if push then [[112, 117, 115, 104]] else []

/-- The words of a consumer's text. -/
def wordsT (t : TakerP) : List Tok :=
  [t.name, t.filt] ++ fromWs t.src t.start ++ ackWs t.ack ++ numWs waitE t.wait ++ backWs t.back ++ numWs mostE t.most ++ numWs pendE t.pend ++ pushWs t.push

def textT (t : TakerP) : List UInt8 := Lib.join (wordsT t) [32]

def flatS (r : List Tok) : List UInt8 := r.flatMap fun t => [32] ++ t

theorem join_flat (a : Tok) : ∀ r : List Tok, Lib.join (a :: r) [32] = a ++ flatS r
  | [] => by simp [Lib.join, List.intercalate, flatS]
  | b :: r => by
    have ih := join_flat b r
    have e : Lib.join (a :: b :: r) [32] = a ++ [32] ++ Lib.join (b :: r) [32] := by
      simp [Lib.join, List.intercalate, List.intersperse]
    rw [e, ih]
    simp [flatS]

theorem textT_flat (t : TakerP) : textT t = t.name ++ ([32] ++ t.filt) ++ flatS (fromWs t.src t.start) ++ flatS (ackWs t.ack) ++ flatS (numWs waitE t.wait) ++ flatS (backWs t.back) ++ flatS (numWs mostE t.most) ++ flatS (numWs pendE t.pend) ++ flatS (pushWs t.push) := by
  unfold textT wordsT
  simp only [List.cons_append, List.nil_append, List.append_assoc]
  rw [join_flat]
  simp [flatS, List.flatMap_append]

/-- What a right plan's parts are. -/
theorem errT_facts {t : TakerP} (h : errT t = 0) : nameOk t.name = true ∧ err true t.filt = 0 ∧ t.back.length ≤ 5 ∧ argsOk t.src t.start t.ack t.wait t.back t.most t.pend = true := by
  unfold errT takerErr at h
  split at h
  · rename_i h1
    split at h
    · rename_i h2
      split at h
      · cases h
      · split at h
        · rename_i h3 h4; exact ⟨h1, h2, by omega, h4⟩
        · cases h
    · contradiction
  · cases h

theorem inB_iff {n lo hi : Int} : inB n lo hi = true ↔ lo ≤ n ∧ n ≤ hi := by
  unfold inB; rw [Bool.and_eq_true, decide_eq_true_eq, decide_eq_true_eq]

theorem argsOk_facts {src start ack wait : Int} {back : List Int} {most pend : Int} (h : argsOk src start ack wait back most pend = true) :
    (0 ≤ src ∧ src ≤ 3) ∧ (src = 3 → 1 ≤ start ∧ start ≤ 999999999) ∧ (0 ≤ start ∧ start ≤ 999999999) ∧ (0 ≤ ack ∧ ack ≤ 2) ∧ (0 ≤ wait ∧ wait ≤ 100000) ∧ (ack ≠ 0 → 1 ≤ wait) ∧ (ack = 0 → wait = 0) ∧ (0 ≤ most ∧ most ≤ 20) ∧ (0 ≤ pend ∧ pend ≤ 50) ∧ ∀ k, k < back.length → 1 ≤ back.getD k 0 ∧ back.getD k 0 ≤ 100000 := by
  unfold argsOk at h
  simp only [Bool.and_eq_true] at h
  obtain ⟨⟨⟨h1, h2⟩, h3⟩, h4⟩ := h
  rw [inB_iff] at h1 h3
  have hst : (src = 3 → 1 ≤ start ∧ start ≤ 999999999) ∧ (0 ≤ start ∧ start ≤ 999999999) := by
    unfold startOk at h2
    by_cases e : src = 3
    · rw [e, if_pos (show ((3 : Int) == 3) = true from rfl), inB_iff] at h2
      exact ⟨fun _ => h2, by omega⟩
    · rw [if_neg (by simpa using e), beq_iff_eq] at h2
      exact ⟨fun e2 => absurd e2 e, by omega⟩
  refine ⟨h1, hst.1, hst.2, h3, ?_⟩
  unfold timesOk at h4
  by_cases e : ack = 0
  · rw [e, if_pos (show ((0 : Int) == 0) = true from rfl)] at h4
    simp only [Bool.and_eq_true, beq_iff_eq] at h4
    obtain ⟨⟨⟨g1, g2⟩, g3⟩, g4⟩ := h4
    exact ⟨by omega, fun h => absurd e h, fun _ => g1, by omega, by omega, fun k hk => by omega⟩
  · rw [if_neg (by simpa using e)] at h4
    simp only [Bool.and_eq_true] at h4
    obtain ⟨⟨⟨g1, g2⟩, g3⟩, g4⟩ := h4
    rw [inB_iff] at g1 g2 g3
    refine ⟨by omega, fun _ => g1.1, fun h => absurd h e, by omega, by omega, fun k hk => ?_⟩
    rw [List.all_eq_true] at g4
    have := g4 (back.getD k 0) (by simp [List.getD, hk])
    rwa [inB_iff] at this

theorem listT_take {back : List Int} {k : Nat} (hk : k < back.length) (hp : 0 < k) : listT (back.take (k + 1)) = listT (back.take k) ++ [44] ++ Lib.itoa (back.getD k 0) := by
  unfold listT
  rw [List.take_add_one, List.getElem?_eq_getElem hk]
  have hne : (back.take k).map Lib.itoa ≠ [] := by
    intro e; have := congrArg List.length e; rw [List.length_map, List.length_take, List.length_nil] at this; omega
  show joinC ((back.take k ++ [back[k]]).map Lib.itoa) = joinC ((back.take k).map Lib.itoa) ++ [44] ++ _
  rw [List.map_append]
  show joinC ((back.take k).map Lib.itoa ++ [Lib.itoa back[k]]) = _
  rw [joinC_snoc _ hne]
  simp [List.getD, hk]

theorem listT_one {back : List Int} (hk : 0 < back.length) : listT (back.take 1) = Lib.itoa (back.getD 0 0) := by
  cases back with
  | nil => simp at hk
  | cons a r =>
    show joinC [Lib.itoa a] = _
    rw [joinC_one]; rfl
end Go.Proofs.YthhingihjpkipaaDoor.Subj

namespace Go.Proofs.YthhingihjpkipaaDoor.Pack

/-- What is written of n, in at most f bytes. -/
def numF : Nat → Nat → List UInt8
  | 0, _ => []
  | f + 1, n => if n < 128 then [UInt8.ofNat n] else UInt8.ofNat (128 + n % 128) :: numF f (n / 128)

/-- What is written of a number below 2^63. -/
def numL (n : Nat) : List UInt8 := numF 9 n

/-- What is read at byte i, acc read so far: the number, how many bytes, the error. -/
def rdL : Nat → Nat → List UInt8 → Nat × Nat × Nat
  | _, _, [] => (0, 0, 6)
  | i, acc, b :: l =>
    if (128 ≤ b.toNat ∧ i = 8) ∨ (b.toNat = 0 ∧ 0 < i) then (0, 0, 7)
    else if b.toNat < 128 then (acc + b.toNat * 128 ^ i, i + 1, 0)
    else rdL (i + 1) (acc + (b.toNat - 128) * 128 ^ i) l

def rdN (l : List UInt8) : Nat × Nat × Nat := rdL 0 0 l

theorem numF_len (f n : Nat) : (numF f n).length ≤ f := by
  induction f generalizing n with
  | zero => simp [numF]
  | succ f ih => unfold numF; split <;> simp; have := ih (n / 128); omega

theorem numF_pos (f n : Nat) : 0 < (numF (f + 1) n).length := by
  unfold numF; split <;> simp

theorem numL_len (n : Nat) : (numL n).length ≤ 9 := numF_len 9 n

theorem ofNat_toNat_lt (n : Nat) (h : n < 256) : (UInt8.ofNat n).toNat = n := by
  simp [UInt8.toNat_ofNat']; omega

theorem pow_pos' (i : Nat) : 0 < 128 ^ i := Nat.pow_pos (by decide)

theorem rdL_num (f i acc n : Nat) (more : List UInt8) (hf : i + f = 8) (hn : n < 128 ^ (f + 1)) (hp : 0 < i → 0 < n) :
    rdL i acc (numF (f + 1) n ++ more) = (acc + n * 128 ^ i, i + (numF (f + 1) n).length, 0) := by
  induction f generalizing i acc n with
  | zero =>
    have h : n < 128 := by simpa using hn
    unfold numF
    rw [if_pos h]
    simp only [List.cons_append, List.nil_append, rdL]
    rw [ofNat_toNat_lt n (by omega), if_neg (by rintro (⟨a, _⟩ | ⟨a, b⟩); { omega }; { have := hp b; omega }), if_pos h]
    simp
  | succ f ih =>
    unfold numF
    by_cases h : n < 128
    · rw [if_pos h]
      simp only [List.cons_append, List.nil_append, rdL]
      rw [ofNat_toNat_lt n (by omega), if_neg (by rintro (⟨a, _⟩ | ⟨a, b⟩); { omega }; { have := hp b; omega }), if_pos h]
      simp
    · rw [if_neg h]
      simp only [List.cons_append, rdL]
      rw [ofNat_toNat_lt _ (by omega), if_neg (by omega), if_neg (by omega),
        ih (i + 1) _ (n / 128) (by omega) (by rw [Nat.div_lt_iff_lt_mul (by decide)]; simpa [Nat.pow_succ] using hn) (by intro; omega)]
      simp only [Prod.mk.injEq, List.length_cons, and_true]
      refine ⟨?_, by omega⟩
      have e : 128 + n % 128 - 128 = n % 128 := by omega
      rw [e, Nat.pow_succ]
      have hd := Nat.div_add_mod n 128
      generalize 128 ^ i = p at *
      have : n * p = (128 * (n / 128) + n % 128) * p := by rw [hd]
      rw [this, Nat.add_mul, Nat.mul_comm p 128, ← Nat.mul_assoc, Nat.mul_comm (n / 128) 128]
      omega

theorem rdL_front (f i acc n j : Nat) (hf : i + f = 8) (hn : n < 128 ^ (f + 1)) (hj : j < (numF (f + 1) n).length) :
    rdL i acc ((numF (f + 1) n).take j) = (0, 0, 6) := by
  induction f generalizing i acc n j with
  | zero =>
    have h : n < 128 := by simpa using hn
    unfold numF at hj ⊢
    rw [if_pos h] at hj ⊢
    have : j = 0 := by simpa using hj
    subst this
    rfl
  | succ f ih =>
    unfold numF at hj ⊢
    by_cases h : n < 128
    · rw [if_pos h] at hj ⊢
      have : j = 0 := by simpa using hj
      subst this
      rfl
    · rw [if_neg h] at hj ⊢
      cases j with
      | zero => rfl
      | succ j =>
        simp only [List.take_succ_cons, rdL]
        rw [ofNat_toNat_lt _ (by omega), if_neg (by omega), if_neg (by omega)]
        exact ih (i + 1) _ (n / 128) j (by omega) (by rw [Nat.div_lt_iff_lt_mul (by decide)]; simpa [Nat.pow_succ] using hn) (by simpa using hj)

theorem rdL_one (f i acc : Nat) (s : List UInt8) (n k : Nat) (hf : i + f = 8) (h : rdL i acc s = (n, k, 0)) :
    ∃ m, n = acc + m * 128 ^ i ∧ m < 128 ^ (f + 1) ∧ i < k ∧ k ≤ i + s.length ∧ numF (f + 1) m = s.take (k - i) ∧ (0 < i → 0 < m) := by
  induction f generalizing i acc s with
  | zero =>
    cases s with
    | nil => simp [rdL] at h
    | cons b l =>
      simp only [rdL] at h
      split at h
      · simp at h
      · rename_i h1
        split at h
        · rename_i h2
          simp only [Prod.mk.injEq, and_true] at h
          obtain ⟨rfl, rfl⟩ := h
          refine ⟨b.toNat, rfl, by omega, by omega, by simp, ?_, by omega⟩
          have e : i + 1 - i = 1 := by omega
          rw [e]
          simp [numF, h2]
        · omega
  | succ f ih =>
    cases s with
    | nil => simp [rdL] at h
    | cons b l =>
      simp only [rdL] at h
      split at h
      · simp at h
      · rename_i h1
        split at h
        · rename_i h2
          simp only [Prod.mk.injEq, and_true] at h
          obtain ⟨rfl, rfl⟩ := h
          refine ⟨b.toNat, rfl, ?_, by omega, by simp, ?_, by omega⟩
          · have : 128 ≤ 128 ^ (f + 1 + 1) := by rw [Nat.pow_succ]; have := pow_pos' (f + 1); omega
            omega
          · have e : i + 1 - i = 1 := by omega
            rw [e]
            simp [numF, h2]
        · rename_i h2
          obtain ⟨m, rfl, hm, hik, hk, hnum, hmp⟩ := ih (i + 1) _ l (by omega) h
          have hb := b.toNat_lt
          have hmp := hmp (by omega)
          refine ⟨b.toNat - 128 + 128 * m, ?_, ?_, by omega, by simp; omega, ?_, by omega⟩
          · rw [Nat.pow_succ, Nat.add_mul]
            generalize 128 ^ i = p
            rw [Nat.mul_comm 128 m, Nat.mul_assoc m 128 p, Nat.mul_comm p 128]
            omega
          · rw [Nat.pow_succ]; omega
          · have e : k - i = (k - (i + 1)) + 1 := by omega
            rw [e, List.take_succ_cons, ← hnum]
            have h3 : ¬ (b.toNat - 128 + 128 * m < 128) := by omega
            conv => lhs; unfold numF
            rw [if_neg h3]
            have e1 : (b.toNat - 128 + 128 * m) % 128 = b.toNat - 128 := by omega
            have e2 : (b.toNat - 128 + 128 * m) / 128 = m := by omega
            rw [e1, e2]
            have e3 : 128 + (b.toNat - 128) = b.toNat := by omega
            rw [e3]
            simp

/-- What is written is read. -/
theorem rdN_num (n : Nat) (more : List UInt8) (hn : n < 2 ^ 63) : rdN (numL n ++ more) = (n, (numL n).length, 0) := by
  have := rdL_num 8 0 0 n more rfl (by simpa using hn) (by omega)
  simpa [rdN, numL] using this

theorem rdN_front (n j : Nat) (hn : n < 2 ^ 63) (hj : j < (numL n).length) : rdN ((numL n).take j) = (0, 0, 6) :=
  rdL_front 8 0 0 n j rfl (by simpa using hn) hj

/-- What is read is written as just those bytes. -/
theorem rdN_one (s : List UInt8) (n k : Nat) (h : rdN s = (n, k, 0)) : n < 2 ^ 63 ∧ 0 < k ∧ k ≤ s.length ∧ numL n = s.take k := by
  obtain ⟨m, h1, h2, h3, h4, h5, _⟩ := rdL_one 8 0 0 s n k rfl h
  simp at h1 h4 h5
  subst h1
  exact ⟨by simpa using h2, h3, h4, h5⟩

theorem rdL_err (s : List UInt8) : ∀ i acc, (rdL i acc s).2.2 = 0 ∨ rdL i acc s = (0, 0, 6) ∨ rdL i acc s = (0, 0, 7) := by
  induction s with
  | nil => intro i acc; right; left; rfl
  | cons b l ih =>
    intro i acc
    simp only [rdL]
    split
    · right; right; rfl
    · split
      · left; rfl
      · exact ih _ _

/-- The three forms that an answer has. -/
theorem rdN_cases (s : List UInt8) : (∃ n k, rdN s = (n, k, 0) ∧ n < 2 ^ 63 ∧ 0 < k ∧ k ≤ s.length ∧ k ≤ 9 ∧ numL n = s.take k) ∨ rdN s = (0, 0, 6) ∨ rdN s = (0, 0, 7) := by
  rcases rdL_err s 0 0 with h | h | h
  · left
    obtain ⟨n, k, e⟩ : ∃ n k, rdN s = (n, k, 0) := ⟨(rdN s).1, (rdN s).2.1, by
      have : rdN s = ((rdN s).1, (rdN s).2.1, (rdN s).2.2) := rfl
      rw [this]; simp only [Prod.mk.injEq, true_and]; exact h⟩
    obtain ⟨a, b, c, d⟩ := rdN_one s n k e
    refine ⟨n, k, e, a, b, c, ?_, d⟩
    have := numL_len n
    rw [d, List.length_take] at this
    omega
  · right; left; exact h
  · right; right; exact h

/-- A text with its length ahead. -/
def textL (t : List UInt8) : List UInt8 := numL t.length ++ t

/-- What is read of a text of at most 'most' bytes: the text, how many bytes, the error. -/
def rdT (l : List UInt8) (most : Int) : List UInt8 × Nat × Nat :=
  if (rdN l).2.2 ≠ 0 then ([], 0, (rdN l).2.2)
  else if most < ((rdN l).1 : Int) then ([], 0, 7)
  else if l.length - (rdN l).2.1 < (rdN l).1 then ([], 0, 6)
  else ((l.drop (rdN l).2.1).take (rdN l).1, (rdN l).2.1 + (rdN l).1, 0)

theorem rdT_text (t more : List UInt8) (most : Int) (ht : t.length < 2 ^ 63) (hm : (t.length : Int) ≤ most) :
    rdT (textL t ++ more) most = (t, (textL t).length, 0) := by
  have h := rdN_num t.length (t ++ more) ht
  unfold rdT textL
  rw [List.append_assoc, h]
  have h2 : ¬ (most < (t.length : Int)) := by omega
  simp [h2]

theorem rdT_front (t : List UInt8) (most : Int) (j : Nat) (ht : t.length < 2 ^ 63) (hm : (t.length : Int) ≤ most) (hj : j < (textL t).length) :
    rdT ((textL t).take j) most = ([], 0, 6) := by
  unfold textL at hj ⊢
  by_cases h : j < (numL t.length).length
  · have e : (numL t.length ++ t).take j = (numL t.length).take j := by
      rw [List.take_append_of_le_length (by omega)]
    rw [e]
    unfold rdT
    rw [rdN_front _ _ ht h]
    simp
  · have e : (numL t.length ++ t).take j = numL t.length ++ t.take (j - (numL t.length).length) := by
      rw [List.take_append]
      rw [List.take_of_length_le (by omega)]
    rw [e]
    unfold rdT
    rw [rdN_num _ _ ht]
    have h2 : ¬ (most < (t.length : Int)) := by omega
    simp only [ne_eq, not_true, if_false, h2, List.length_append, List.length_take]
    rw [if_pos]
    simp only [List.length_append] at hj
    omega

/-- The three forms that an answer has. -/
theorem rdT_cases (s : List UInt8) (most : Int) : (∃ t k, rdT s most = (t, k, 0) ∧ (t.length : Int) ≤ most ∧ t.length < 2 ^ 63 ∧ k ≤ s.length ∧ textL t = s.take k ∧ k = (textL t).length) ∨ rdT s most = ([], 0, 6) ∨ rdT s most = ([], 0, 7) := by
  rcases rdN_cases s with ⟨n, k, h, h1, h2, h3, h4, h5⟩ | h | h
  · unfold rdT
    rw [h]
    simp only [ne_eq, not_true, if_false]
    split
    · right; right; rfl
    · split
      · right; left; rfl
      · left
        rename_i ha hb
        have hl : ((s.drop k).take n).length = n := by simp; omega
        refine ⟨_, _, rfl, by omega, by omega, by omega, ?_, ?_⟩
        · unfold textL
          rw [hl, h5, List.take_add]
        · unfold textL
          rw [List.length_append, hl, h5, List.length_take]
          omega
  · right; left; unfold rdT; rw [h]; simp
  · right; right; unfold rdT; rw [h]; simp

end Go.Proofs.YthhingihjpkipaaDoor.Pack

namespace Go.Proofs.YthhingihjpkipaaDoor.Crc

abbrev R := BitVec 32

def poly : R := 0xedb88320#32

/-- One step of the division. -/
def stp (r : R) : R := if r.getLsbD 0 then (r >>> 1) ^^^ poly else r >>> 1

def stps : Nat → R → R
  | 0, r => r
  | n + 1, r => stps n (stp r)

/-- A byte. -/
def byteStep (r : R) (b : UInt8) : R := stps 8 (r ^^^ BitVec.ofNat 32 b.toNat)

def crcL (l : List UInt8) : R := ~~~ (l.foldl byteStep 0xffffffff#32)

theorem stp_xor (a b : R) : stp (a ^^^ b) = stp a ^^^ stp b := by
  unfold stp
  rw [BitVec.getLsbD_xor, BitVec.ushiftRight_xor_distrib]
  cases a.getLsbD 0 <;> cases b.getLsbD 0 <;> simp
  · rw [BitVec.xor_assoc]
  · rw [BitVec.xor_assoc, BitVec.xor_assoc, BitVec.xor_comm poly (b >>> 1)]
  · rw [← BitVec.xor_assoc, BitVec.xor_assoc (a >>> 1) poly, BitVec.xor_comm poly, BitVec.xor_assoc (a >>> 1), BitVec.xor_assoc (b >>> 1), BitVec.xor_self, BitVec.xor_zero]

theorem stps_xor (n : Nat) (a b : R) : stps n (a ^^^ b) = stps n a ^^^ stps n b := by
  induction n generalizing a b with
  | zero => rfl
  | succ n ih => simp only [stps]; rw [stp_xor, ih]

theorem stp_zero : stp 0#32 = 0#32 := by decide

theorem stps_zero (n : Nat) : stps n 0#32 = 0#32 := by
  induction n with
  | zero => rfl
  | succ n ih => simp only [stps]; rw [stp_zero, ih]

/-- A step loses nothing. -/
theorem stp_eq_zero (r : R) (h : stp r = 0#32) : r = 0#32 := by
  unfold stp at h
  by_cases h0 : r.getLsbD 0 = true
  · rw [if_pos h0] at h
    have h1 : ((r >>> 1) ^^^ poly).getLsbD 31 = false := by rw [h]; rfl
    rw [BitVec.getLsbD_xor, BitVec.getLsbD_ushiftRight] at h1
    have h2 : poly.getLsbD 31 = true := by decide
    have h3 : r.getLsbD (1 + 31) = false := BitVec.getLsbD_of_ge _ _ (by omega)
    rw [h2, h3] at h1
    simp at h1
  · rw [if_neg h0] at h
    apply BitVec.eq_of_getLsbD_eq
    intro i hi
    cases i with
    | zero => simpa using h0
    | succ i =>
      have h1 : (r >>> 1).getLsbD i = false := by rw [h]; simp
      rw [BitVec.getLsbD_ushiftRight, Nat.add_comm] at h1
      simpa using h1

theorem stps_eq_zero (n : Nat) (r : R) (h : stps n r = 0#32) : r = 0#32 := by
  induction n generalizing r with
  | zero => exact h
  | succ n ih => exact stp_eq_zero _ (ih _ h)

theorem xor_eq_zero {a b : R} (h : a ^^^ b = 0#32) : a = b := by
  have : a ^^^ b ^^^ b = 0#32 ^^^ b := by rw [h]
  simpa [BitVec.xor_assoc] using this

theorem stps_add (m n : Nat) (r : R) : stps (m + n) r = stps n (stps m r) := by
  induction m generalizing r with
  | zero => simp [stps]
  | succ m ih => rw [Nat.succ_add]; simp only [stps]; rw [ih]

/-- One message bit at a time. -/
def bitStep (r : R) (b : Bool) : R := stp (r ^^^ (if b then 1#32 else 0#32))

def bitsOf (b : UInt8) : List Bool := (List.range 8).map fun i => b.toNat.testBit i

/-- The bits of x from the lowest on, n of them. -/
def low : Nat → Nat → List Bool
  | 0, _ => []
  | n + 1, x => (x % 2 == 1) :: low n (x / 2)

theorem ofNat_split (x : Nat) : BitVec.ofNat 32 x = (if (x % 2 == 1) then 1#32 else 0#32) ^^^ (BitVec.ofNat 32 (x / 2) <<< 1) := by
  apply BitVec.eq_of_getLsbD_eq
  intro i hi
  rw [BitVec.getLsbD_xor, BitVec.getLsbD_shiftLeft, BitVec.getLsbD_ofNat, BitVec.getLsbD_ofNat]
  cases i with
  | zero =>
    have : x.testBit 0 = (x % 2 == 1) := by rw [Nat.testBit_zero]; cases hx : (x % 2 == 1) <;> simp_all
    simp only [this]
    cases hx : (x % 2 == 1) <;> simp
  | succ i =>
    have h1 : x.testBit (i + 1) = (x / 2).testBit i := by rw [Nat.testBit_succ]
    rw [h1]
    cases hx : (x % 2 == 1) <;> simp [hi] <;> omega

theorem stp_shl (x : Nat) (h : x < 2 ^ 31) : stp (BitVec.ofNat 32 x <<< 1) = BitVec.ofNat 32 x := by
  unfold stp
  rw [if_neg (by simp)]
  apply BitVec.eq_of_getLsbD_eq
  intro i hi
  rw [BitVec.getLsbD_ushiftRight, BitVec.getLsbD_shiftLeft]
  by_cases h31 : 1 + i < 32
  · simp [h31, hi]
  · have : i = 31 := by omega
    subst this
    have h1 : (BitVec.ofNat 32 x).getLsbD 31 = false := by
      rw [BitVec.getLsbD_ofNat, Nat.testBit_lt_two_pow (by omega)]; rfl
    rw [h1]
    simp

/-- n message bits, one at a time, are the word of them at once. -/
theorem fold_low (n : Nat) : ∀ (x : Nat) (r : R), n ≤ 32 → x < 2 ^ n → (low n x).foldl bitStep r = stps n (r ^^^ BitVec.ofNat 32 x) := by
  induction n with
  | zero =>
    intro x r _ hx
    have : x = 0 := by simpa using hx
    subst this
    simp [low, stps]
  | succ n ih =>
    intro x r hn hx
    have hx2 : x / 2 < 2 ^ n := by rw [Nat.pow_succ] at hx; omega
    have h32 : 2 ^ (n + 1) ≤ 2 ^ 32 := Nat.pow_le_pow_right (by decide) hn
    have h31 : 2 ^ n ≤ 2 ^ 31 := Nat.pow_le_pow_right (by decide) (by omega)
    simp only [low, List.foldl_cons, stps]
    rw [ih (x / 2) _ (by omega) hx2]
    congr 1
    rw [ofNat_split x, ← BitVec.xor_assoc, stp_xor, stp_shl _ (by omega)]
    rfl

def low8 (b : UInt8) : List Bool := low 8 b.toNat

/-- All message bits of a text. -/
def bitsL (l : List UInt8) : List Bool := l.flatMap low8

theorem byteStep_bits (r : R) (b : UInt8) : byteStep r b = (low8 b).foldl bitStep r :=
  (fold_low 8 b.toNat r (by decide) b.toNat_lt).symm

theorem foldl_bits (l : List UInt8) : ∀ r, l.foldl byteStep r = (bitsL l).foldl bitStep r := by
  induction l with
  | nil => intro r; rfl
  | cons b l ih =>
    intro r
    simp only [bitsL, List.foldl_cons, List.flatMap_cons, List.foldl_append]
    rw [ih, byteStep_bits]
    rfl

/-- The difference of two rows of bits of one length. -/
def xorB (a b : List Bool) : List Bool := List.zipWith (· != ·) a b

theorem fold_diff (a : List Bool) : ∀ (b : List Bool) (r q : R), a.length = b.length →
    a.foldl bitStep r ^^^ b.foldl bitStep q = (xorB a b).foldl bitStep (r ^^^ q) := by
  induction a with
  | nil => intro b r q h; cases b <;> simp_all [xorB]
  | cons x a ih =>
    intro b r q h
    cases b with
    | nil => simp at h
    | cons y b =>
      simp only [List.foldl_cons, xorB, List.zipWith_cons_cons]
      rw [ih b _ _ (by simpa using h)]
      congr 1
      unfold bitStep
      rw [← stp_xor]
      congr 1
      cases x <;> cases y <;> simp
      · rw [BitVec.xor_assoc]
      · rw [BitVec.xor_assoc, BitVec.xor_assoc, BitVec.xor_comm q]
      · rw [← BitVec.xor_assoc, BitVec.xor_assoc r, BitVec.xor_comm 1#32 q, BitVec.xor_assoc r, BitVec.xor_assoc q, BitVec.xor_self, BitVec.xor_zero]

theorem fold_zeros (n : Nat) (r : R) : (List.replicate n false).foldl bitStep r = stps n r := by
  induction n generalizing r with
  | zero => rfl
  | succ n ih =>
    simp only [List.replicate_succ, List.foldl_cons, stps]
    rw [ih]
    simp [bitStep]

/-- A difference of 32 bits, at whatever place, that is not nothing: the sums differ. -/
theorem burst (a b : List UInt8) (n m x : Nat) (hl : (bitsL a).length = (bitsL b).length) (hx : x < 2 ^ 32) (hx0 : x ≠ 0)
    (h : xorB (bitsL a) (bitsL b) = List.replicate n false ++ (low 32 x ++ List.replicate m false)) : crcL a ≠ crcL b := by
  intro e
  unfold crcL at e
  have e1 : a.foldl byteStep 0xffffffff#32 = b.foldl byteStep 0xffffffff#32 := by
    have := congrArg (fun z => ~~~ z) e
    simpa using this
  rw [foldl_bits, foldl_bits] at e1
  have e2 := fold_diff (bitsL a) (bitsL b) 0xffffffff#32 0xffffffff#32 hl
  rw [e1, BitVec.xor_self, BitVec.xor_self, h, List.foldl_append, List.foldl_append, fold_zeros, fold_zeros, stps_zero, fold_low 32 x _ (by decide) hx] at e2
  have e3 := stps_eq_zero _ _ (stps_eq_zero _ _ e2.symm)
  have e4 : (BitVec.ofNat 32 x).toNat = 0 := by
    rw [BitVec.zero_xor] at e3
    rw [e3]; rfl
  rw [BitVec.toNat_ofNat, Nat.mod_eq_of_lt hx] at e4
  exact hx0 e4

end Go.Proofs.YthhingihjpkipaaDoor.Crc

namespace Go.Proofs.YthhingihjpkipaaDoor.Crc

/-- Bit j of a text. -/
def bitAt (l : List UInt8) (j : Nat) : Bool := (l.getD (j / 8) 0).toNat.testBit (j % 8)

theorem low_get' (n : Nat) : ∀ (x j : Nat), j < n → (low n x)[j]? = some (x.testBit j) := by
  induction n with
  | zero => intro x j h; omega
  | succ n ih =>
    intro x j h
    cases j with
    | zero =>
      simp only [low, List.getElem?_cons_zero, Nat.testBit_zero]
      congr 1
    | succ j =>
      simp only [low, List.getElem?_cons_succ]
      rw [ih (x / 2) j (by omega), Nat.testBit_succ]

theorem low_length (n : Nat) : ∀ x, (low n x).length = n := by
  induction n with
  | zero => intro x; rfl
  | succ n ih => intro x; simp [low, ih]

theorem bitsL_length (l : List UInt8) : (bitsL l).length = 8 * l.length := by
  induction l with
  | nil => rfl
  | cons b l ih =>
    have : bitsL (b :: l) = low8 b ++ bitsL l := rfl
    rw [this, List.length_append, ih, low8, low_length, List.length_cons]
    omega

theorem bitsL_get (l : List UInt8) : ∀ j, j < 8 * l.length → (bitsL l)[j]? = some (bitAt l j) := by
  induction l with
  | nil => intro j h; simp at h
  | cons b l ih =>
    intro j h
    have e : bitsL (b :: l) = low8 b ++ bitsL l := rfl
    rw [e]
    by_cases hj : j < 8
    · rw [List.getElem?_append_left (by rw [low8, low_length]; exact hj), low8, low_get' 8 _ _ hj]
      have h0 : j / 8 = 0 := by omega
      have h1 : j % 8 = j := by omega
      unfold bitAt
      rw [h0, h1]
      rfl
    · rw [List.getElem?_append_right (by rw [low8, low_length]; omega), low8, low_length, ih (j - 8) (by simp at h; omega)]
      have h0 : j / 8 = (j - 8) / 8 + 1 := by omega
      have h1 : j % 8 = (j - 8) % 8 := by omega
      unfold bitAt
      rw [h0, h1, List.getD_cons_succ]

theorem testBit_xor_one (x r i : Nat) : (x ^^^ 2 ^ r).testBit i = (x.testBit i != decide (r = i)) := by
  rw [Nat.testBit_xor, Nat.testBit_two_pow]

/-- One bit turned. -/
def flip (l : List UInt8) (j : Nat) : List UInt8 := l.set (j / 8) (l.getD (j / 8) 0 ^^^ UInt8.ofNat (2 ^ (j % 8)))

theorem flip_length (l : List UInt8) (j : Nat) : (flip l j).length = l.length := by simp [flip]

theorem bitAt_flip (l : List UInt8) (j i : Nat) (hj : j < 8 * l.length) : bitAt (flip l j) i = (bitAt l i != decide (i = j)) := by
  unfold bitAt flip
  by_cases h : i / 8 = j / 8
  · rw [h]
    have e : (l.set (j / 8) (l.getD (j / 8) 0 ^^^ UInt8.ofNat (2 ^ (j % 8)))).getD (j / 8) 0 = l.getD (j / 8) 0 ^^^ UInt8.ofNat (2 ^ (j % 8)) := by
      rw [List.getD_eq_getElem?_getD, List.getElem?_set_self (by omega)]
      rfl
    have hp : 2 ^ (j % 8) < 256 := by
      have : 2 ^ (j % 8) ≤ 2 ^ 7 := Nat.pow_le_pow_right (by decide) (by omega)
      omega
    rw [e, UInt8.toNat_xor, UInt8.toNat_ofNat', Nat.mod_eq_of_lt hp, testBit_xor_one]
    congr 1
    rw [decide_eq_decide]
    omega
  · have e : (l.set (j / 8) (l.getD (j / 8) 0 ^^^ UInt8.ofNat (2 ^ (j % 8)))).getD (i / 8) 0 = l.getD (i / 8) 0 := by
      rw [List.getD_eq_getElem?_getD, List.getElem?_set_ne (by omega), ← List.getD_eq_getElem?_getD]
    have hd : decide (i = j) = false := by simp; intro e; exact h (by rw [e])
    rw [e, hd]
    simp

/-- The first i bits of t, turned from bit k on. -/
def flips (t k : Nat) : Nat → List UInt8 → List UInt8
  | 0, l => l
  | i + 1, l => if t.testBit i then flip (flips t k i l) (k + i) else flips t k i l

theorem flips_length (t k i : Nat) (l : List UInt8) : (flips t k i l).length = l.length := by
  induction i with
  | zero => rfl
  | succ i ih => unfold flips; split <;> simp [flip_length, ih]

theorem bitAt_flips (t k : Nat) (l : List UInt8) (n : Nat) (h : k + n ≤ 8 * l.length) : ∀ j, bitAt (flips t k n l) j = (bitAt l j != (decide (k ≤ j ∧ j < k + n) && t.testBit (j - k))) := by
  induction n with
  | zero =>
    intro j
    have h1 : decide (k ≤ j ∧ j < k + 0) = false := by simp
    rw [h1]; simp [flips]
  | succ n ih =>
    intro j
    have ih := ih (by omega) j
    unfold flips
    by_cases ht : t.testBit n = true
    · rw [if_pos ht, bitAt_flip _ _ _ (by rw [flips_length]; omega), ih]
      by_cases e : j = k + n
      · subst e
        have h1 : decide (k ≤ k + n ∧ k + n < k + n) = false := by simp
        have h2 : decide (k ≤ k + n ∧ k + n < k + (n + 1)) = true := by simp
        rw [h1, h2, show k + n - k = n by omega, ht]
        simp
      · have h1 : decide (k ≤ j ∧ j < k + n) = decide (k ≤ j ∧ j < k + (n + 1)) := by rw [decide_eq_decide]; omega
        have h2 : decide (j = k + n) = false := by simpa using e
        rw [h1, h2]
        simp
    · rw [if_neg ht, ih]
      by_cases e : j = k + n
      · subst e
        have h1 : t.testBit (k + n - k) = false := by rw [show k + n - k = n by omega]; simpa using ht
        rw [h1]; simp
      · have h1 : decide (k ≤ j ∧ j < k + n) = decide (k ≤ j ∧ j < k + (n + 1)) := by rw [decide_eq_decide]; omega
        rw [h1]

/-- The turned text's sum is another one. -/
theorem flips_sum (l : List UInt8) (t k : Nat) (ht : t < 2 ^ 32) (ht0 : t ≠ 0) (hk : k + 32 ≤ 8 * l.length) : crcL l ≠ crcL (flips t k 32 l) := by
  refine burst l (flips t k 32 l) k (8 * l.length - k - 32) t (by rw [bitsL_length, bitsL_length, flips_length]) ht ht0 ?_
  apply List.ext_getElem?
  intro j
  have hlen : (xorB (bitsL l) (bitsL (flips t k 32 l))).length = 8 * l.length := by
    unfold xorB; rw [List.length_zipWith, bitsL_length, bitsL_length, flips_length]; omega
  by_cases hj : j < 8 * l.length
  · have h1 : (xorB (bitsL l) (bitsL (flips t k 32 l)))[j]? = some (bitAt l j != bitAt (flips t k 32 l) j) := by
      unfold xorB
      rw [List.getElem?_zipWith, bitsL_get l j hj, bitsL_get (flips t k 32 l) j (by rw [flips_length]; exact hj)]
    rw [h1, bitAt_flips t k l 32 hk]
    have h2 : (bitAt l j != (bitAt l j != (decide (k ≤ j ∧ j < k + 32) && t.testBit (j - k)))) = (decide (k ≤ j ∧ j < k + 32) && t.testBit (j - k)) := by
      cases bitAt l j <;> cases (decide (k ≤ j ∧ j < k + 32) && t.testBit (j - k)) <;> rfl
    rw [h2]
    by_cases a : j < k
    · rw [List.getElem?_append_left (by simpa using a), List.getElem?_replicate, if_pos a]
      have : decide (k ≤ j ∧ j < k + 32) = false := by simp; omega
      rw [this]; rfl
    · rw [List.getElem?_append_right (by simp; omega), List.length_replicate]
      by_cases b : j < k + 32
      · rw [List.getElem?_append_left (by rw [low_length]; omega), low_get' 32 t (j - k) (by omega)]
        have : decide (k ≤ j ∧ j < k + 32) = true := by simp; omega
        rw [this]; simp
      · rw [List.getElem?_append_right (by rw [low_length]; omega), low_length, List.getElem?_replicate, if_pos (by omega)]
        have : decide (k ≤ j ∧ j < k + 32) = false := by simp; omega
        rw [this]; rfl
  · rw [List.getElem?_eq_none (by omega), List.getElem?_eq_none]
    simp only [List.length_append, List.length_replicate, low_length]
    omega

end Go.Proofs.YthhingihjpkipaaDoor.Crc
