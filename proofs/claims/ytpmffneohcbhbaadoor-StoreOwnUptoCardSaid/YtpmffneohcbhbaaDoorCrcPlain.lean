/- The sum of a text, bit by bit, over 32 bits; and that two texts that differ in at most 32 bits side by side have unlike sums. No program here. -/
namespace Go.Proofs.YtpmffneohcbhbaaDoor.Crc

abbrev R := BitVec 32

def poly : R := 0xedb88320#32

/-- One step of the division. -/
def stp (r : R) : R := if r.getLsbD 0 then (r >>> 1) ^^^ poly else r >>> 1

def stps : Nat → R → R
  | 0, r => r
  | n + 1, r => stps n (stp r)

/-- A byte. -/
def byteStep (r : R) (b : UInt8) : R := stps 8 (r ^^^ BitVec.ofNat 32 b.toNat)

def crcL (l : List UInt8) : R := ~~~ (l.foldl byteStep 0xffffffff#32)

theorem stp_xor (a b : R) : stp (a ^^^ b) = stp a ^^^ stp b := by
  unfold stp
  rw [BitVec.getLsbD_xor, BitVec.ushiftRight_xor_distrib]
  cases a.getLsbD 0 <;> cases b.getLsbD 0 <;> simp
  · rw [BitVec.xor_assoc]
  · rw [BitVec.xor_assoc, BitVec.xor_assoc, BitVec.xor_comm poly (b >>> 1)]
  · rw [← BitVec.xor_assoc, BitVec.xor_assoc (a >>> 1) poly, BitVec.xor_comm poly, BitVec.xor_assoc (a >>> 1), BitVec.xor_assoc (b >>> 1), BitVec.xor_self, BitVec.xor_zero]

theorem stps_xor (n : Nat) (a b : R) : stps n (a ^^^ b) = stps n a ^^^ stps n b := by
  induction n generalizing a b with
  | zero => rfl
  | succ n ih => simp only [stps]; rw [stp_xor, ih]

theorem stp_zero : stp 0#32 = 0#32 := by decide

theorem stps_zero (n : Nat) : stps n 0#32 = 0#32 := by
  induction n with
  | zero => rfl
  | succ n ih => simp only [stps]; rw [stp_zero, ih]

/-- A step loses nothing. -/
theorem stp_eq_zero (r : R) (h : stp r = 0#32) : r = 0#32 := by
  unfold stp at h
  by_cases h0 : r.getLsbD 0 = true
  · rw [if_pos h0] at h
    have h1 : ((r >>> 1) ^^^ poly).getLsbD 31 = false := by rw [h]; rfl
    rw [BitVec.getLsbD_xor, BitVec.getLsbD_ushiftRight] at h1
    have h2 : poly.getLsbD 31 = true := by decide
    have h3 : r.getLsbD (1 + 31) = false := BitVec.getLsbD_of_ge _ _ (by omega)
    rw [h2, h3] at h1
    simp at h1
  · rw [if_neg h0] at h
    apply BitVec.eq_of_getLsbD_eq
    intro i hi
    cases i with
    | zero => simpa using h0
    | succ i =>
      have h1 : (r >>> 1).getLsbD i = false := by rw [h]; simp
      rw [BitVec.getLsbD_ushiftRight, Nat.add_comm] at h1
      simpa using h1

theorem stps_eq_zero (n : Nat) (r : R) (h : stps n r = 0#32) : r = 0#32 := by
  induction n generalizing r with
  | zero => exact h
  | succ n ih => exact stp_eq_zero _ (ih _ h)

theorem xor_eq_zero {a b : R} (h : a ^^^ b = 0#32) : a = b := by
  have : a ^^^ b ^^^ b = 0#32 ^^^ b := by rw [h]
  simpa [BitVec.xor_assoc] using this

theorem stps_add (m n : Nat) (r : R) : stps (m + n) r = stps n (stps m r) := by
  induction m generalizing r with
  | zero => simp [stps]
  | succ m ih => rw [Nat.succ_add]; simp only [stps]; rw [ih]

/-- One message bit at a time. -/
def bitStep (r : R) (b : Bool) : R := stp (r ^^^ (if b then 1#32 else 0#32))

def bitsOf (b : UInt8) : List Bool := (List.range 8).map fun i => b.toNat.testBit i

/-- The bits of x from the lowest on, n of them. -/
def low : Nat → Nat → List Bool
  | 0, _ => []
  | n + 1, x => (x % 2 == 1) :: low n (x / 2)

theorem ofNat_split (x : Nat) : BitVec.ofNat 32 x = (if (x % 2 == 1) then 1#32 else 0#32) ^^^ (BitVec.ofNat 32 (x / 2) <<< 1) := by
  apply BitVec.eq_of_getLsbD_eq
  intro i hi
  rw [BitVec.getLsbD_xor, BitVec.getLsbD_shiftLeft, BitVec.getLsbD_ofNat, BitVec.getLsbD_ofNat]
  cases i with
  | zero =>
    have : x.testBit 0 = (x % 2 == 1) := by rw [Nat.testBit_zero]; cases hx : (x % 2 == 1) <;> simp_all
    simp only [this]
    cases hx : (x % 2 == 1) <;> simp
  | succ i =>
    have h1 : x.testBit (i + 1) = (x / 2).testBit i := by rw [Nat.testBit_succ]
    rw [h1]
    cases hx : (x % 2 == 1) <;> simp [hi] <;> omega

theorem stp_shl (x : Nat) (h : x < 2 ^ 31) : stp (BitVec.ofNat 32 x <<< 1) = BitVec.ofNat 32 x := by
  unfold stp
  rw [if_neg (by simp)]
  apply BitVec.eq_of_getLsbD_eq
  intro i hi
  rw [BitVec.getLsbD_ushiftRight, BitVec.getLsbD_shiftLeft]
  by_cases h31 : 1 + i < 32
  · simp [h31, hi]
  · have : i = 31 := by omega
    subst this
    have h1 : (BitVec.ofNat 32 x).getLsbD 31 = false := by
      rw [BitVec.getLsbD_ofNat, Nat.testBit_lt_two_pow (by omega)]; rfl
    rw [h1]
    simp

/-- n message bits, one at a time, are the word of them at once. -/
theorem fold_low (n : Nat) : ∀ (x : Nat) (r : R), n ≤ 32 → x < 2 ^ n → (low n x).foldl bitStep r = stps n (r ^^^ BitVec.ofNat 32 x) := by
  induction n with
  | zero =>
    intro x r _ hx
    have : x = 0 := by simpa using hx
    subst this
    simp [low, stps]
  | succ n ih =>
    intro x r hn hx
    have hx2 : x / 2 < 2 ^ n := by rw [Nat.pow_succ] at hx; omega
    have h32 : 2 ^ (n + 1) ≤ 2 ^ 32 := Nat.pow_le_pow_right (by decide) hn
    have h31 : 2 ^ n ≤ 2 ^ 31 := Nat.pow_le_pow_right (by decide) (by omega)
    simp only [low, List.foldl_cons, stps]
    rw [ih (x / 2) _ (by omega) hx2]
    congr 1
    rw [ofNat_split x, ← BitVec.xor_assoc, stp_xor, stp_shl _ (by omega)]
    rfl

def low8 (b : UInt8) : List Bool := low 8 b.toNat

/-- All message bits of a text. -/
def bitsL (l : List UInt8) : List Bool := l.flatMap low8

theorem byteStep_bits (r : R) (b : UInt8) : byteStep r b = (low8 b).foldl bitStep r :=
  (fold_low 8 b.toNat r (by decide) b.toNat_lt).symm

theorem foldl_bits (l : List UInt8) : ∀ r, l.foldl byteStep r = (bitsL l).foldl bitStep r := by
  induction l with
  | nil => intro r; rfl
  | cons b l ih =>
    intro r
    simp only [bitsL, List.foldl_cons, List.flatMap_cons, List.foldl_append]
    rw [ih, byteStep_bits]
    rfl

/-- The difference of two rows of bits of one length. -/
def xorB (a b : List Bool) : List Bool := List.zipWith (· != ·) a b

theorem fold_diff (a : List Bool) : ∀ (b : List Bool) (r q : R), a.length = b.length →
    a.foldl bitStep r ^^^ b.foldl bitStep q = (xorB a b).foldl bitStep (r ^^^ q) := by
  induction a with
  | nil => intro b r q h; cases b <;> simp_all [xorB]
  | cons x a ih =>
    intro b r q h
    cases b with
    | nil => simp at h
    | cons y b =>
      simp only [List.foldl_cons, xorB, List.zipWith_cons_cons]
      rw [ih b _ _ (by simpa using h)]
      congr 1
      unfold bitStep
      rw [← stp_xor]
      congr 1
      cases x <;> cases y <;> simp
      · rw [BitVec.xor_assoc]
      · rw [BitVec.xor_assoc, BitVec.xor_assoc, BitVec.xor_comm q]
      · rw [← BitVec.xor_assoc, BitVec.xor_assoc r, BitVec.xor_comm 1#32 q, BitVec.xor_assoc r, BitVec.xor_assoc q, BitVec.xor_self, BitVec.xor_zero]

theorem fold_zeros (n : Nat) (r : R) : (List.replicate n false).foldl bitStep r = stps n r := by
  induction n generalizing r with
  | zero => rfl
  | succ n ih =>
    simp only [List.replicate_succ, List.foldl_cons, stps]
    rw [ih]
    simp [bitStep]

/-- A difference of 32 bits, at whatever place, that is not nothing: the sums differ. -/
theorem burst (a b : List UInt8) (n m x : Nat) (hl : (bitsL a).length = (bitsL b).length) (hx : x < 2 ^ 32) (hx0 : x ≠ 0)
    (h : xorB (bitsL a) (bitsL b) = List.replicate n false ++ (low 32 x ++ List.replicate m false)) : crcL a ≠ crcL b := by
  intro e
  unfold crcL at e
  have e1 : a.foldl byteStep 0xffffffff#32 = b.foldl byteStep 0xffffffff#32 := by
    have := congrArg (fun z => ~~~ z) e
    simpa using this
  rw [foldl_bits, foldl_bits] at e1
  have e2 := fold_diff (bitsL a) (bitsL b) 0xffffffff#32 0xffffffff#32 hl
  rw [e1, BitVec.xor_self, BitVec.xor_self, h, List.foldl_append, List.foldl_append, fold_zeros, fold_zeros, stps_zero, fold_low 32 x _ (by decide) hx] at e2
  have e3 := stps_eq_zero _ _ (stps_eq_zero _ _ e2.symm)
  have e4 : (BitVec.ofNat 32 x).toNat = 0 := by
    rw [BitVec.zero_xor] at e3
    rw [e3]; rfl
  rw [BitVec.toNat_ofNat, Nat.mod_eq_of_lt hx] at e4
  exact hx0 e4

end Go.Proofs.YtpmffneohcbhbaaDoor.Crc
