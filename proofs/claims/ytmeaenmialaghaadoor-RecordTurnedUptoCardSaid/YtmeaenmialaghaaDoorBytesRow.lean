/- A block of bytes that a conversion made; a bit turned in it. -/
import Derived.Test.YtmeaenmialaghaaDoorPackWalks
import Derived.Test.YtmeaenmialaghaaDoorFlipPlain
namespace Go.Proofs.YtmeaenmialaghaaDoor.Pack
open Go.RowKit Crc

/-- Block g holds these bytes, and may be written. -/
def HoldsBytes (w : World) (g : Nat) (l : List UInt8) : Prop :=
  ∀ j, j < l.length → w.cell? ⟨g, j, none⟩ = some (.int .u8 (l.getD j 0).toNat) ∧ w.frozen? ⟨g, j, none⟩ = false

theorem holdsBytes_conv (w : World) (s : ByteArray) (e : TypeId) (n : Nat) :
    HoldsBytes (w.drew.alloc (.cells (bytesRow s n) e ((bytesRow s n).size, (bytesRow s n).size + 1))) w.heap.size s.data.toList := by
  intro j hj
  have hj' : j < s.size := by simpa using hj
  have hb : (w.drew.alloc (.cells (bytesRow s n) e ((bytesRow s n).size, (bytesRow s n).size + 1))).heap[w.heap.size]? = some (.cells (bytesRow s n) e ((bytesRow s n).size, (bytesRow s n).size + 1)) := heap_alloc_new w.drew _
  have h1 := bytesRow_at s n j hj'
  have hlt : j < (bytesRow s n).size := (Array.getElem?_eq_some_iff.1 h1).1
  constructor
  · unfold World.cell?
    simp only [hb]
    have e1 : s.data.toList.getD j 0 = s.data[j] := by
      rw [List.getD_eq_getElem?_getD, List.getElem?_eq_getElem hj]
      simp
    rw [e1]
    simpa using h1
  · unfold World.frozen?
    simp only [hb]
    simp
    omega

theorem holdsBytes_set {w : World} {g : Nat} {l : List UInt8} (h : HoldsBytes w g l) (q : Nat) (b : UInt8) (hq : q < l.length) :
    HoldsBytes (w.setCell ⟨g, q, none⟩ (.int .u8 b.toNat)) g (l.set q b) := by
  intro j hj
  rw [List.length_set] at hj
  refine ⟨?_, (World.frozen?_setCell _ _ _ _).trans (h j hj).2⟩
  by_cases e : j = q
  · subst e
    rw [List.getD_eq_getElem?_getD, List.getElem?_set_self hj]
    exact World.cell?_setCell_same' _ _ _ (by rw [(h j hj).1]; rfl)
  · rw [List.getD_eq_getElem?_getD, List.getElem?_set_ne (by omega), ← List.getD_eq_getElem?_getD]
    rw [World.cell?_setCell_other _ _ _ _ (by intro h2; exact e (by simpa using h2.symm))]
    exact (h j hj).1

theorem xor_u8 (b : UInt8) (r : Nat) (hr : r < 8) : bits .xor .u8 (b.toNat : Int) (2 ^ r % 256) = (((b ^^^ UInt8.ofNat (2 ^ r)).toNat : Nat) : Int) := by
  have hp : 2 ^ r < 256 := by
    have : 2 ^ r ≤ 2 ^ 7 := Nat.pow_le_pow_right (by decide) (by omega)
    omega
  have hb := b.toNat_lt
  have e : ((2 : Int) ^ r % 256) = ((2 ^ r : Nat) : Int) := by
    have h1 : (2 : Int) ^ r = ((2 ^ r : Nat) : Int) := by simp
    rw [h1]
    generalize 2 ^ r = z at *
    omega
  show IntKind.u8.wrap (((BitVec.ofInt 8 (b.toNat : Int) ^^^ BitVec.ofInt 8 (2 ^ r % 256)).toNat : Nat) : Int) = _
  rw [e, BitVec.ofInt_natCast, BitVec.ofInt_natCast, BitVec.toNat_xor, BitVec.toNat_ofNat, BitVec.toNat_ofNat, Nat.mod_eq_of_lt (by omega), Nat.mod_eq_of_lt (by omega)]
  rw [UInt8.toNat_xor, UInt8.toNat_ofNat', Nat.mod_eq_of_lt hp]
  have hx : b.toNat ^^^ 2 ^ r < 2 ^ 8 := Nat.xor_lt_two_pow hb hp
  simp [IntKind.wrap, IntKind.signed, IntKind.bits]
  omega

end Go.Proofs.YtmeaenmialaghaaDoor.Pack
