/- taker.Wait and rillref.Wait, walked. -/
import Derived.Test.YtglgbidcmkncgaaDoorTakeCheck2
import Derived.Test.YtglgbidcmkncgaaDoorTakeMem
namespace Go.Proofs.YtglgbidcmkncgaaDoor.Subj
open Go.RowKit

abbrev takerArg (name filt : ByteArray) (src start ack wait : Int) (vb : Value) (most pend : Int) (push : Bool) : Value :=
  .agg #[.string name, .string filt, .int .i64 src, .int .i64 start, .int .i64 ack, .int .i64 wait, vb, .int .i64 most, .int .i64 pend, .bool push]

def WaitIs (w : World) (z : Int) (e : Ending) (w' : World) : Prop := e = .returned (.int .i64 z) ∧ Below w.heap.size w w'

theorem waitC_none (nm fl : ByteArray) (fr st ak wt : Int) (ao : Option Addr) (cap : Nat) (mo pe : Int) (pu : Bool) (nth : Int) (w : World) :
    Calls Tryd.prog 44 #[takerArg nm fl fr st ak wt (.slice ao 0 cap) mo pe pu, .int .i64 nth] w (WaitIs w wt) := by
  go_enter Tryd.func44, Tryd.ntmps44
  go_wp2
  go_ret
  exact ⟨rfl, (Below.refl _ _).alloc (Nat.le_refl _) _⟩

theorem waitR_none (nm fl : ByteArray) (fr st ak wt : Int) (ao : Option Addr) (cap : Nat) (mo pe : Int) (pu : Bool) (nth : Int) (w : World) :
    Calls Tryd.prog 45 #[takerArg nm fl fr st ak wt (.slice ao 0 cap) mo pe pu, .int .i64 nth] w (WaitIs w wt) := by
  go_enter Tryd.func45, Tryd.ntmps45
  go_wp2
  go_ret
  exact ⟨rfl, (Below.refl _ _).alloc (Nat.le_refl _) _⟩

set_option maxRecDepth 100000 in
theorem waitC_some (nm fl : ByteArray) (fr st ak wt : Int) (b off cap n j : Nat) (z : List Int) (mo pe : Int) (pu : Bool) (nth : Int) (w : World)
    (hz : IntsAt w b off z) (hzn : z.length = n) (hl : n ≤ 1048576) (hn : 0 < n) (hj : min (max nth 1) n = j + 1) :
    Calls Tryd.prog 44 #[takerArg nm fl fr st ak wt (.slice (some ⟨b, off, none⟩) n cap) mo pe pu, .int .i64 nth] w (WaitIs w (z.getD j 0)) := by
  have hjn : j < n := by omega
  have hc := hz j (by omega)
  have hlt := World.block_lt_of_cell? w _ hc
  replace hlt : b < w.heap.size := hlt
  have hz0 : ((n : Int) == 0) = false := by simp; omega
  have he : (min (max nth 1) (n : Int)).toNat - 1 = j := by omega
  have hc2 : w.cell? ⟨b, off + ((min (max nth 1) (n : Int)).toNat - 1), none⟩ = some (.int .i64 (z.getD j 0)) := by rw [he]; exact hc
  have h1 : (0 : Int) ≤ min (max nth 1) (n : Int) - 1 := by omega
  have h2 : min (max nth 1) (n : Int) - 1 < n := by omega
  clear hz hzn hc he hj
  generalize z.getD j 0 = x at *
  go_enter Tryd.func44, Tryd.ntmps44
  go_wp2
  go_ret
  exact ⟨rfl, (Below.refl _ _).alloc (Nat.le_refl _) _⟩

set_option maxHeartbeats 1000000 in
set_option maxRecDepth 100000 in
theorem waitR_some (nm fl : ByteArray) (fr st ak wt : Int) (b off cap n j : Nat) (z : List Int) (mo pe : Int) (pu : Bool) (nth : Int) (w : World)
    (hz : IntsAt w b off z) (hzn : z.length = n) (hl : n ≤ 1048576) (hn : 0 < n) (hj : min (max nth 1) n = j + 1) :
    Calls Tryd.prog 45 #[takerArg nm fl fr st ak wt (.slice (some ⟨b, off, none⟩) n cap) mo pe pu, .int .i64 nth] w (WaitIs w (z.getD j 0)) := by
  have hjn : j < n := by omega
  have hc := hz j (by omega)
  have hlt := World.block_lt_of_cell? w _ hc
  replace hlt : b < w.heap.size := hlt
  have hz0 : ((n : Int) == 0) = false := by simp; omega
  have HJ := Lib.hid hj
  clear hz hzn hj
  generalize z.getD j 0 = x at *
  go_enter Tryd.func45, Tryd.ntmps45
  go_wp2_with fail
  go_loop [5, 6] (fun s5 s6 => ∃ i : Nat, i < n ∧ s5 = .int .i64 i ∧ s6 = .int .i64 ((i + 2 : Nat) : Int) ∧ (i = 0 ∨ (i : Int) + 1 ≤ nth)) (fun s5 _ => n - (intOf s5).toNat)
  case atStart => exact ⟨0, hn, rfl, rfl, .inl rfl⟩
  case round =>
    obtain ⟨i, hi, rfl, rfl, hor⟩ := hrel
    have HOR := Lib.hid hor
    clear hor
    by_cases h1 : (i : Int) + 2 ≤ nth
    · by_cases h2 : (i : Int) < (n : Int) - 1
      · go_wp2_with fail
        exact ⟨⟨i + 1, by omega, by go_num, by go_num, .inr (by omega)⟩, by simp [intOf]; omega⟩
      · obtain rfl : i = j := by have := HJ.out; omega
        go_wp2
        go_ret
        exact ⟨rfl, (Below.refl _ _).alloc (Nat.le_refl _) _⟩
    · obtain rfl : i = j := by have := HJ.out; have := HOR.out; omega
      go_wp2
      go_ret
      exact ⟨rfl, (Below.refl _ _).alloc (Nat.le_refl _) _⟩
end Go.Proofs.YtglgbidcmkncgaaDoor.Subj
