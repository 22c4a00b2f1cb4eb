/- Parts of the proof, joined: stream.New, walked: a stream of one's own.; What the laws of a stream begin with: small, post, published, walked; steps in memory.; The steps of a stream in memory.; The frame of a law's row, whatever its parameters: a call that returns true and turns nothing below the heap's old size meets the row's post; and what a reading of an argument tells of the argument's cells. Over any program.; What the cards of this seat share: a world whose tables are laid; the bound of a text; the length's cell.; A slice of records among the parameters, opened. -/
import Derived.Test.YtbgchhgdlceceaaGreatDoorStrmBaseM33
import Derived.Test.YtbgchhgdlceceaaGreatDoorRows
import Derived.Carry
import Derived.WideKeyArgs
import Derived.SizedLaws
import Derived.OpenShut
import Derived.Test.YtbgchhgdlceceaaGreatDoorTie
import Derived.Test.YtbgchhgdlceceaaGreatDoorCards
import Derived.Deep.DeepHandedRow
import Derived.Lib.LaidTab
import Derived.ChangeSlices
namespace Go.Proofs.YtbgchhgdlceceaaGreatDoor.Strm
open Go.RowKit Heap
open Subj (Tok ML Strs strsV planErr planCells Small Inv check_any ten)
open Vlt (new_vlt new_vlt_bad Whole)
open Go.Proofs.YtbgchhgdlceceaaGreatDoor.Own (clone_strs)

def roomOk (room size : Int) : Prop := (1 ≤ room ∧ room ≤ 65536) ∧ 1 ≤ size ∧ size ≤ 4096
instance (room size : Int) : Decidable (roomOk room size) := by unfold roomOk; infer_instance
def newErr (name : List UInt8) (p : Pl) (room size : Int) : Nat := if planErr name p.fs p.nums ≠ 0 then planErr name p.fs p.nums else if roomOk room size then 0 else 1

/-- What stream.New leaves. -/
def MadeS (W w : World) (name : ByteArray) (p : Pl) (room size : Int) (e : Ending) (w' : World) : Prop :=
  Below w.heap.size w w' ∧ ((newErr name.data.toList p room size ≠ 0 ∧ e = .returned (.tuple #[.pointer none, .int .i64 (newErr name.data.toList p room size : Nat)])) ∨
    (newErr name.data.toList p room size = 0 ∧ ∃ F K S, e = .returned (.tuple #[.pointer (some ⟨K, 0, none⟩), .int .i64 0]) ∧ SmAt W F K S 0 room size name p s0 w' ∧ ∀ k, F k → w.heap.size ≤ k))

section
variable {W w : World}

theorem MadeS.bad {name : ByteArray} {p : Pl} {room size : Int} {er : Nat} {w' : World} (h : newErr name.data.toList p room size = er) (h0 : er ≠ 0) (hb : Below w.heap.size w w') : MadeS W w name p room size (.returned (.tuple #[.pointer none, .int .i64 (er : Nat)])) w' := by
  subst h
  exact ⟨hb, .inl ⟨h0, rfl⟩⟩

set_option maxHeartbeats 4000000 in
set_option maxRecDepth 100000 in
theorem new_sm (hW : Below W.heap.size W w) (hm : ML W) (name : ByteArray) (v : Value) (p : Pl) (room size : Int) (hS : Strs w v p.fs) (hz : Small p.fs) (hl : p.fs.length ≤ 1048576) (hnm : name.size ≤ 1048576) :
    Calls Tryz.prog 34 #[.agg (planCells name v p.msgs p.bytes p.age p.per p.size p.disc p.keep p.win), .int .i64 room, .int .i64 size] w (MadeS W w name p room size) := by
  obtain ⟨fs, x0, x1, x2, x3, x4, x5, x6, x7⟩ := p
  obtain ⟨er, her⟩ : ∃ er, planErr name.data.toList fs [x0, x1, x2, x3, x4, x5, x6, x7] = er := ⟨_, rfl⟩
  have hne : newErr name.data.toList ⟨fs, x0, x1, x2, x3, x4, x5, x6, x7⟩ room size = if er ≠ 0 then er else if roomOk room size then 0 else 1 := by rw [← her]; rfl
  obtain ⟨Q, hQ⟩ : ∃ Q, MadeS W w name ⟨fs, x0, x1, x2, x3, x4, x5, x6, x7⟩ room size = Q := ⟨_, rfl⟩
  rw [hQ]
  simp only at hS hz hl ⊢
  obtain ⟨ao, cap, rfl, hcp, hat⟩ := id hS
  obtain ⟨w1, hw1⟩ : ∃ w1, w1 = w.alloc (.cells (planCells name (.slice ao fs.length cap) x0 x1 x2 x3 x4 x5 x6 x7) 62) := ⟨_, rfl⟩
  have hb1 : Below w.heap.size w w1 := by rw [hw1]; exact (Below.refl _ _).alloc (Nat.le_refl _) _
  have he1 : w1.heap[w.heap.size]? = some (.cells (planCells name (.slice ao fs.length cap) x0 x1 x2 x3 x4 x5 x6 x7) 62 (0, 0)) := by rw [hw1]; exact heap_alloc_new w _
  have hck := check_any name _ fs x0 x1 x2 x3 x4 x5 x6 x7 w1 (by unfold maxLen; omega) (hS.below hb1) hz ((hm.below hW).below hb1)
  rw [her] at hck
  unfold planCells at *
  obtain ⟨bx, hbx⟩ : ∃ bx, w.heap.size = bx := ⟨_, rfl⟩
  rw [hbx] at he1
  have HCK := Lib.hid hck; have HS := Lib.hid hS; have HB1 := Lib.hid hb1; have HE1 := Lib.hid he1; have HBX := Lib.hid hbx; have HM := Lib.hid hm; have HW := Lib.hid hW; have HNE := Lib.hid hne; have HQ := Lib.hid hQ
  obtain ⟨q0, q1, q2, q3, q4, q5, q6, q7, q8, q9, qf⟩ := ten he1
  have hbl := heap_lt he1
  clear hck hS hz hm hW hcp hat hb1 he1 hbx her hne hQ
  go_enter Tryz.func34, Tryz.ntmps34
  go_upto_region 1 with fail
  rw [← hw1, HBX.out]
  clear hw1
  go_wp2_with fail
  refine HCK.out.mono ?_
  rintro e w2 ⟨rfl, hI2⟩
  have he2 := (hI2.2.block bx hbl).trans HE1.out
  have HE2 := Lib.hid he2
  have HB2 := Lib.hid (HB1.out.trans (hI2.2.mono HB1.out.size))
  clear hI2 he2 q0 q1 q2 q3 q4 q5 q6 q7 q8 q9 qf hbl HCK
  by_cases h0 : er = 0
  · subst h0
    have HW2 := Lib.hid (HW.out.trans (HB2.out.mono HW.out.size))
    by_cases hrm : roomOk room size
    · have HNE0 := Lib.hid (show newErr name.data.toList ⟨fs, x0, x1, x2, x3, x4, x5, x6, x7⟩ room size = 0 from by rw [HNE.out, if_neg (by simp), if_pos hrm])
      have HV := Lib.hid (new_vlt (W := W) HW2.out HM.out room size hrm.1.1 hrm.1.2 hrm.2)
      clear hrm
      go_wp2_with fail
      refine HV.out.mono ?_
      rintro e w3 ⟨FV, V, D, G, S, rfl, hv, hvn, hb3⟩
      have he3 := (hb3.block bx (heap_lt HE2.out)).trans HE2.out
      have HB3 := Lib.hid (HB2.out.trans (hb3.mono HB2.out.size))
      have HCL := Lib.hid (clone_strs (HS.out.below HB3.out) hl)
      have HV3 := Lib.hid hv; have HVN := Lib.hid hvn
      have HE3 := Lib.hid he3
      have HS2 := Lib.hid (show w.heap.size ≤ w2.heap.size ∧ bx < w2.heap.size from ⟨HB2.out.size, heap_lt HE2.out⟩)
      obtain ⟨q0, q1, q2, q3, q4, q5, q6, q7, q8, q9, qf⟩ := ten he3
      have hbl := heap_lt he3
      clear hv hvn hb3 he3 HV
      go_wp2_with fail
      refine HCL.out.mono ?_
      rintro e w4 ⟨v4, rfl, hr4, ho4, hb4⟩
      obtain ⟨a4, c4, rfl⟩ := hr4.slice
      have he4 := (hb4.block bx hbl).trans HE3.out
      obtain ⟨w5, hw5⟩ : ∃ w5, w5 = w4.setCell ⟨bx, 1, none⟩ (.slice a4 fs.length c4) := ⟨_, rfl⟩
      have he5 : w5.heap[bx]? = some (.cells #[.string name, (.slice a4 fs.length c4), .int .i64 x0, .int .i64 x1, .int .i64 x2, .int .i64 x3, .int .i64 x4, .int .i64 x5, .int .i64 x6, .int .i64 x7] 62 (0, 0)) := by rw [hw5]; exact heap_setCell_same _ _ _ _ _ _ he4
      have ht5 : Heap.Touch (fun k => k = bx) w4 w5 := by rw [hw5]; exact (Heap.Touch.refl (fun k => k = bx) w4).setCell (.inl rfl) _
      have hb5 : Below w.heap.size w w5 := by rw [hw5]; exact (HB3.out.trans (hb4.mono HB3.out.size)).setCell (by have := HBX.out; exact Nat.le_of_eq this) _
      have hr5 : Row w5 9 1 (.slice a4 fs.length c4) fs.length (strsV fs) := hr4.kept fun k hk _ => by rw [hw5]; exact heap_setCell_other _ _ _ _ (by have := (ho4 k hk).1; show k ≠ bx; omega)
      have hv5 : Vlt.VAt W FV V D G S 0 room size ⟨[], [], 0⟩ w5 := by
        refine (HV3.out.low hb4).kept (HW.out.trans (hb5.mono HW.out.size)) ht5.size fun k hk hlt => ht5.block k hlt fun e => ?_
        have := HVN.out k hk
        have := HS2.out
        omega
      obtain ⟨w6, hw6⟩ : ∃ w6, w6 = w5.alloc (.cells #[.string name, (.slice a4 fs.length c4), .int .i64 x0, .int .i64 x1, .int .i64 x2, .int .i64 x3, .int .i64 x4, .int .i64 x5, .int .i64 x6, .int .i64 x7, .pointer (some ⟨V, 0, none⟩), .slice none 0 0] 180) := ⟨_, rfl⟩
      have hb6 : Below w5.heap.size w5 w6 := by rw [hw6]; exact (Below.refl _ _).alloc (Nat.le_refl _) _
      have hk6 : w6.heap[w5.heap.size]? = some (.cells #[.string name, (.slice a4 fs.length c4), .int .i64 x0, .int .i64 x1, .int .i64 x2, .int .i64 x3, .int .i64 x4, .int .i64 x5, .int .i64 x6, .int .i64 x7, .pointer (some ⟨V, 0, none⟩), .slice none 0 0] 180 (0, 0)) := by rw [hw6]; exact heap_alloc_new w5 _
      have HF := Lib.hid (show Q (.returned (.tuple #[.pointer (some ⟨w5.heap.size, 0, none⟩), .int .i64 0])) w6 from by
        have hbw := hb5.trans (hb6.mono hb5.size)
        have hwx := HW.out.size
        have hsx := HS2.out
        have h3x := HB3.out.size
        have hF5 : ∀ k, FV k → w.heap.size ≤ k ∧ k < w3.heap.size := fun k hk => ⟨by have := HVN.out k hk; omega, HV3.out.bF k hk⟩
        have ho5 : ∀ k, own (.slice a4 fs.length c4) k → w3.heap.size ≤ k ∧ k < w5.heap.size := fun k hk => ⟨(ho4 k hk).1, Nat.lt_of_lt_of_le (ho4 k hk).2 ht5.size⟩
        have h4x := hb4.size
        have h5x := ht5.size
        have hno : ∀ k, ¬ own (.slice none 0 0) k := fun k hk => by simp [own, Value.ownBlock] at hk
        rw [← HQ.out]
        refine ⟨hbw, .inr ⟨HNE0.out, fun k => FV k ∨ k = w5.heap.size ∨ own (.slice a4 fs.length c4) k ∨ own (.slice none 0 0) k, w5.heap.size, S, rfl, ⟨⟨FV, V, D, G, .slice a4 fs.length c4, .slice none 0 0, ⟨hk6, hv5.low hb6, Whole.new, hr5.kept fun k _ hk => hb6.block k hk, Row.nil _ _ _, by omega, fun e => ?_, fun k hk => ⟨?_, fun e => ?_, fun e => ?_⟩, fun k hk => absurd hk (hno k)⟩, fun k hk => hk⟩, fun k hk => ?_, fun k hk => ?_⟩, fun k hk => ?_⟩⟩
        · have := (hF5 _ e).2; omega
        · have := (ho5 k hk).1; omega
        · have := (hF5 _ e).2; have := (ho5 k hk).1; omega
        · have := (ho5 k hk).2; omega
        · rcases hk with hk | rfl | hk | hk
          · have := hF5 k hk; omega
          · omega
          · have := ho5 k hk; omega
          · exact absurd hk (hno k)
        · have h6 : w6.heap.size = w5.heap.size + 1 := by rw [hw6]; simp
          rcases hk with hk | rfl | hk | hk
          · have := hF5 k hk; omega
          · omega
          · have := ho5 k hk; omega
          · exact absurd hk (hno k)
        · rcases hk with hk | rfl | hk | hk
          · have := hF5 k hk; omega
          · omega
          · have := ho5 k hk; omega
          · exact absurd hk (hno k))
      have HE5 := Lib.hid he5
      obtain ⟨p0, p1, p2, p3, p4, p5, p6, p7, p8, p9, pf⟩ := ten he4
      have hbl4 := heap_lt he4
      clear hr4 ho4 hb4 he4 he5 hb5 hr5 hb6 hk6 ht5 hv5 q0 q1 q2 q3 q4 q5 q6 q7 q8 q9 qf hbl
      go_upto_region 8 with fail
      rw [← hw5]
      clear hw5 p0 p1 p2 p3 p4 p5 p6 p7 p8 p9 pf hbl4
      obtain ⟨q0, q1, q2, q3, q4, q5, q6, q7, q8, q9, qf⟩ := ten HE5.out
      have hbl := heap_lt HE5.out
      go_wp2_with fail
      rw [← hw6]
      first | exact HF.out | (go_ret2; exact HF.out)
    · have HNE0 := Lib.hid (show newErr name.data.toList ⟨fs, x0, x1, x2, x3, x4, x5, x6, x7⟩ room size = 1 from by rw [HNE.out, if_neg (by simp), if_neg hrm])
      have HV := Lib.hid (new_vlt_bad (W := W) HW2.out HM.out room size hrm)
      clear hrm
      go_wp2_with fail
      refine HV.out.mono ?_
      rintro e w3 ⟨rfl, hb3⟩
      have HF := Lib.hid (show Q (.returned (.tuple #[.pointer none, .int .i64 1])) w3 from by
        rw [← HQ.out]
        exact MadeS.bad (er := 1) HNE0.out (by decide) (HB2.out.trans (hb3.mono HB2.out.size)))
      clear hb3 HV
      go_wp2_with fail
      first | exact HF.out | (go_ret2; exact HF.out)
  · have h0z : ((er : Int) == 0) = false := by simpa using h0
    have HF := Lib.hid (show Q (.returned (.tuple #[.pointer none, .int .i64 er])) w2 from by
      rw [← HQ.out]
      exact MadeS.bad (by rw [HNE.out, if_pos h0]) h0 HB2.out)
    go_wp2_with fail
    first | exact HF.out | (go_ret2; exact HF.out)
end
end Go.Proofs.YtbgchhgdlceceaaGreatDoor.Strm

namespace Go.Proofs.YtbgchhgdlceceaaGreatDoor.Strm
open Go.RowKit Heap
open Subj (Tok ML Strs Small planErr planCells)
open Vlt (sums_vlt low_to)
open Rec (Rc far)
open Sto (Right sumsV sixC fourS)

def smallPl : Pl := ⟨[[97, 46, 62]], 2, 0, 0, 0, 0, 0, 0, 0⟩
def smallNm : ByteArray := ⟨#[115]⟩
def postX : Po := ⟨[97, 46, 98], [], [], [100], -1, 0⟩
theorem small_new : newErr smallNm.data.toList smallPl 1000 100 = 0 := by decide +kernel

def u1 : Sm := (pubP smallPl 1000 100 5 postX s0).1
def u2 : Sm := (pubP smallPl 1000 100 5 postX u1).1
def u3 : Sm := (pubP smallPl 1000 100 5 postX u2).1
theorem u3_sums : u3.v.L.length = 2 ∧ Sto.bytesR u3.v.L = 8 ∧ (u3.v.L.head?.map (·.seq)).getD 0 = 2 ∧ u3.v.last = 3 := by decide +kernel
theorem u_len : s0.v.L.length = 0 ∧ u1.v.L.length = 1 ∧ u2.v.L.length = 2 := by decide +kernel

theorem fits_post : FitsP postX := ⟨by show (3 : Nat) ≤ _; omega, by show (0 : Nat) ≤ _; omega, by show (0 : Nat) ≤ _; omega, by show (1 : Nat) ≤ _; omega⟩
theorem fits_small : FitsF smallPl := ⟨by show (1 : Nat) ≤ _; omega, fun f hf => by
  have : f = [97, 46, 62] := by simpa [smallPl] using hf
  subst this
  show (3 : Nat) ≤ _; omega⟩

section
variable {w : World}

set_option maxRecDepth 100000 in
theorem post_any : Calls Tryz.prog 119 #[.string ⟨#[97, 46, 98]⟩] w fun e w' => e = .returned (postV postX) ∧ Below w.heap.size w w' := by
  obtain ⟨w1, hw1⟩ : ∃ w1, w1 = w.alloc (.cells #[.string ⟨#[]⟩, .string ⟨#[]⟩, .string ⟨#[]⟩, .string ⟨#[]⟩, .int .i64 0, .int .i64 0] 112) := ⟨_, rfl⟩
  have hb1 : Below w.heap.size w w1 := by rw [hw1]; exact (Below.refl _ _).alloc (Nat.le_refl _) _
  have he1 : w1.heap[w.heap.size]? = some (.cells #[.string ⟨#[]⟩, .string ⟨#[]⟩, .string ⟨#[]⟩, .string ⟨#[]⟩, .int .i64 0, .int .i64 0] 112 (0, 0)) := by rw [hw1]; exact heap_alloc_new w _
  obtain ⟨bx, hbx⟩ : ∃ bx, w.heap.size = bx := ⟨_, rfl⟩
  rw [hbx] at he1
  obtain ⟨q0, q1, q2, q3, q4, q5⟩ := sixC he1
  have qf : ∀ j, w1.frozen? ⟨bx, j, none⟩ = false := fun j => frozen_of_row w1 bx j _ _ he1
  have hbl := heap_lt he1
  have he2 := Sto.set6 (.string ⟨#[97, 46, 98]⟩) (.string ⟨#[]⟩) (.string ⟨#[]⟩) (.string ⟨#[100]⟩) (.int .i64 (-1)) (.int .i64 0) he1
  have hb2 := Sto.below6 hb1 (Nat.le_of_eq hbx) (.string ⟨#[97, 46, 98]⟩) (.string ⟨#[]⟩) (.string ⟨#[]⟩) (.string ⟨#[100]⟩) (.int .i64 (-1)) (.int .i64 0)
  have HE2 := Lib.hid he2; have HB2 := Lib.hid hb2; have HBX := Lib.hid hbx
  clear he1 hb1 he2 hb2 hbx
  go_enter Tryz.func119, Tryz.ntmps119
  go_upto_region 1 with fail
  rw [← hw1, HBX.out]
  clear hw1
  obtain ⟨w2, hw2⟩ : ∃ w2, w2 = ((((((w1.setCell ⟨bx, 0, none⟩ (.string ⟨#[97, 46, 98]⟩)).setCell ⟨bx, 1, none⟩ (.string ⟨#[]⟩)).setCell ⟨bx, 2, none⟩ (.string ⟨#[]⟩)).setCell ⟨bx, 3, none⟩ (.string ⟨#[100]⟩)).setCell ⟨bx, 4, none⟩ (.int .i64 (-1))).setCell ⟨bx, 5, none⟩ (.int .i64 0)) := ⟨_, rfl⟩
  rw [← hw2] at HE2 HB2
  go_wp2_with fail
  rw [← hw2]
  obtain ⟨r0, r1, r2, r3, r4, r5⟩ := sixC HE2.out
  refine bodyPost_ret (v := .agg #[.string ⟨#[97, 46, 98]⟩, .string ⟨#[]⟩, .string ⟨#[]⟩, .string ⟨#[100]⟩, .int .i64 (-1), .int .i64 0]) (by simp [results, Tryz.results119, go_sem, r0, r1, r2, r3, r4, r5]; try rfl) rfl ?_
  exact ⟨rfl, HB2.out⟩

set_option maxRecDepth 100000 in
theorem small_sm (hm : ML w) : Calls Tryz.prog 30 #[] w fun e w' => ∃ F K S, e = .returned (.pointer (some ⟨K, 0, none⟩)) ∧ SmAt w F K S 0 1000 100 smallNm smallPl s0 w' := by
  obtain ⟨w1, hw1⟩ : ∃ w1, w1 = w.alloc (.cells #[.string ⟨#[97, 46, 62]⟩] 9) := ⟨_, rfl⟩
  have hb1 : Below w.heap.size w w1 := by rw [hw1]; exact (Below.refl _ _).alloc (Nat.le_refl _) _
  have he1 : w1.heap[w.heap.size]? = some (.cells #[.string ⟨#[97, 46, 62]⟩] 9 (0, 0)) := by rw [hw1]; exact heap_alloc_new w _
  have hS : Strs w1 (.slice (some ⟨w.heap.size, 0, none⟩) 1 1) smallPl.fs := ⟨_, 1, rfl, Nat.le_refl _, fun _ => ⟨w.heap.size, 0, rfl, fun i hi => by
    have : i = 0 := by simp [smallPl] at hi; exact hi
    subst this
    rw [cell_of_row w1 _ _ _ _ _ he1]; rfl⟩⟩
  have hsm : Small smallPl.fs := fun i => by
    cases i with
    | zero => show (3 : Nat) ≤ _; omega
    | succ i => simp [smallPl, List.getD]
  have hn := new_sm (W := w) hb1 hm smallNm _ smallPl 1000 100 hS hsm (by show (1 : Nat) ≤ _; omega) (by show (1 : Nat) ≤ _; omega)
  unfold MadeS at hn
  rw [small_new] at hn
  have hn2 : Calls Tryz.prog 34 #[.agg #[.string ⟨#[115]⟩, .slice (some ⟨w.heap.size, 0, none⟩) 1 1, .int .i64 2, .int .i64 0, .int .i64 0, .int .i64 0, .int .i64 0, .int .i64 0, .int .i64 0, .int .i64 0], .int .i64 1000, .int .i64 100] w1 (fun e w' => ∃ F K S, e = .returned (.tuple #[.pointer (some ⟨K, 0, none⟩), .int .i64 0]) ∧ SmAt w F K S 0 1000 100 smallNm smallPl s0 w') := by
    refine Calls.mono hn ?_
    rintro e w' ⟨_, ⟨h0, _⟩ | ⟨_, F, K, S, h1, h2, _⟩⟩
    · exact absurd rfl h0
    · exact ⟨F, K, S, h1, h2⟩
  have HN := Lib.hid hn2
  clear hn hn2 hS hsm he1 hb1 hm
  go_enter Tryz.func30, Tryz.ntmps30
  go_wp2_with fail
  rw [← hw1]
  refine HN.out.mono ?_
  rintro e w2 ⟨F, K, S, rfl, h2⟩
  have H2 := Lib.hid h2
  clear h2 HN hw1
  go_wp2_with fail
  go_ret
  exact ⟨F, K, S, rfl, H2.out⟩

/-- The first three posts. -/
def uN : Nat → Sm
  | 0 => s0
  | n + 1 => (pubP smallPl 1000 100 5 postX (uN n)).1
theorem uN3 : uN 3 = u3 := rfl
theorem uN_facts : ∀ k, k < 3 → (uN k).ids.length = 0 ∧ (uN k).v.L.length ≤ 2
  | 0, _ => by decide +kernel
  | 1, _ => by decide +kernel
  | 2, _ => by decide +kernel
  | k + 3, h => by omega

set_option maxHeartbeats 4000000 in
set_option maxRecDepth 100000 in
theorem published_any (hm : ML w) : Calls Tryz.prog 59 #[] w fun e w' => e = .returned (.bool true) ∧ Below w.heap.size w w' := by
  have HSM := Lib.hid (small_sm hm); have HM := Lib.hid hm
  clear hm
  go_enter Tryz.func59, Tryz.ntmps59
  go_wp2_with fail
  refine HSM.out.mono ?_
  rintro e w1 ⟨F, K, S, rfl, h1⟩
  have H1 := Lib.hid (show ∃ F c, SmAt w F K S c 1000 100 smallNm smallPl (uN 0) w1 ∧ c + (uN 0).v.L.length ≤ 4 * 0 from ⟨F, 0, h1, by show 0 + (s0.v.L.length) ≤ 0; rw [u_len.1]; omega⟩)
  clear h1 HSM
  go_wp2_with fail
  go_loopw [5] (fun i wr => ∃ k : Nat, k ≤ 3 ∧ i = .int .i64 k ∧ Hid (∃ F c, SmAt w F K S c 1000 100 smallNm smallPl (uN k) wr ∧ c + (uN k).v.L.length ≤ 4 * k)) (fun i _ => 3 - (intOf i).toNat)
  case atStart => exact ⟨0, Nat.zero_le _, rfl, H1⟩
  case round =>
    obtain ⟨k, hk, rfl, HR⟩ := hrel
    clear H1
    by_cases hlt : k < 3
    · have hltz : (k : Int) < 3 := by omega
      obtain ⟨F, c, h, hc⟩ := HR.out
      have HH := Lib.hid (And.intro h hc)
      clear h hc HR
      go_wp2_with fail
      refine post_any.mono ?_
      rintro e w2 ⟨rfl, hb2⟩
      have hpu := pub_sm (HH.out.1.low hb2) (by have := HH.out.2; omega) HM.out fits_small fits_post (by decide) (by rw [(uN_facts k hlt).1]; omega) 5
      have HPU := Lib.hid hpu
      clear hb2 hpu
      go_wp2_with fail
      refine HPU.out.mono ?_
      rintro e w3 ⟨rfl, c3, ⟨⟨F3, h3, _⟩, _⟩, hc3⟩
      have HX := Lib.hid (show ∃ F c, SmAt w F K S c 1000 100 smallNm smallPl (uN (k + 1)) w3 ∧ c + (uN (k + 1)).v.L.length ≤ 4 * (k + 1) from ⟨F3, c3, h3, by
        have h4 := HH.out.2
        have h5 : c3 + (uN (k + 1)).v.L.length ≤ c + (uN k).v.L.length + 4 := hc3
        omega⟩)
      clear h3 hc3 HPU HH
      go_wp2_with fail
      exact ⟨⟨k + 1, by omega, by go_num, HX⟩, by simp [intOf]; omega⟩
    · have hltz : ¬ (k : Int) < 3 := by omega
      obtain rfl : k = 3 := by omega
      obtain ⟨F, c, h, hc⟩ := HR.out
      rw [uN3] at h
      have HST := Lib.hid (store_sm h)
      obtain ⟨FV, V, D, G, vf, vi, hP, _⟩ := h.ex
      have hsu := sums_vlt hP.vlt
      unfold sumsV at hsu
      rw [u3_sums.1, u3_sums.2.1, u3_sums.2.2.1, u3_sums.2.2.2] at hsu
      have HSU := Lib.hid hsu
      have HB := Lib.hid h.below
      clear h hc HR hP hsu
      go_wp2_with fail
      refine HST.out.mono ?_
      rintro e w' ⟨rfl, rfl⟩
      go_wp2_with fail
      refine HST.out.mono ?_
      rintro e w' ⟨rfl, rfl⟩
      go_wp2_with fail
      refine HSU.out.mono ?_
      rintro e w2 ⟨rfl, hb2⟩
      have HF := Lib.hid (HB.out.trans (hb2.mono HB.out.size))
      clear hb2 HSU HST
      go_wp2_with fail
      go_ret
      exact ⟨rfl, HF.out⟩
end
end Go.Proofs.YtbgchhgdlceceaaGreatDoor.Strm

namespace Go.Proofs.YtbgchhgdlceceaaGreatDoor.Strm
open Go.RowKit Heap
open Subj (Tok ten Small planErr plan_facts inAll)
open Rec (far)

structure StP where
  kind : Int
  now : Int
  n : Int
  x : Po
  filt : List UInt8

def stC (t : StP) : Array Value := #[.int .i64 t.kind, .int .i64 t.now, .int .i64 t.n, .string ⟨t.x.subj.toArray⟩, .string ⟨t.x.id.toArray⟩, .string ⟨t.x.head.toArray⟩, .string ⟨t.x.data.toArray⟩, .int .i64 t.x.exp, .int .i64 t.x.roll, .string ⟨t.filt.toArray⟩]

/-- A slice of steps. -/
def StepsAt (w : World) (v : Value) (l : List StP) : Prop := ∃ ao cap, v = .slice ao l.length cap ∧ (l ≠ [] → ∃ g off, ao = some ⟨g, off, none⟩ ∧ ∀ i p, l[i]? = some p → ∀ j, j < 10 → w.cell? ⟨g, off + i * 10 + j, none⟩ = (stC p)[j]?)

theorem StepsAt.below {w w' : World} {v : Value} {l : List StP} (h : StepsAt w v l) (hb : Below w.heap.size w w') : StepsAt w' v l := by
  obtain ⟨ao, cap, rfl, ha⟩ := h
  refine ⟨ao, cap, rfl, fun hne => ?_⟩
  obtain ⟨g, off, rfl, h2⟩ := ha hne
  refine ⟨g, off, rfl, fun i p hp j hj => ?_⟩
  have h3 := h2 i p hp j hj
  have h4 : ∃ u, (stC p)[j]? = some u := ⟨_, Array.getElem?_eq_getElem (by show j < 10; exact hj)⟩
  obtain ⟨u, hu⟩ := h4
  rw [hu] at h3 ⊢
  exact (hb.cell (World.block_lt_of_cell? w _ h3)).trans h3

/-- The cells of one of them. -/
theorem StepsAt.at {w : World} {ao : Option Addr} {n cap : Nat} {l : List StP} (h : StepsAt w (.slice ao n cap) l) {i : Nat} {t : StP} (ht : l[i]? = some t) {s id hd d : ByteArray} (hp : PartsP t.x s id hd d) : ∃ g off, ao = some ⟨g, off, none⟩ ∧
    w.cell? ⟨g, off + i * 10, none⟩ = some (.int .i64 t.kind) ∧ w.cell? ⟨g, off + i * 10 + 1, none⟩ = some (.int .i64 t.now) ∧ w.cell? ⟨g, off + i * 10 + 2, none⟩ = some (.int .i64 t.n) ∧ w.cell? ⟨g, off + i * 10 + 3, none⟩ = some (.string s) ∧ w.cell? ⟨g, off + i * 10 + 4, none⟩ = some (.string id) ∧ w.cell? ⟨g, off + i * 10 + 5, none⟩ = some (.string hd) ∧ w.cell? ⟨g, off + i * 10 + 6, none⟩ = some (.string d) ∧ w.cell? ⟨g, off + i * 10 + 7, none⟩ = some (.int .i64 t.x.exp) ∧ w.cell? ⟨g, off + i * 10 + 8, none⟩ = some (.int .i64 t.x.roll) ∧ w.cell? ⟨g, off + i * 10 + 9, none⟩ = some (.string ⟨t.filt.toArray⟩) := by
  obtain ⟨ao', cap', e, ha⟩ := h
  simp only [Value.slice.injEq] at e
  obtain ⟨rfl, _, rfl⟩ := e
  obtain ⟨g, off, rfl, h2⟩ := ha (fun e => by rw [e] at ht; simp at ht)
  have f := h2 i t ht
  refine ⟨g, off, rfl, ?_⟩
  have e4 : (⟨t.x.id.toArray⟩ : ByteArray) = id := by rw [← hp.i2]
  have f0 := f 0 (by omega)
  have f3 := f 3 (by omega)
  have f4 := f 4 (by omega)
  have f5 := f 5 (by omega)
  have f6 := f 6 (by omega)
  simp only [stC] at f3 f4 f5 f6
  rw [hp.s1] at f3
  rw [e4] at f4
  rw [hp.h1] at f5
  rw [hp.d1] at f6
  exact ⟨f0, f 1 (by omega), f 2 (by omega), f3, f4, f5, f6, f 7 (by omega), f 8 (by omega), f 9 (by omega)⟩

theorem newErr_plan {name : List UInt8} {p : Pl} {room size : Int} (h : newErr name p room size = 0) : planErr name p.fs p.nums = 0 ∧ roomOk room size := by
  unfold newErr at h
  split at h
  · rename_i h1; exact absurd h h1
  · rename_i h1
    split at h
    · rename_i h2; exact ⟨Classical.not_not.1 h1, h2⟩
    · cases h

/-- What a right plan's numbers are. -/
theorem plan_nums {name : List UInt8} {p : Pl} (h : planErr name p.fs p.nums = 0) : (0 ≤ p.win ∧ p.win ≤ 100000) ∧ (0 ≤ p.disc ∧ p.disc ≤ 1) ∧ 0 ≤ p.age ∧ p.age ≤ 100000 := by
  obtain ⟨_, _, _, _, h5⟩ := plan_facts h
  unfold inAll at h5
  rw [List.all_eq_true] at h5
  have f : ∀ k, k < 8 → 0 ≤ p.nums.getD k 0 ∧ p.nums.getD k 0 ≤ Subj.mosts.getD k 0 := fun k hk => by
    have := h5 k (by simp [hk])
    rw [Bool.and_eq_true, decide_eq_true_eq, decide_eq_true_eq] at this
    exact this
  exact ⟨f 7 (by omega), f 5 (by omega), f 2 (by omega)⟩

theorem fitsF_of {p : Pl} (hz : Small p.fs) (hl : p.fs.length ≤ 1048576) : FitsF p := ⟨hl, fun f hf => by
  obtain ⟨i, hi, rfl⟩ := List.getElem_of_mem hf
  have := hz i
  simpa [List.getD, hi] using this⟩
end Go.Proofs.YtbgchhgdlceceaaGreatDoor.Strm

namespace Go.Proofs.YtbgchhgdlceceaaGreatDoor
open Go.RowKit

section
open Go.WideShapes Go.ChangeShapes
variable {H : Type} {enc : TypeId × Value → H} {P : Program}

theorem trodAll_stays (hl : laidOutB P = true) {W W' : World} (hb : Below W.heap.size W W') {sp : Nat → Bool} :
    ∀ (ts : List TypeId) (vs : List Value) (ds : List (DataW H)) (ps : List MemPlace), (∀ t ∈ ts, P.readableRec t = true ∧ t < P.types.size) →
      DataW.TrodAll enc P W 0 (fun _ => true) true ts vs ds ps → (∀ x ∈ ps, x.block < W.heap.size) → (∀ x ∈ ps, sp x.block = true) →
      DataW.TrodAll enc P W' 0 sp true ts vs ds ps
  | [], [], [], _, _, h, _, _ => h
  | t :: ts, v :: vs, d :: ds, ps, hr, h, hlt, hsp => by
    obtain ⟨p, q, h1, h2, rfl⟩ := h
    obtain ⟨r1, r2⟩ := hr t (by simp)
    refine ⟨p, q, WideElems.Trod_stays hl r1 r2 h1 (fun x hx => hb.same (hlt x (by simp [hx]))) (fun x hx => hsp x (by simp [hx])), ?_, rfl⟩
    exact trodAll_stays hl hb ts vs ds q (fun t ht => hr t (by simp [ht])) h2 (fun x hx => hlt x (by simp [hx])) (fun x hx => hsp x (by simp [hx]))
  | [], [], _ :: _, _, _, h, _, _ => by cases h
  | [], _ :: _, _, _, _, h, _, _ => by cases h
  | _ :: _, [], _, _, _, h, _, _ => by cases h
  | _ :: _, _ :: _, [], _, _, h, _, _ => by cases h

/-- The law's post: it returned true, its arguments read as they did. -/
theorem post_true {f : Func} {s : ChangeSpec} {apart fresh handsOn again : Bool} {W W' : World} {args : Array Value} {ds gs : List (DataW H)} {before : List MemPlace} {tb : TypeId}
    (hl : laidOutB P = true) (hr : ∀ t ∈ f.params.toList, P.readableRec t = true ∧ t < P.types.size)
    (hres : f.resultTypes = #[tb]) (htb : P.underlying tb = some .bool) (hvars : s.vars = [])
    (hW : DataW.Whole enc P f.params.toList s.vars apart W args.toList ds gs before)
    (hs1 : (s.fn H (ds ++ gs)).results = [.lit (.bool true)]) (hs2 : (s.fn H (ds ++ gs)).args = ds) (hs3 : (s.fn H (ds ++ gs)).vars = [])
    (hb : Below W.heap.size W W') : s.post enc P f apart fresh handsOn again W args (.bool true) W' := by
  have hW0 := hW
  obtain ⟨p, q, hA, hV, rfl, hz, hn⟩ := hW
  rw [hvars] at hV
  obtain ⟨rfl, rfl⟩ := trodVars_none hV
  have hlt : ∀ x ∈ p, x.block < W.heap.size := fun x hx => hW0.lt x (by simp [hx])
  refine post_of_below (pa := p) (pv := []) hW0 (fun _ _ _ => ?_) (fun sp hsp => ?_) (fun _ _ => ?_) rfl hb ?_
  · rw [hs1, hres]
    exact trodAll_cons_mk (shut_bool htb _) trodAll_mk0
  · rw [hs2]
    exact trodAll_stays hl hb _ _ _ _ hr hA hlt (fun x hx => hsp x (by simp [hx]))
  · rw [hs3, hvars]; rfl
  · intro j t r h1 h2
    rw [hres] at h1 h2
    have hj : j = 0 := by
      have := (Array.getElem?_eq_some_iff.1 h1).1
      simpa using this
    subst hj
    simp at h1
    subst h1
    simp [Value.resultList] at h2
    subst h2
    exact okWide_bool_mk htb _
end

/-! ### What a reading tells -/
section
open Go.WideShapes Go.ChangeShapes
variable {H : Type} {enc : TypeId × Value → H} {P : Program} {w : World} {base : Nat} {spare : Nat → Bool} {held : Bool}

theorem rd_int {t : TypeId} {k : IntKind} {fuel : Nat} {cs : List Value} {y : DataW H × List MemPlace} (ht : P.underlying t = some (.int k)) (h : DataW.trod enc P w base spare held fuel t cs = some y) :
    ∃ n, cs = [.int k n] ∧ (Lit.int k n).wf = true := by
  cases fuel with
  | zero => simp [DataW.trod] at h
  | succ n =>
    unfold DataW.trod at h
    rw [ht] at h
    split at h <;> simp_all

theorem rd_string {t : TypeId} {fuel : Nat} {cs : List Value} {y : DataW H × List MemPlace} (ht : P.underlying t = some .string) (h : DataW.trod enc P w base spare held fuel t cs = some y) :
    ∃ s, cs = [.string s] ∧ s.size ≤ maxLen ∧ y.1 = .lit (.string s.data.toList) := by
  cases fuel with
  | zero => simp [DataW.trod] at h
  | succ n =>
    unfold DataW.trod at h
    rw [ht] at h
    split at h <;> simp_all
    obtain ⟨_, rfl⟩ := h
    simp

/-- A struct, field by field. -/
theorem rd_struct {t : TypeId} {fs : Array Field} {fuel : Nat} {cs : List Value} {y : DataW H × List MemPlace} (ht : P.underlying t = some (.struct fs)) (h : DataW.trod enc P w base spare held fuel t cs = some y) :
    ∃ n, cs.length = P.cellsOf t ∧ ∃ xs : List (DataW H × List MemPlace), y.1 = .agg (xs.map (·.1)) ∧ fs.toList.mapM (fun f => DataW.trod enc P w base spare held n f.type ((cs.drop f.offset).take (P.cellsOf f.type))) = some xs := by
  cases fuel with
  | zero => simp [DataW.trod] at h
  | succ n =>
    unfold DataW.trod at h
    rw [ht] at h
    split at h <;> simp_all
    obtain ⟨xs, h1, h2⟩ := h.2
    exact ⟨n, xs, by rw [← h2], h1⟩

theorem mapM_get {α β : Type} {f : α → Option β} : ∀ {l : List α} {ys : List β}, l.mapM f = some ys → ys.length = l.length ∧ ∀ (i : Nat) (a : α), l[i]? = some a → ∃ y, ys[i]? = some y ∧ f a = some y
  | [], ys, h => by
    simp at h; subst h; simp
  | a :: l, ys, h => by
    rw [List.mapM_cons] at h
    cases ha : f a with
    | none => rw [ha] at h; cases h
    | some b =>
      rw [ha] at h
      cases hl : l.mapM f with
      | none => rw [hl] at h; cases h
      | some bs =>
        rw [hl] at h
        have e : b :: bs = ys := by simpa using h
        subst e
        obtain ⟨h1, h2⟩ := mapM_get hl
        refine ⟨by simp [h1], fun i x hx => ?_⟩
        cases i with
        | zero => simp at hx; subst hx; exact ⟨b, rfl, ha⟩
        | succ i => exact h2 i x (by simpa using hx)

/-- A slice: nil, or its elements up to the capacity. -/
theorem rd_slice {t e : TypeId} {fuel : Nat} {cs : List Value} {y : DataW H × List MemPlace} (ht : P.underlying t = some (.slice e)) (h : DataW.trod enc P w base (fun _ => true) held fuel t cs = some y) :
    (cs = [.slice none 0 0] ∧ y.1 = .nil) ∨ ∃ a len cap n, cs = [.slice (some a) len cap] ∧ len ≤ cap ∧ cap ≤ maxLen ∧ ∃ elems rest : List (DataW H × List MemPlace), y.1 = .slice (elems.map (·.1)) (rest.map (·.1)) ∧ elems.length = len ∧ rest.length = cap - len ∧
      (∀ i, i < len → ∃ z, elems[i]? = some z ∧ (w.cells? base (a.add (i * P.cellsOf e)) (P.cellsOf e)).bind (DataW.trod enc P w base (fun _ => true) held n e) = some z) ∧
      (∀ i, i < cap - len → ∃ z, rest[i]? = some z ∧ (w.cells? base (a.add ((len + i) * P.cellsOf e)) (P.cellsOf e)).bind (DataW.trod enc P w base (fun _ => true) held n e) = some z) := by
  cases fuel with
  | zero => simp [DataW.trod] at h
  | succ n =>
    unfold DataW.trod at h
    rw [ht] at h
    split at h <;> first | (exfalso; simp_all; done) | simp_all
    · rw [← h]
    · obtain ⟨⟨hb, hlc, hcm⟩, hh⟩ := h
      rw [Option.bind_eq_some_iff] at hh
      obtain ⟨elems, he, hr'⟩ := hh
      rw [Option.map_eq_some_iff] at hr'
      obtain ⟨rest, hr, hy⟩ := hr'
      obtain ⟨l1, g1⟩ := mapM_get he
      obtain ⟨l2, g2⟩ := mapM_get hr
      refine ⟨_, _, _, ⟨rfl, rfl, rfl⟩, hlc, hcm, n, elems, rest, by rw [← hy], by simpa using l1, by simpa using l2, fun i hi => ?_, fun i hi => ?_⟩
      · obtain ⟨y, h1, h2⟩ := g1 i i (by simp [hi])
        exact ⟨y.1, y.2, h1, h2⟩
      · obtain ⟨y, h1, h2⟩ := g2 i i (by simp [hi])
        exact ⟨y.1, y.2, h1, h2⟩
end

end Go.Proofs.YtbgchhgdlceceaaGreatDoor

namespace Go.Proofs.YtbgchhgdlceceaaGreatDoor
open Go.ChangeShapes Go.WideShapes Go.ChangeAt Go.RowKit

def laidList : List (String × DataW Unit) := [("unicode/utf8.acceptRanges", Rows.laid_unicode_utf8_acceptRanges), ("unicode/utf8.first", Rows.laid_unicode_utf8_first)]

def acceptZ : List Nat := [128, 191, 160, 191, 128, 159, 144, 191, 128, 143] ++ List.replicate 22 0

/-- A world for the witness: the settled one, the tables holding what their initialisers lay. -/
noncomputable def laidWorld (os : Os) : World :=
  { World.holding Tryz.prog os ⟨#[], #[], []⟩ with heap := (((World.holding Tryz.prog os ⟨#[], #[], []⟩).heap.modify 1 (fun
      | .cells _ t frozen => .cells (Go.Pinned.utf8FirstZ.map fun (z : Nat) => Value.int .u8 z).toArray t frozen
      | o => o)).modify 2 (fun
      | .cells _ t frozen => .cells (acceptZ.map fun (z : Nat) => Value.int .u8 z).toArray t frozen
      | o => o)) }

set_option maxRecDepth 100000 in
theorem laid_met (os : Os) (args : Array Value) : laidMet Tryz.prog laidList ((laidWorld os).forCall (fun _ _ => 0) ⟨#[], args, []⟩).memory :=
  laidMet_of_run' 8 (by kernel_rfl) (by kernel_rfl)

theorem ml_shaped {W : World} (h : W.ShapedOpen Tryz.prog) : Subj.ML W := Tryz.laysM146.s1_3 W h

/-- A part's bulk is at most the whole's. -/
theorem bulk_part {H : Type} {d : DataW H} : ∀ {l : List (DataW H)}, d ∈ l → Rows.uptoBulk d ≤ Rows.uptoBulkAll l
  | [], h => by cases h
  | x :: r, h => by
    simp only [Rows.uptoBulkAll]
    cases List.mem_cons.1 h with
    | inl e => subst e; omega
    | inr e => have := bulk_part e; omega

theorem bulk_bound {H : Type} {l : List (DataW H)} (hk : Rows.uptoSmall H l = true) : Rows.uptoBulkAll l ≤ 1048576 := of_decide_eq_true hk

end Go.Proofs.YtbgchhgdlceceaaGreatDoor

namespace Go.Proofs.YtbgchhgdlceceaaGreatDoor.Sto
open Go.RowKit
open Rec (Rc)

theorem addr_flatO {w : World} {a : Addr} {v : Value} (h : w.cell? a = some v) : a = ⟨a.block, a.off, none⟩ := by
  cases a with
  | mk b o s =>
    cases s with
    | none => rfl
    | some s =>
      unfold World.cell? at h
      simp only at h
      split at h <;> simp at h

/-- Cells side by side, one by one. -/
theorem cells_atO {w : World} {base : Nat} {a : Addr} {n : Nat} {cs : List Value} (h : w.cells? base a n = some cs) : cs.length = n ∧ ∀ i, i < n → w.cell? (a.add i) = cs[i]? := by
  unfold World.cells? at h
  split at h
  · obtain ⟨h1, h2⟩ := mapM_get h
    refine ⟨by simpa using h1, fun i hi => ?_⟩
    obtain ⟨y, h3, h4⟩ := h2 i i (by simp [hi])
    rw [h3]
    exact h4
  · cases h

theorem bulk_textO {H : Type} (s : ByteArray) : Rows.uptoBulk (DataW.lit (H := H) (.string s.data.toList)) = s.size + 1 := by
  simp only [Rows.uptoBulk, Array.length_toList]; rfl

theorem list6O {α : Type} {l : List α} (h : l.length = 6) : ∃ a b c d e f, l = [a, b, c, d, e, f] := by
  match l, h with
  | [a, b, c, d, e, f], _ => exact ⟨a, b, c, d, e, f, rfl⟩

theorem str_back (s : ByteArray) : (⟨s.data.toList.toArray⟩ : ByteArray) = s := by cases s; simp

end Go.Proofs.YtbgchhgdlceceaaGreatDoor.Sto
