/- Parts of the proof, joined: A vault in memory: its disk, its log, its store, each of blocks of its own.; (*Vault).Do, Used, Store, walked.; vault.New, walked.; Messages that are still to come: one after another. No program here. -/
import Derived.Test.YtbgchhgdlceceaaGreatDoorPlansOwnUptoM40
namespace Go.Proofs.YtbgchhgdlceceaaGreatDoor.Vlt
open Go.RowKit Heap Dsk Log
open Subj (ML)
open Rec (Rc recErr recA rcOf codedL ml_alloc)
open Sto (StoreAt NextSt tryD after runS RecsAt Fits parts sixC recV recsV fourS)

def ptrV (b : Nat) : Value := .pointer (some ⟨b, 0, none⟩)

structure VParts (W : World) (F1 F2 : Nat → Prop) (V D G S B : Nat) (room size : Int) (s : Vt) (w : World) : Prop where
  cells : w.heap[V]? = some (.cells #[.pointer (some ⟨D, 0, none⟩), .pointer (some ⟨G, 0, none⟩), .pointer (some ⟨S, 0, none⟩), .int .i64 size] 250 (0, 0))
  disk : DiskAt W F1 D room s.A w
  log : LogAt D G size w
  store : StoreAt W F2 S B s.L s.last w
  apart : ∀ k, F1 k → ¬ F2 k
  lt1 : ∀ k, F1 k → k < w.heap.size
  g1 : ¬ F1 G
  g2 : ¬ F2 G
  v1 : ¬ F1 V
  v2 : ¬ F2 V
  oldG : W.heap.size ≤ G
  oldV : W.heap.size ≤ V
  sz : 1 ≤ size ∧ size ≤ 4096

/-- The vault at V, of the blocks F. -/
structure VAt (W : World) (F : Nat → Prop) (V D G S B : Nat) (room size : Int) (s : Vt) (w : World) : Prop where
  ex : ∃ F1 F2, VParts W F1 F2 V D G S B room size s w ∧ ∀ k, F1 k ∨ F2 k ∨ k = G ∨ k = V → F k
  newF : ∀ k, F k → W.heap.size ≤ k
  bF : ∀ k, F k → k < w.heap.size

/-- What a call at a vault leaves. -/
def NextVA (W : World) (F : Nat → Prop) (V D G S B : Nat) (room size : Int) (w : World) (s' : Vt) (w' : World) : Prop :=
  (∃ F', VAt W F' V D G S B room size s' w' ∧ ∀ k, F' k → F k ∨ w.heap.size ≤ k) ∧ Heap.Touch F w w'

section
variable {W w w1 w2 : World} {F F1 F2 : Nat → Prop} {V D G S B B' : Nat} {room size : Int} {s s1 s2 : Vt}

theorem VParts.ltG (h : VParts W F1 F2 V D G S B room size s w) : G < w.heap.size := heap_lt (show w.heap[G]? = _ from h.log)
theorem VParts.ltV (h : VParts W F1 F2 V D G S B room size s w) : V < w.heap.size := heap_lt h.cells
theorem VParts.low (h : VParts W F1 F2 V D G S B room size s w) (hb : Below w.heap.size w w1) : VParts W F1 F2 V D G S B room size s w1 :=
  { h with
    cells := (hb.block V h.ltV).trans h.cells
    disk := DiskAt.low h.disk hb
    log := h.log.below hb
    store := h.store.next hb
    lt1 := fun k hk => Nat.lt_of_lt_of_le (h.lt1 k hk) hb.size }

theorem VParts.more (h : VParts W F1 F2 V D G S B room size s w) (hB : B ≤ B') : VParts W F1 F2 V D G S B' room size s w := { h with store := h.store.mono hB }

theorem VAt.below (h : VAt W F V D G S B room size s w) : Below W.heap.size W w := by
  obtain ⟨F1, F2, hP, _⟩ := h.ex
  exact hP.disk.below

theorem VAt.low (h : VAt W F V D G S B room size s w) (hb : Below w.heap.size w w1) : VAt W F V D G S B room size s w1 := by
  obtain ⟨F1, F2, hP, hF⟩ := h.ex
  exact ⟨⟨F1, F2, hP.low hb, hF⟩, h.newF, fun k hk => Nat.lt_of_lt_of_le (h.bF k hk) hb.size⟩

theorem VAt.more (h : VAt W F V D G S B room size s w) (hB : B ≤ B') : VAt W F V D G S B' room size s w := by
  obtain ⟨F1, F2, hP, hF⟩ := h.ex
  exact ⟨⟨F1, F2, hP.more hB, hF⟩, h.newF, h.bF⟩

theorem VAt.kept (h : VAt W F V D G S B room size s w) (hb : Below W.heap.size W w1) (hsz : w.heap.size ≤ w1.heap.size) (hs : Same F w w1) : VAt W F V D G S B room size s w1 := by
  obtain ⟨F1, F2, hP, hF⟩ := h.ex
  have h1 : Same F1 w w1 := fun k hk hlt => hs k (hF k (.inl hk)) hlt
  have h2 : Same F2 w w1 := fun k hk hlt => hs k (hF k (.inr (.inl hk))) hlt
  have hd : DiskAt W F1 D room s.A w1 := by
    obtain ⟨M, β, X, hm⟩ := hP.disk.mem
    exact ⟨hP.disk.right, hb, hP.disk.newF, M, β, X, hm.kept h1⟩
  refine ⟨⟨F1, F2, { hP with cells := (hs V (hF V (.inr (.inr (.inr rfl)))) hP.ltV).trans hP.cells, disk := hd, log := (hs G (hF G (.inr (.inr (.inl rfl)))) hP.ltG).trans hP.log, store := hP.store.kept hb hsz h2, lt1 := fun k hk => Nat.lt_of_lt_of_le (hP.lt1 k hk) hsz }, hF⟩, h.newF, fun k hk => Nat.lt_of_lt_of_le (h.bF k hk) hsz⟩

theorem NextVA.same (h : VAt W F V D G S B room size s w) (hb : Below w.heap.size w w1) : NextVA W F V D G S B room size w s w1 :=
  ⟨⟨F, h.low hb, fun _ hk => .inl hk⟩, Heap.Touch.ofBelow hb⟩

theorem NextVA.more (h : NextVA W F V D G S B room size w s w1) (hB : B ≤ B') : NextVA W F V D G S B' room size w s w1 := by
  obtain ⟨⟨F', h1, h2⟩, h3⟩ := h
  exact ⟨⟨F', h1.more hB, h2⟩, h3⟩

theorem NextVA.trans {F' : Nat → Prop} (hF : ∀ k, F' k → F k ∨ w.heap.size ≤ k) (ht : Heap.Touch F w w1) (h : NextVA W F' V D G S B room size w1 s w2) : NextVA W F V D G S B room size w s w2 := by
  obtain ⟨⟨F2, h1, h2⟩, h3⟩ := h
  refine ⟨⟨F2, h1, fun k hk => ?_⟩, ht.trans h3 fun k hk hf => ?_⟩
  · rcases h2 k hk with e | e
    · exact hF k e
    · exact .inr (Nat.le_trans ht.size e)
  · rcases hF k hf with e | e
    · exact e
    · omega

end
end Go.Proofs.YtbgchhgdlceceaaGreatDoor.Vlt

namespace Go.Proofs.YtbgchhgdlceceaaGreatDoor.Vlt
open Go.RowKit Heap Dsk Log
open Subj (ML)
open Rec (Rc recErr recA rcOf codedL ml_alloc)
open Sto (StoreAt NextSt tryD after runS RecsAt Fits parts sixC recV recsV fourS)

section
variable {W w w1 : World} {F : Nat → Prop} {V D G S B : Nat} {room size : Int} {s : Vt}

end
end Go.Proofs.YtbgchhgdlceceaaGreatDoor.Vlt

namespace Go.Proofs.YtbgchhgdlceceaaGreatDoor.Vlt
open Go.RowKit Heap Dsk Log
open Subj (ML)
open Rec (Rc)
open Sto (StoreAt new_store)

section
variable {W w : World}

/-- A vault of one's own. -/
def MadeV (W : World) (room size : Int) (w : World) (e : Ending) (w' : World) : Prop :=
  ∃ F V D G S, e = .returned (.tuple #[.pointer (some ⟨V, 0, none⟩), .int .i64 0]) ∧ VAt W F V D G S 0 room size ⟨[], [], 0⟩ w' ∧ (∀ k, F k → w.heap.size ≤ k) ∧ Below w.heap.size w w'

set_option maxHeartbeats 4000000 in
set_option maxRecDepth 100000 in
theorem new_vlt (hW : Below W.heap.size W w) (hm : ML W) (room size : Int) (h1 : 1 ≤ room) (h2 : room ≤ 65536) (h3 : 1 ≤ size ∧ size ≤ 4096) :
    Calls Tryz.prog 97 #[.int .i64 room, .int .i64 size] w (MadeV W room size w) := by
  have HN := Lib.hid (new_good hW room h1 h2)
  have HSZ := Lib.hid h3; have HML := Lib.hid hm; have HW := Lib.hid hW
  obtain ⟨D, hD⟩ : ∃ D, w.heap.size + 1 = D := ⟨_, rfl⟩
  rw [hD] at HN
  clear hW hm h1 h2 h3 hD
  go_enter Tryz.func97, Tryz.ntmps97
  go_wp2_with fail
  refine HN.out.mono ?_
  rintro e w1 ⟨rfl, hd1, hb1⟩
  have HOP := Lib.hid (open_any hd1.shrink HML.out size)
  have HB1 := Lib.hid hb1
  clear hd1 hb1 HN
  go_wp2_with fail
  refine HOP.out.mono ?_
  rintro e w2 (⟨hsz, _, _⟩ | ⟨_, G, v, rfl, hd2, hg2, hgl, hr2, ho2, ht2⟩)
  · exact absurd HSZ.out (by omega)
  have hnl : openD [] = ([], []) := rfl
  rw [hnl] at hd2 hr2
  obtain ⟨a2, n2, rfl⟩ := hr2.slice
  have hb2 : Below w.heap.size w w2 := HB1.out.trans (ht2.below HB1.out.size fun k hk => hk.1)
  have HD2 := Lib.hid hd2; have HG2 := Lib.hid hg2; have HB2 := Lib.hid hb2
  have HGL := Lib.hid (show w1.heap.size ≤ G ∧ G < w2.heap.size from ⟨hgl, heap_lt (show w2.heap[G]? = _ from hg2)⟩)
  have HS1 := Lib.hid ht2.size
  have HST := Lib.hid (new_store (W := W) (w := w2) hd2.below)
  obtain ⟨S, hS⟩ : ∃ S, w2.heap.size + 1 = S := ⟨_, rfl⟩
  rw [hS] at HST
  have HSS := Lib.hid hS
  clear hd2 hg2 hb2 hgl hr2 ho2 ht2 hnl hS HOP
  go_wp2_with fail
  refine HST.out.mono ?_
  rintro e w3 ⟨rfl, hs3, hb3⟩
  obtain ⟨w4, hw4⟩ : ∃ w4, w4 = w3.alloc (.cells #[.pointer (some ⟨D, 0, none⟩), .pointer (some ⟨G, 0, none⟩), .pointer (some ⟨S, 0, none⟩), .int .i64 size] 250) := ⟨_, rfl⟩
  have hb4 : Below w3.heap.size w3 w4 := by rw [hw4]; exact (Below.refl _ _).alloc (Nat.le_refl _) _
  have he4 : w4.heap[w3.heap.size]? = some (.cells #[.pointer (some ⟨D, 0, none⟩), .pointer (some ⟨G, 0, none⟩), .pointer (some ⟨S, 0, none⟩), .int .i64 size] 250 (0, 0)) := by rw [hw4]; exact heap_alloc_new w3 _
  have hb24 := hb3.trans (hb4.mono hb3.size)
  have HF := Lib.hid (show MadeV W room size w (.returned (.tuple #[.pointer (some ⟨w3.heap.size, 0, none⟩), .int .i64 0])) w4 from by
    have z1 := HB1.out.size; have z2 := HS1.out; have z3 := hb3.size; have z4 := hb4.size; have z5 := HGL.out; have z6 := HW.out.size; have z7 := heap_lt he4
    refine ⟨fun k => w.heap.size ≤ k ∧ k < w4.heap.size, w3.heap.size, D, G, S, rfl, ⟨⟨fun k => w.heap.size ≤ k ∧ k < w1.heap.size, fun k => w2.heap.size ≤ k ∧ k < w2.heap.size + 2, ⟨he4, DiskAt.low HD2.out hb24, HG2.out.below hb24, hs3.next hb4, fun k hk hk2 => by omega, fun k hk => by omega, fun e => by omega, fun e => by omega, fun e => by omega, fun e => ?_, by omega, by omega, HSZ.out⟩, fun k hk => ?_⟩, fun k hk => by omega, fun k hk => hk.2⟩, fun k hk => hk.1, HB2.out.trans (hb24.mono HB2.out.size)⟩
    · have := hs3.bF (w2.heap.size + 1) ⟨by omega, by omega⟩
      omega
    · have := hs3.bF (w2.heap.size + 1) ⟨by omega, by omega⟩
      rcases hk with hk | hk | rfl | rfl <;> omega)
  clear hs3 hb3 hb4 he4 hb24
  go_wp2_with fail
  rw [← hw4]
  go_ret2
  exact HF.out

end
end Go.Proofs.YtbgchhgdlceceaaGreatDoor.Vlt

namespace Go.Proofs.YtbgchhgdlceceaaGreatDoor.Con
open Subj (TakerP)
open Sto (tk seekR)
open Rec (Rc far)

end Go.Proofs.YtbgchhgdlceceaaGreatDoor.Con
