/- Parts of the proof, joined: (*Vault).Compact, walked.; vault.New, walked.; The law VaultSure, walked: it returns true.; The frame of a law's row, whatever its parameters: a call that returns true and turns nothing below the heap's old size meets the row's post; and what a reading of an argument tells of the argument's cells. Over any program. -/
import Derived.Test.YtidacfhdhdnidaaGreatDoorVaultSureUptoM37
import Derived.Test.YtidacfhdhdnidaaGreatDoorRows
import Derived.Carry
import Derived.WideKeyArgs
import Derived.SizedLaws
import Derived.OpenShut
namespace Go.Proofs.YtidacfhdhdnidaaGreatDoor.Vlt
open Go.RowKit Heap Dsk Log
open Subj (ML)
open Rec (Rc recErr recA rcOf codedL ml_alloc)
open Sto (StoreAt NextSt tryD after runS RecsAt Fits parts sixC recV recsV fourS all_any sums_any sumsV Right fld3 row_recs recsV_append news_rec info_rec)

theorem fits_good {L : List Rc} {last : Int} {I : Idx.Ents} (h : Right L last I) : ∀ r ∈ L, Fits r := fun r hr => by
  have := Rec.recErr_sizes (h.good r hr).1
  exact ⟨by omega, by omega, by omega⟩

theorem fits_mark (n : Int) : Fits (markR n) := ⟨by show 0 ≤ 1048576; decide, by show 0 ≤ 1048576; decide, by show 0 ≤ 1048576; decide⟩

section
variable {W w w1 : World} {F : Nat → Prop} {V D G S B : Nat} {room size : Int} {s : Vt}

set_option maxHeartbeats 4000000 in
set_option maxRecDepth 100000 in
theorem compact_any (h : VAt W F V D G S B room size s w) (hm : ML W) :
    Calls Tryz.prog 57 #[.pointer (some ⟨V, 0, none⟩)] w (VPost W F V D G S B room size w (compV room size s)) := by
  obtain ⟨F1, F2, hP, hF⟩ := h.ex
  obtain ⟨c0, c1, c2, c3, cf⟩ := fourS hP.cells
  obtain ⟨I, hR⟩ := hP.store.right
  have HA := Lib.hid (all_any hP.store)
  obtain ⟨L, hL⟩ : ∃ L, s.L = L := ⟨_, rfl⟩
  obtain ⟨last, hlast⟩ : ∃ last, s.last = last := ⟨_, rfl⟩
  have hLL : allV s = L ++ if 0 < last then [markR last] else [] := by unfold allV; rw [hL, hlast]
  have hcv : compV room size s = (⟨(rewD room size s.A (allV s)).1, s.L, s.last⟩, (rewD room size s.A (allV s)).2) := rfl
  obtain ⟨mk, hmk⟩ : ∃ mk, (if 0 < last then [markR last] else []) = mk := ⟨_, rfl⟩
  rw [hcv, hLL, hmk]
  have HMK := Lib.hid hmk
  have hfits := fits_good hR
  have hfew := hR.few
  rw [hL] at HA hfits hfew
  obtain ⟨n, hn⟩ : ∃ n, L.length = n := ⟨_, rfl⟩
  have HH := Lib.hid h; have HL := Lib.hid hL; have HLA := Lib.hid hlast; have HN := Lib.hid hn; have HFT := Lib.hid hfits; have HML := Lib.hid hm
  rw [hn] at hfew
  obtain ⟨i0, hi, hz0, hz1, hz2⟩ := info_parts info_rec
  have hf3 := fld3
  clear h hP hF hR hL hlast hLL hcv hfits hn hm hmk
  go_enter Tryz.func57, Tryz.ntmps57
  go_wp2_with fail
  refine HA.out.mono ?_
  rintro e w1 ⟨v1, rfl, hr1, hb1, ho1⟩
  have h1 := HH.out.low hb1
  obtain ⟨F1, F2, hP, hF⟩ := h1.ex
  have hsu := sums_any hP.store
  unfold sumsV at hsu
  rw [HL.out, HLA.out, HN.out] at hsu
  rw [HN.out] at hr1
  obtain ⟨a1, n1, rfl⟩ := hr1.slice
  clear c0 c1 c2 c3 cf
  obtain ⟨c0, c1, c2, c3, cf⟩ := fourS hP.cells
  have HSU := Lib.hid hsu; have HB1 := Lib.hid hb1; have HR1 := Lib.hid hr1; have HO1 := Lib.hid ho1
  clear hsu hb1 hr1 ho1 h1 hP hF HA
  generalize (Sto.bytesR L : Nat) = z1 at HSU
  generalize (L.head?.map (·.seq)).getD 0 = z2 at HSU
  go_wp2_with fail
  refine HSU.out.mono ?_
  rintro e w2 ⟨rfl, hb2⟩
  have hb02 := HB1.out.trans (hb2.mono HB1.out.size)
  have h2 := HH.out.low hb02
  obtain ⟨F1, F2, hP, hF⟩ := h2.ex
  have hr2 := HR1.out.kept (w' := w2) fun k _ hk => hb2.block k hk
  clear c0 c1 c2 c3 cf
  obtain ⟨c0, c1, c2, c3, cf⟩ := fourS hP.cells
  have HB2 := Lib.hid hb02; have HR2 := Lib.hid hr2
  have hw12 : w1.heap.size ≤ w2.heap.size := hb2.size
  clear hb2 hb02 hr2 h2 hP hF HSU HR1
  by_cases hl : 0 < last
  · obtain rfl : [markR last] = mk := by have := HMK.out; rw [if_pos hl] at this; exact this
    clear HMK
    go_wp2_with (at_builtin; refine Heap.wpList_append_row _ rfl (.tmp 18) (.tmp 21) 25 rfl 33 i0 _ 6 72 Tryz.underlying25 hi hz0 hz1 hz2 rfl (by decide) _ n _ rfl (HR2.out.kept (fun k _ hk => Below.heap_alloc w2 _ _ hk)) ⟨w2.heap.size, 0, none⟩ 1 1 [.int .i64 4, .int .i64 last, .int .i64 0, .string ⟨#[]⟩, .string ⟨#[]⟩, .string ⟨#[]⟩] rfl rfl (news_rec w2 _ _ _ _ _ _ _) (by simp [Value.oneCell']) (by unfold maxLen; omega) (by omega) ?_)
    intro v3 w3 r3 t3 o3
    have hal : Below w2.heap.size w2 (w2.alloc (.cells #[.int .i64 4, .int .i64 last, .int .i64 0, .string ⟨#[]⟩, .string ⟨#[]⟩, .string ⟨#[]⟩] 33)) := (Below.refl _ _).alloc (Nat.le_refl _) _
    have hb3 : Below w.heap.size w w3 := (HB2.out.trans (hal.mono HB2.out.size)).trans (t3.below (by have := HB2.out.size; have := hal.size; omega) fun k hk => HO1.out k hk)
    have h3 := HH.out.low hb3
    obtain ⟨F1, F2, hP, hF⟩ := h3.ex
    have hrs : Row w3 33 6 v3 (L ++ [markR last]).length (recsV (L ++ [markR last])) := by
      rw [List.length_append, List.length_singleton, HN.out, recsV_append]
      exact r3
    have hrw := rew_log (row_recs hrs) (by rw [List.length_append, List.length_singleton, HN.out]; omega) (fun r hr => by
      rcases List.mem_append.1 hr with hr | hr
      · exact HFT.out r hr
      · simp at hr; subst hr; exact fits_mark last) hP.disk HML.out hP.log hP.g1 hP.sz
    clear c0 c1 c2 c3 cf
    obtain ⟨c0, c1, c2, c3, cf⟩ := fourS hP.cells
    have HRW := Lib.hid hrw; have H3 := Lib.hid (And.intro h3 (And.intro hP hF)); have HB3 := Lib.hid hb3
    obtain ⟨a3, n3, rfl⟩ := r3.slice
    clear r3 t3 o3 hal hb3 h3 hP hF hrs hrw HR2
    go_wp2_with fail
    refine HRW.out.mono ?_
    rintro e w4 ⟨rfl, hd4, ht4⟩
    obtain ⟨h3, hP, hF⟩ := H3.out
    have HF := Lib.hid (show VPost W F V D G S B room size w (⟨(rewD room size s.A (L ++ [markR last])).1, s.L, s.last⟩, (rewD room size s.A (L ++ [markR last])).2) (.returned (.int .i64 ((rewD room size s.A (L ++ [markR last])).2 : Nat))) w4 from ⟨rfl, NextVA.trans (F' := F) (fun k hk => .inl hk) (Heap.Touch.ofBelow HB3.out) (h3.dsk hP hF hd4 ht4)⟩)
    clear h3 hP hF hd4 ht4 HRW H3 HB3
    go_wp2_with fail
    go_ret
    exact HF.out
  · obtain rfl : [] = mk := by have := HMK.out; rw [if_neg hl] at this; exact this
    clear HMK
    have h3 := HH.out.low HB2.out
    obtain ⟨F1, F2, hP, hF⟩ := h3.ex
    have hrs : Row w2 33 6 (.slice a1 n n1) L.length (recsV L) := by
      rw [HN.out]
      exact HR2.out
    have hrw := rew_log (row_recs hrs) (by rw [HN.out]; omega) HFT.out hP.disk HML.out hP.log hP.g1 hP.sz
    have HRW := Lib.hid hrw; have H3 := Lib.hid (And.intro h3 (And.intro hP hF))
    clear h3 hP hF hrs hrw HR2
    go_wp2_with fail
    refine HRW.out.mono ?_
    rintro e w4 ⟨rfl, hd4, ht4⟩
    obtain ⟨h3, hP, hF⟩ := H3.out
    have HF := Lib.hid (show VPost W F V D G S B room size w (⟨(rewD room size s.A (L ++ [])).1, s.L, s.last⟩, (rewD room size s.A (L ++ [])).2) (.returned (.int .i64 ((rewD room size s.A L).2 : Nat))) w4 from by rw [List.append_nil]; exact ⟨rfl, NextVA.trans (F' := F) (fun k hk => .inl hk) (Heap.Touch.ofBelow HB2.out) (h3.dsk hP hF hd4 ht4)⟩)
    clear h3 hP hF hd4 ht4 HRW H3
    go_wp2_with fail
    go_ret
    exact HF.out
end
end Go.Proofs.YtidacfhdhdnidaaGreatDoor.Vlt

namespace Go.Proofs.YtidacfhdhdnidaaGreatDoor.Vlt
open Go.RowKit Heap Dsk Log
open Subj (ML)
open Rec (Rc)
open Sto (StoreAt new_store)

section
variable {W w : World}

/-- A vault of one's own. -/
def MadeV (W : World) (room size : Int) (w : World) (e : Ending) (w' : World) : Prop :=
  ∃ F V D G S, e = .returned (.tuple #[.pointer (some ⟨V, 0, none⟩), .int .i64 0]) ∧ VAt W F V D G S 0 room size ⟨[], [], 0⟩ w' ∧ (∀ k, F k → w.heap.size ≤ k) ∧ Below w.heap.size w w'

set_option maxHeartbeats 4000000 in
set_option maxRecDepth 100000 in
theorem new_vlt (hW : Below W.heap.size W w) (hm : ML W) (room size : Int) (h1 : 1 ≤ room) (h2 : room ≤ 65536) (h3 : 1 ≤ size ∧ size ≤ 4096) :
    Calls Tryz.prog 56 #[.int .i64 room, .int .i64 size] w (MadeV W room size w) := by
  have HN := Lib.hid (new_good hW room h1 h2)
  have HSZ := Lib.hid h3; have HML := Lib.hid hm; have HW := Lib.hid hW
  obtain ⟨D, hD⟩ : ∃ D, w.heap.size + 1 = D := ⟨_, rfl⟩
  rw [hD] at HN
  clear hW hm h1 h2 h3 hD
  go_enter Tryz.func56, Tryz.ntmps56
  go_wp2_with fail
  refine HN.out.mono ?_
  rintro e w1 ⟨rfl, hd1, hb1⟩
  have HOP := Lib.hid (open_any hd1.shrink HML.out size)
  have HB1 := Lib.hid hb1
  clear hd1 hb1 HN
  go_wp2_with fail
  refine HOP.out.mono ?_
  rintro e w2 (⟨hsz, _, _⟩ | ⟨_, G, v, rfl, hd2, hg2, hgl, hr2, ho2, ht2⟩)
  · exact absurd HSZ.out (by omega)
  have hnl : openD [] = ([], []) := rfl
  rw [hnl] at hd2 hr2
  obtain ⟨a2, n2, rfl⟩ := hr2.slice
  have hb2 : Below w.heap.size w w2 := HB1.out.trans (ht2.below HB1.out.size fun k hk => hk.1)
  have HD2 := Lib.hid hd2; have HG2 := Lib.hid hg2; have HB2 := Lib.hid hb2
  have HGL := Lib.hid (show w1.heap.size ≤ G ∧ G < w2.heap.size from ⟨hgl, heap_lt (show w2.heap[G]? = _ from hg2)⟩)
  have HS1 := Lib.hid ht2.size
  have HST := Lib.hid (new_store (W := W) (w := w2) hd2.below)
  obtain ⟨S, hS⟩ : ∃ S, w2.heap.size + 1 = S := ⟨_, rfl⟩
  rw [hS] at HST
  have HSS := Lib.hid hS
  clear hd2 hg2 hb2 hgl hr2 ho2 ht2 hnl hS HOP
  go_wp2_with fail
  refine HST.out.mono ?_
  rintro e w3 ⟨rfl, hs3, hb3⟩
  obtain ⟨w4, hw4⟩ : ∃ w4, w4 = w3.alloc (.cells #[.pointer (some ⟨D, 0, none⟩), .pointer (some ⟨G, 0, none⟩), .pointer (some ⟨S, 0, none⟩), .int .i64 size] 190) := ⟨_, rfl⟩
  have hb4 : Below w3.heap.size w3 w4 := by rw [hw4]; exact (Below.refl _ _).alloc (Nat.le_refl _) _
  have he4 : w4.heap[w3.heap.size]? = some (.cells #[.pointer (some ⟨D, 0, none⟩), .pointer (some ⟨G, 0, none⟩), .pointer (some ⟨S, 0, none⟩), .int .i64 size] 190 (0, 0)) := by rw [hw4]; exact heap_alloc_new w3 _
  have hb24 := hb3.trans (hb4.mono hb3.size)
  have HF := Lib.hid (show MadeV W room size w (.returned (.tuple #[.pointer (some ⟨w3.heap.size, 0, none⟩), .int .i64 0])) w4 from by
    have z1 := HB1.out.size; have z2 := HS1.out; have z3 := hb3.size; have z4 := hb4.size; have z5 := HGL.out; have z6 := HW.out.size; have z7 := heap_lt he4
    refine ⟨fun k => w.heap.size ≤ k ∧ k < w4.heap.size, w3.heap.size, D, G, S, rfl, ⟨⟨fun k => w.heap.size ≤ k ∧ k < w1.heap.size, fun k => w2.heap.size ≤ k ∧ k < w2.heap.size + 2, ⟨he4, DiskAt.low HD2.out hb24, HG2.out.below hb24, hs3.next hb4, fun k hk hk2 => by omega, fun k hk => by omega, fun e => by omega, fun e => by omega, fun e => by omega, fun e => ?_, by omega, by omega, HSZ.out⟩, fun k hk => ?_⟩, fun k hk => by omega, fun k hk => hk.2⟩, fun k hk => hk.1, HB2.out.trans (hb24.mono HB2.out.size)⟩
    · have := hs3.bF (w2.heap.size + 1) ⟨by omega, by omega⟩
      omega
    · have := hs3.bF (w2.heap.size + 1) ⟨by omega, by omega⟩
      rcases hk with hk | hk | rfl | rfl <;> omega)
  clear hs3 hb3 hb4 he4 hb24
  go_wp2_with fail
  rw [← hw4]
  go_ret2
  exact HF.out

set_option maxRecDepth 100000 in
theorem new_vlt_bad (hW : Below W.heap.size W w) (hm : ML W) (room size : Int) (h : ¬ ((1 ≤ room ∧ room ≤ 65536) ∧ 1 ≤ size ∧ size ≤ 4096)) :
    Calls Tryz.prog 56 #[.int .i64 room, .int .i64 size] w fun e w' => e = .returned (.tuple #[.pointer none, .int .i64 1]) ∧ Below w.heap.size w w' := by
  by_cases hr : 1 ≤ room ∧ room ≤ 65536
  · have hs : size < 1 ∨ 4096 < size := by
      rcases (show (1 ≤ size ∧ size ≤ 4096) ∨ (size < 1 ∨ 4096 < size) from by omega) with e | e
      · exact absurd ⟨hr, e⟩ h
      · exact e
    have HN := Lib.hid (new_good hW room hr.1 hr.2)
    have HSZ := Lib.hid hs; have HML := Lib.hid hm
    clear hW hm h hr hs
    go_enter Tryz.func56, Tryz.ntmps56
    go_wp2_with fail
    refine HN.out.mono ?_
    rintro e w1 ⟨rfl, hd1, hb1⟩
    have HOP := Lib.hid (open_any hd1.shrink HML.out size)
    have HB1 := Lib.hid hb1
    clear hd1 hb1 HN
    go_wp2_with fail
    refine HOP.out.mono ?_
    rintro e w2 (⟨_, rfl, rfl⟩ | ⟨hsz, _⟩)
    · go_wp2_with fail
      go_ret2
      exact ⟨rfl, HB1.out⟩
    · exact absurd HSZ.out hsz
  · have HN := Lib.hid (new_bad (w := w) room hr)
    clear hW hm h hr
    go_enter Tryz.func56, Tryz.ntmps56
    go_wp2_with fail
    refine HN.out.mono ?_
    rintro e w1 ⟨rfl, rfl⟩
    go_wp2_with fail
    go_ret2
    exact ⟨rfl, Below.refl _ _⟩
end
end Go.Proofs.YtidacfhdhdnidaaGreatDoor.Vlt

namespace Go.Proofs.YtidacfhdhdnidaaGreatDoor.Vlt
open Go.RowKit Heap Dsk Log
open Subj (ML)
open Rec (Rc recErr)
open Sto (StoreAt runS RecsAt Fits parts sixC recV recsV fourS all_any sums_any sumsV Copied noteR note_any fits_note row_recs equal_recs Right)

theorem fits_ok {r : Rc} (h : recErr r = 0) : Fits r := by
  have := Rec.recErr_sizes h
  exact ⟨by omega, by omega, by omega⟩

section
variable {W w w1 : World} {F : Nat → Prop} {V D G S B N : Nat} {room size : Int} {s : Vt}

theorem VAt.sorted (h : VAt W F V D G S B room size s w) : Sorted s.A := by
  obtain ⟨F1, F2, hP, _⟩ := h.ex
  exact hP.disk.right.sorted

theorem VAt.right (h : VAt W F V D G S B room size s w) : ∃ I, Right s.L s.last I := by
  obtain ⟨F1, F2, hP, _⟩ := h.ex
  exact hP.store.right

theorem VAt.fits (h : VAt W F V D G S B room size s w) : (total s.A : Int) ≤ room := by
  obtain ⟨F1, F2, hP, _⟩ := h.ex
  exact hP.disk.right.fits

theorem VAt.st (h : VAt W F V D G S B room size s w) : ∃ F2, StoreAt W F2 S B s.L s.last w := by
  obtain ⟨F1, F2, hP, _⟩ := h.ex
  exact ⟨F2, hP.store⟩

theorem all_vlt (h : VAt W F V D G S B room size s w) : Calls Tryz.prog 62 #[.pointer (some ⟨S, 0, none⟩)] w (Copied w s.L) := by
  obtain ⟨F2, hst⟩ := h.st
  exact all_any hst

theorem sums_vlt (h : VAt W F V D G S B room size s w) : Calls Tryz.prog 63 #[.pointer (some ⟨S, 0, none⟩)] w fun e w' => e = .returned (sumsV s.L s.last) ∧ Below w.heap.size w w' := by
  obtain ⟨F2, hst⟩ := h.st
  exact sums_any hst

/-- A vault somewhere of one's own; all that was done is whole on its disk. -/
def Vw (w : World) (V N B : Nat) (room size : Int) (s : Vt) (wr : World) : Prop := ∃ F D G S, VAt w F V D G S B room size s wr ∧ Whole N s

theorem Vw.below (h : Vw w V N B room size s w1) : Below w.heap.size w w1 := by
  obtain ⟨F, D, G, S, h, _⟩ := h
  exact h.below

theorem Vw.next {w2 : World} (h : Vw w V N B room size s w1) (hb : Below w1.heap.size w1 w2) : Vw w V N B room size s w2 := by
  obtain ⟨F, D, G, S, h, h2⟩ := h
  exact ⟨F, D, G, S, h.low hb, h2⟩

theorem sums_form (L : List Rc) (last : Int) : ∃ a b c d : Int, sumsV L last = .agg #[.int .i64 a, .int .i64 b, .int .i64 c, .int .i64 d] := ⟨_, _, _, _, rfl⟩

theorem low_to {w0 wa wb : World} (h : Below w0.heap.size w0 wa) (k : Below wa.heap.size wa wb) : Below w0.heap.size w0 wb := h.trans (k.mono h.size)

/-- What is told of a vault, kept aside. -/
structure Aside (w : World) (F : Nat → Prop) (V D G S N B : Nat) (room size : Int) (s : Vt) (v : Value) (bx : Nat) (a b c d : Int) (wr : World) : Prop where
  vlt : VAt w F V D G S B room size s wr
  whole : Whole N s
  vF : ∀ k, own v k → ¬ F k
  bF : ¬ F bx
  row : Row wr 33 6 v s.L.length (recsV s.L)
  box : wr.heap[bx]? = some (.cells #[.int .i64 a, .int .i64 b, .int .i64 c, .int .i64 d] 115 (0, 0))
  sums : sumsV s.L s.last = .agg #[.int .i64 a, .int .i64 b, .int .i64 c, .int .i64 d]

theorem Aside.next {v : Value} {bx : Nat} {a b c d : Int} {w2 : World} (h : Aside w F V D G S N B room size s v bx a b c d w1) (hb : Below w1.heap.size w1 w2) : Aside w F V D G S N B room size s v bx a b c d w2 :=
  ⟨h.vlt.low hb, h.whole, h.vF, h.bF, h.row.kept fun k _ hk => hb.block k hk, (hb.block bx (heap_lt h.box)).trans h.box, h.sums⟩

/-- A stop leaves it. -/
theorem Aside.crash {v : Value} {bx K : Nat} {a b c d : Int} {w2 : World} {e : Ending} (h : Aside w F V D G S N B room size s v bx a b c d w1) (hN : N ≤ 3700)
    (hc : CrashV w F V D room size K s w1 e w2) : e = .returned (.tuple #[]) ∧ ∃ F' G' S', Aside w F' V D G' S' N 60000 room size s v bx a b c d w2 := by
  obtain ⟨rfl, F', G', S', h1, h2, h3⟩ := hc
  refine ⟨rfl, F', G', S', ?_, h.whole, fun k hk e => ?_, fun e => ?_, h.row.kept fun k hk hlt => h3.block k hlt (h.vF k hk), (h3.block bx (heap_lt h.box) h.bF).trans h.box, h.sums⟩
  · rw [h.whole.crash] at h1
    exact h1.more (by have := (h.whole.told K).1; omega)
  · rcases h2 k e with e | e
    · exact h.vF k hk e
    · have := h.row.lt k hk; omega
  · rcases h2 bx e with e | e
    · exact h.bF e
    · have := heap_lt h.box; omega

set_option maxHeartbeats 8000000 in
set_option maxRecDepth 100000 in
theorem vaultSure_walk (hm : ML w) {v : Value} {l : List Rc} (hl : RecsAt w v l) (hf : ∀ r ∈ l, Fits r) (room size keep : Int) (compact : Bool) :
    Calls Tryz.prog 7 #[.int .i64 room, .int .i64 size, v, .int .i64 keep, .bool compact] w fun e w' => e = .returned (.bool true) ∧ Below w.heap.size w w' := by
  obtain ⟨n, hnL⟩ : ∃ n, l.length = n := ⟨_, rfl⟩
  have HN := Lib.hid hnL
  obtain ⟨ao, cap, rfl, ha⟩ := hl
  have HL := Lib.hid (show RecsAt w (.slice ao l.length cap) l from ⟨ao, cap, rfl, ha⟩); have HF := Lib.hid hf; have HML := Lib.hid hm
  rw [hnL] at HL ⊢
  have HNW := Lib.hid (new_vlt (W := w) (w := w) (Below.refl _ _) hm 100 100 (by omega) (by omega) (by omega))
  clear ha hf hm hnL
  go_enter Tryz.func7, Tryz.ntmps7
  go_wp2_with fail
  refine HNW.out.mono ?_
  rintro e w1 ⟨F, V, D, G, S, rfl, h1, _, _⟩
  have H1 := Lib.hid h1
  clear h1 HNW
  go_wp2_with fail
  refine (note_any 1).mono ?_
  rintro e w2 ⟨rfl, hb2⟩
  have hdo := do_any (H1.out.low hb2) (by omega) HML.out (noteR 1) (fits_note 1)
  rw [show doV 100 100 ⟨[], [], 0⟩ (noteR 1) = (v1, 0) from Prod.ext rfl ex_do] at hdo
  have HDO := Lib.hid hdo
  clear hb2 hdo H1
  unfold recV at HDO
  unfold recV
  go_wp2_with fail
  refine HDO.out.mono ?_
  rintro e w3 ⟨rfl, ⟨F3, h3, _⟩, _⟩
  have hus := used_vlt h3
  rw [ex_used] at hus
  have HUS := Lib.hid hus; have H3 := Lib.hid h3.below
  clear hus h3 HDO
  go_wp2_with fail
  refine HUS.out.mono ?_
  rintro e w' ⟨rfl, rfl⟩
  clear HUS
  go_wp2_with fail
  by_cases hok : (1 ≤ room ∧ room ≤ 65536) ∧ 1 ≤ size ∧ size ≤ 4096
  · have HNW := Lib.hid (new_vlt (W := w) H3.out HML.out room size hok.1.1 hok.1.2 hok.2)
    clear hok
    refine HNW.out.mono ?_
    rintro e w4 ⟨F, V, D, G, S, rfl, h4, _, _⟩
    by_cases h100 : 100 < n
    · have h100z : (100 : Int) < n := by omega
      have HB := Lib.hid h4.below
      clear h4 HNW H3
      go_wp2_with fail
      go_ret
      exact ⟨rfl, HB.out⟩
    · have h100z : ¬ (100 : Int) < n := by omega
      have h0 := Lib.hid (show ∃ s, Vw w V 0 (16 * 0) room size s w4 from ⟨_, F, D, G, S, h4, Whole.new⟩)
      clear h4 HNW H3
      go_wp2_with fail
      go_loopw [62] (fun i wr => ∃ k : Nat, k ≤ n ∧ i = .int .i64 k ∧ Hid (∃ s, Vw w V k (16 * k) room size s wr)) (fun i _ => n - (intOf i).toNat)
      case atStart => exact ⟨0, Nat.zero_le _, rfl, h0⟩
      case round =>
        obtain ⟨k, hk, rfl, HR⟩ := hrel
        clear h0
        by_cases hlt : k < n
        · have hltz : (k : Int) < n := by omega
          obtain ⟨s, F, D, G, S, hV, hW⟩ := HR.out
          obtain ⟨p, hp⟩ : ∃ p, l[k]? = some p := ⟨_, List.getElem?_eq_getElem (by rw [HN.out]; exact hlt)⟩
          have hlr := HL.out.below hV.below (Nat.le_refl _)
          obtain ⟨ao', cap', hv, ha⟩ := hlr
          rw [HN.out] at hv
          simp only [Value.slice.injEq, true_and] at hv
          obtain ⟨rfl, rfl⟩ := hv
          obtain ⟨g, off, rfl, hcs⟩ := ha (fun e => by rw [e] at hp; simp at hp)
          obtain ⟨m0, m1, m2, m3, m4, m5⟩ := hcs k p hp
          have hfp := HF.out p (List.mem_of_getElem? hp)
          have hrv : recV p = .agg #[.int .i64 p.kind, .int .i64 p.seq, .int .i64 p.time, .string ⟨p.subj.toArray⟩, .string ⟨p.head.toArray⟩, .string ⟨p.data.toArray⟩] := rfl
          obtain ⟨sb, hd, d, hpp⟩ := parts p
          rw [hpp.s1, hpp.h1, hpp.d1] at hrv
          rw [hpp.s1] at m3
          rw [hpp.h1] at m4
          rw [hpp.d1] at m5
          obtain ⟨wa, hwa⟩ : ∃ wa, wa = wr.alloc (.cells #[.int .i64 p.kind, .int .i64 p.seq, .int .i64 p.time, .string sb, .string hd, .string d] 33) := ⟨_, rfl⟩
          have hba : Below wr.heap.size wr wa := by rw [hwa]; exact (Below.refl _ _).alloc (Nat.le_refl _) _
          have hea : wa.heap[wr.heap.size]? = some (.cells #[.int .i64 p.kind, .int .i64 p.seq, .int .i64 p.time, .string sb, .string hd, .string d] 33 (0, 0)) := by rw [hwa]; exact heap_alloc_new wr _
          obtain ⟨bx, hbx⟩ : ∃ bx, wr.heap.size = bx := ⟨_, rfl⟩
          rw [hbx] at hea
          obtain ⟨q0, q1, q2, q3, q4, q5⟩ := sixC hea
          have hdo := do_any (hV.low hba) (by omega) HML.out p hfp
          rw [hrv] at hdo
          have HDO := Lib.hid hdo; have HBX := Lib.hid hbx; have HW := Lib.hid (hW.do_ (room := room) (size := size) (r := p) hV.sorted)
          clear hp ha hcs hfp hrv hpp hea hbx hdo hV hW hba HR
          go_upto_region 10 with fail
          rw [← hwa, HBX.out]
          clear hwa m0 m1 m2 m3 m4 m5
          go_wp2_with fail
          refine HDO.out.mono ?_
          rintro e w5 ⟨rfl, ⟨F5, h5, _⟩, _⟩
          have HX := Lib.hid (show ∃ s, Vw w V (k + 1) (16 * (k + 1)) room size s w5 from ⟨_, F5, D, G, S, h5.more (by omega), HW.out⟩)
          clear h5 HDO HW q0 q1 q2 q3 q4 q5
          go_wp2_with fail
          exact ⟨⟨k + 1, by omega, by go_num, HX⟩, by simp [intOf]; omega⟩
        · have hltz : ¬ (k : Int) < n := by omega
          obtain rfl : k = n := by omega
          obtain ⟨s, hV⟩ := HR.out
          obtain ⟨F, D, G, S, hV, hW⟩ := hV
          clear HR
          have hW := hW.mono (show k ≤ 201 by omega)
          have hV := hV.more (show 16 * k ≤ 60000 by omega)
          cases compact
          case' false =>
            have H6 := Lib.hid (And.intro hV hW)
            clear hV hW
            go_wp2_with fail
          case' true =>
            obtain ⟨I, hR⟩ := hV.right
            have HW := Lib.hid (hW.comp (room := room) (size := size) hR)
            have HCO := Lib.hid (compact_any hV HML.out)
            clear hV hW hR
            go_wp2_with fail
            refine HCO.out.mono ?_
            rintro e wr ⟨rfl, ⟨F, h6, _⟩, _⟩
            generalize (compV room size s).1 = s at *
            have H6 := Lib.hid (And.intro h6 (HW.out.mono (show max 201 201 ≤ 201 by decide)))
            clear h6 HCO HW
            go_wp2_with fail
          all_goals
            refine (store_vlt H6.out.1).mono ?_
            rintro e w' ⟨rfl, rfl⟩
            go_wp2_with fail
            refine (all_vlt H6.out.1).mono ?_
            rintro e w6 ⟨v6, rfl, hr6, hb6, ho6⟩
            have H7 := Lib.hid (H6.out.1.low hb6)
            have HR6 := Lib.hid (And.intro hr6 ho6)
            have HB6 := Lib.hid hb6
            clear hr6 hb6 ho6
            go_wp2_with fail
            refine (store_vlt H7.out).mono ?_
            rintro e w' ⟨rfl, rfl⟩
            go_wp2_with fail
            have hsu := sums_vlt H7.out
            obtain ⟨a1, a2, a3, a4, hsf⟩ := sums_form s.L s.last
            rw [hsf] at hsu
            have HSF := Lib.hid hsf
            refine hsu.mono ?_
            clear hsu hsf
            rintro e w7 ⟨rfl, hb7⟩
            have H8 := Lib.hid (H7.out.low hb7)
            have HB7 := Lib.hid hb7
            clear hb7
            obtain ⟨us, hus⟩ : ∃ us, total s.A = us := ⟨_, rfl⟩
            have HUS := Lib.hid hus
            clear hus
            go_wp2_with fail
            refine (used_vlt H8.out).mono ?_
            rintro e w' ⟨rfl, rfl⟩
            rw [HUS.out]
            obtain ⟨w8, hw8⟩ : ∃ w8, w8 = w7.alloc (.cells #[.int .i64 a1, .int .i64 a2, .int .i64 a3, .int .i64 a4] 115) := ⟨_, rfl⟩
            have h0 := Lib.hid (show ∃ F G S, Aside w F V D G S 201 60000 room size s v6 w7.heap.size a1 a2 a3 a4 w8 from by
              have hb8 : Below w7.heap.size w7 w8 := by rw [hw8]; exact (Below.refl _ _).alloc (Nat.le_refl _) _
              have hb68 := HB7.out.trans (hb8.mono HB7.out.size)
              refine ⟨F, G, S, H8.out.low hb8, H6.out.2, fun k hk e => ?_, fun e => ?_, HR6.out.1.kept fun k _ hk => hb68.block k hk, by rw [hw8]; exact heap_alloc_new w7 _, HSF.out⟩
              · have h1 := HR6.out.2 k hk
                have h2 := H6.out.1.bF k e
                omega
              · have h1 := H6.out.1.bF _ e
                have := HB6.out.size; have := HB7.out.size
                omega)
            obtain ⟨bx, hbx⟩ : ∃ bx, w7.heap.size = bx := ⟨_, rfl⟩
            rw [hbx] at h0
            have HBX := Lib.hid hbx
            clear hbx H6 H7 H8 HR6 HB6 HB7
            go_upto_region 15 with fail
            rw [← hw8, HBX.out]
            clear hw8
            go_wp2_with fail
            go_loopw [81] (fun i wr => ∃ k : Nat, k ≤ 2 ∧ i = .int .i64 k ∧ Hid (∃ F G S, Aside w F V D G S 201 60000 room size s v6 bx a1 a2 a3 a4 wr)) (fun i _ => 2 - (intOf i).toNat)
            case atStart => exact ⟨0, Nat.zero_le _, rfl, h0⟩
            case round =>
              obtain ⟨k, hk, rfl, HR⟩ := hrel
              clear h0
              by_cases hlt : k < 2
              · have hltz : (k : Int) < 2 := by omega
                obtain ⟨F, G, S, hA⟩ := HR.out
                obtain ⟨K, hK⟩ : ∃ K, keep.toNat = K := ⟨_, rfl⟩
                have HCR := Lib.hid (crash_vlt hA.vlt HML.out keep K hK (by have := (hA.whole.told K).1; omega) fun r hr => fits_ok ((hA.whole.told K).2 r hr))
                have HA := Lib.hid hA
                clear hA HR hK
                go_wp2_with fail
                refine HCR.out.mono ?_
                intro e w9 hc
                obtain ⟨rfl, F9, G9, S9, h9⟩ := HA.out.crash (by omega) hc
                have H9 := Lib.hid h9
                have HV9 := Lib.hid (show ∀ w', Below w9.heap.size w9 w' → VAt w F9 V D G9 S9 60000 room size s w' from fun w' hb => h9.vlt.low hb)
                have HR9 := Lib.hid (show ∀ w', Below w9.heap.size w9 w' → Row w' 33 6 v6 s.L.length (recsV s.L) from fun w' hb => (h9.next hb).row)
                have HB9 := Lib.hid (show ∀ w', Below w9.heap.size w9 w' → w'.cell? ⟨bx, 0, none⟩ = some (.int .i64 a1) ∧ w'.cell? ⟨bx, 1, none⟩ = some (.int .i64 a2) ∧ w'.cell? ⟨bx, 2, none⟩ = some (.int .i64 a3) ∧ w'.cell? ⟨bx, 3, none⟩ = some (.int .i64 a4) from fun w' hb => by
                  obtain ⟨c0, c1, c2, c3, _⟩ := fourS (h9.next hb).box
                  exact ⟨c0, c1, c2, c3⟩)
                have HL9 := Lib.hid (show s.L.length ≤ 100000 from by
                  obtain ⟨I, hR⟩ := h9.vlt.right
                  have := hR.few
                  omega)
                have hbd : Below w9.heap.size w9 w9.drew := (Below.refl _ _).drew
                clear hc h9 HA HCR
                go_wp2_with fail
                go_region_held3 (fun w' => w'.cell? ⟨bx, 0, none⟩ = some (.int .i64 a1) ∧ w'.cell? ⟨bx, 1, none⟩ = some (.int .i64 a2) ∧ w'.cell? ⟨bx, 2, none⟩ = some (.int .i64 a3) ∧ w'.cell? ⟨bx, 3, none⟩ = some (.int .i64 a4)) (first | (with_reducible exact HB9.out _ hbd) | (with_reducible exact HB9.out _ (Below.refl _ _)) | (with_reducible exact HB9.out _ (by assumption)) | go_keep)
                  (first
                    | (go_at_call 61; ((refine (store_vlt (HV9.out _ (by first | assumption | exact Below.refl _ _))).mono ?_); rintro e w' ⟨rfl, rfl⟩))
                    | (go_at_call 62; ((refine (all_vlt (HV9.out _ (by first | assumption | exact Below.refl _ _))).mono ?_); rintro e wA ⟨vA, rfl, hrA, hbA, hoA⟩; have hbA2 := low_to (w0 := w9) (by first | assumption | exact Below.refl _ _) hbA; clear hbA hoA))
                    | (go_at_call 42; ((refine (equal_recs (row_recs hrA) (row_recs (HR9.out _ hbA2)) HL9.out).mono ?_); rintro e wE ⟨rfl, q, rfl⟩; have hbE := below_drewN hbA2 q))
                    | (go_at_call 63; ((have hsu := sums_vlt (HV9.out _ hbE)); rw [HSF.out] at hsu; (refine hsu.mono ?_); clear hsu; rintro e wS ⟨rfl, hbS⟩; have hbS2 := low_to (w0 := w9) hbE hbS; clear hbS))
                    | (go_at_call 60; ((have hus := used_vlt (HV9.out _ hbS2)); rw [HUS.out] at hus; (refine hus.mono ?_); clear hus; rintro e w' ⟨rfl, rfl⟩)))
                clear HV9 HR9 HB9 hbd hrA hbA2 hbE
                have HX := Lib.hid (show ∃ F G S, Aside w F V D G S 201 60000 room size s v6 bx a1 a2 a3 a4 wS from ⟨F9, G9, S9, H9.out.next hbS2⟩)
                clear hbS2 H9
                go_wp2_with fail
                exact ⟨⟨k + 1, by omega, by go_num, HX⟩, by simp [intOf]; omega⟩
              · have hltz : ¬ (k : Int) < 2 := by omega
                obtain ⟨F, G, S, hA⟩ := HR.out
                have HB := Lib.hid hA.vlt.below
                clear hA HR
                go_wp2_with fail
                go_ret
                exact ⟨rfl, HB.out⟩
  · have HNB := Lib.hid (new_vlt_bad (W := w) H3.out HML.out room size hok)
    clear hok
    refine HNB.out.mono ?_
    rintro e w4 ⟨rfl, hb4⟩
    have HB := Lib.hid (H3.out.trans (hb4.mono H3.out.size))
    clear hb4 HNB H3
    go_wp2_with fail
    go_ret
    exact ⟨rfl, HB.out⟩
end
end Go.Proofs.YtidacfhdhdnidaaGreatDoor.Vlt

namespace Go.Proofs.YtidacfhdhdnidaaGreatDoor
open Go.RowKit

section
open Go.WideShapes Go.ChangeShapes
variable {H : Type} {enc : TypeId × Value → H} {P : Program}

theorem trodAll_stays (hl : laidOutB P = true) {W W' : World} (hb : Below W.heap.size W W') {sp : Nat → Bool} :
    ∀ (ts : List TypeId) (vs : List Value) (ds : List (DataW H)) (ps : List MemPlace), (∀ t ∈ ts, P.readableRec t = true ∧ t < P.types.size) →
      DataW.TrodAll enc P W 0 (fun _ => true) true ts vs ds ps → (∀ x ∈ ps, x.block < W.heap.size) → (∀ x ∈ ps, sp x.block = true) →
      DataW.TrodAll enc P W' 0 sp true ts vs ds ps
  | [], [], [], _, _, h, _, _ => h
  | t :: ts, v :: vs, d :: ds, ps, hr, h, hlt, hsp => by
    obtain ⟨p, q, h1, h2, rfl⟩ := h
    obtain ⟨r1, r2⟩ := hr t (by simp)
    refine ⟨p, q, WideElems.Trod_stays hl r1 r2 h1 (fun x hx => hb.same (hlt x (by simp [hx]))) (fun x hx => hsp x (by simp [hx])), ?_, rfl⟩
    exact trodAll_stays hl hb ts vs ds q (fun t ht => hr t (by simp [ht])) h2 (fun x hx => hlt x (by simp [hx])) (fun x hx => hsp x (by simp [hx]))
  | [], [], _ :: _, _, _, h, _, _ => by cases h
  | [], _ :: _, _, _, _, h, _, _ => by cases h
  | _ :: _, [], _, _, _, h, _, _ => by cases h
  | _ :: _, _ :: _, [], _, _, h, _, _ => by cases h

/-- The law's post: it returned true, its arguments read as they did. -/
theorem post_true {f : Func} {s : ChangeSpec} {apart fresh handsOn again : Bool} {W W' : World} {args : Array Value} {ds gs : List (DataW H)} {before : List MemPlace} {tb : TypeId}
    (hl : laidOutB P = true) (hr : ∀ t ∈ f.params.toList, P.readableRec t = true ∧ t < P.types.size)
    (hres : f.resultTypes = #[tb]) (htb : P.underlying tb = some .bool) (hvars : s.vars = [])
    (hW : DataW.Whole enc P f.params.toList s.vars apart W args.toList ds gs before)
    (hs1 : (s.fn H (ds ++ gs)).results = [.lit (.bool true)]) (hs2 : (s.fn H (ds ++ gs)).args = ds) (hs3 : (s.fn H (ds ++ gs)).vars = [])
    (hb : Below W.heap.size W W') : s.post enc P f apart fresh handsOn again W args (.bool true) W' := by
  have hW0 := hW
  obtain ⟨p, q, hA, hV, rfl, hz, hn⟩ := hW
  rw [hvars] at hV
  obtain ⟨rfl, rfl⟩ := trodVars_none hV
  have hlt : ∀ x ∈ p, x.block < W.heap.size := fun x hx => hW0.lt x (by simp [hx])
  refine post_of_below (pa := p) (pv := []) hW0 (fun _ _ _ => ?_) (fun sp hsp => ?_) (fun _ _ => ?_) rfl hb ?_
  · rw [hs1, hres]
    exact trodAll_cons_mk (shut_bool htb _) trodAll_mk0
  · rw [hs2]
    exact trodAll_stays hl hb _ _ _ _ hr hA hlt (fun x hx => hsp x (by simp [hx]))
  · rw [hs3, hvars]; rfl
  · intro j t r h1 h2
    rw [hres] at h1 h2
    have hj : j = 0 := by
      have := (Array.getElem?_eq_some_iff.1 h1).1
      simpa using this
    subst hj
    simp at h1
    subst h1
    simp [Value.resultList] at h2
    subst h2
    exact okWide_bool_mk htb _
end

/-! ### What a reading tells -/
section
open Go.WideShapes Go.ChangeShapes
variable {H : Type} {enc : TypeId × Value → H} {P : Program} {w : World} {base : Nat} {spare : Nat → Bool} {held : Bool}

theorem rd_int {t : TypeId} {k : IntKind} {fuel : Nat} {cs : List Value} {y : DataW H × List MemPlace} (ht : P.underlying t = some (.int k)) (h : DataW.trod enc P w base spare held fuel t cs = some y) :
    ∃ n, cs = [.int k n] ∧ (Lit.int k n).wf = true := by
  cases fuel with
  | zero => simp [DataW.trod] at h
  | succ n =>
    unfold DataW.trod at h
    rw [ht] at h
    split at h <;> simp_all

theorem rd_string {t : TypeId} {fuel : Nat} {cs : List Value} {y : DataW H × List MemPlace} (ht : P.underlying t = some .string) (h : DataW.trod enc P w base spare held fuel t cs = some y) :
    ∃ s, cs = [.string s] ∧ s.size ≤ maxLen ∧ y.1 = .lit (.string s.data.toList) := by
  cases fuel with
  | zero => simp [DataW.trod] at h
  | succ n =>
    unfold DataW.trod at h
    rw [ht] at h
    split at h <;> simp_all
    obtain ⟨_, rfl⟩ := h
    simp

theorem rd_bool {t : TypeId} {fuel : Nat} {cs : List Value} {y : DataW H × List MemPlace} (ht : P.underlying t = some .bool) (h : DataW.trod enc P w base spare held fuel t cs = some y) :
    ∃ b, cs = [.bool b] := by
  cases fuel with
  | zero => simp [DataW.trod] at h
  | succ n =>
    unfold DataW.trod at h
    rw [ht] at h
    split at h <;> simp_all

/-- A struct, field by field. -/
theorem rd_struct {t : TypeId} {fs : Array Field} {fuel : Nat} {cs : List Value} {y : DataW H × List MemPlace} (ht : P.underlying t = some (.struct fs)) (h : DataW.trod enc P w base spare held fuel t cs = some y) :
    ∃ n, cs.length = P.cellsOf t ∧ ∃ xs : List (DataW H × List MemPlace), y.1 = .agg (xs.map (·.1)) ∧ fs.toList.mapM (fun f => DataW.trod enc P w base spare held n f.type ((cs.drop f.offset).take (P.cellsOf f.type))) = some xs := by
  cases fuel with
  | zero => simp [DataW.trod] at h
  | succ n =>
    unfold DataW.trod at h
    rw [ht] at h
    split at h <;> simp_all
    obtain ⟨xs, h1, h2⟩ := h.2
    exact ⟨n, xs, by rw [← h2], h1⟩

theorem mapM_get {α β : Type} {f : α → Option β} : ∀ {l : List α} {ys : List β}, l.mapM f = some ys → ys.length = l.length ∧ ∀ (i : Nat) (a : α), l[i]? = some a → ∃ y, ys[i]? = some y ∧ f a = some y
  | [], ys, h => by
    simp at h; subst h; simp
  | a :: l, ys, h => by
    rw [List.mapM_cons] at h
    cases ha : f a with
    | none => rw [ha] at h; cases h
    | some b =>
      rw [ha] at h
      cases hl : l.mapM f with
      | none => rw [hl] at h; cases h
      | some bs =>
        rw [hl] at h
        have e : b :: bs = ys := by simpa using h
        subst e
        obtain ⟨h1, h2⟩ := mapM_get hl
        refine ⟨by simp [h1], fun i x hx => ?_⟩
        cases i with
        | zero => simp at hx; subst hx; exact ⟨b, rfl, ha⟩
        | succ i => exact h2 i x (by simpa using hx)

/-- A slice: nil, or its elements up to the capacity. -/
theorem rd_slice {t e : TypeId} {fuel : Nat} {cs : List Value} {y : DataW H × List MemPlace} (ht : P.underlying t = some (.slice e)) (h : DataW.trod enc P w base (fun _ => true) held fuel t cs = some y) :
    (cs = [.slice none 0 0] ∧ y.1 = .nil) ∨ ∃ a len cap n, cs = [.slice (some a) len cap] ∧ len ≤ cap ∧ cap ≤ maxLen ∧ ∃ elems rest : List (DataW H × List MemPlace), y.1 = .slice (elems.map (·.1)) (rest.map (·.1)) ∧ elems.length = len ∧ rest.length = cap - len ∧
      (∀ i, i < len → ∃ z, elems[i]? = some z ∧ (w.cells? base (a.add (i * P.cellsOf e)) (P.cellsOf e)).bind (DataW.trod enc P w base (fun _ => true) held n e) = some z) ∧
      (∀ i, i < cap - len → ∃ z, rest[i]? = some z ∧ (w.cells? base (a.add ((len + i) * P.cellsOf e)) (P.cellsOf e)).bind (DataW.trod enc P w base (fun _ => true) held n e) = some z) := by
  cases fuel with
  | zero => simp [DataW.trod] at h
  | succ n =>
    unfold DataW.trod at h
    rw [ht] at h
    split at h <;> first | (exfalso; simp_all; done) | simp_all
    · rw [← h]
    · obtain ⟨⟨hb, hlc, hcm⟩, hh⟩ := h
      rw [Option.bind_eq_some_iff] at hh
      obtain ⟨elems, he, hr'⟩ := hh
      rw [Option.map_eq_some_iff] at hr'
      obtain ⟨rest, hr, hy⟩ := hr'
      obtain ⟨l1, g1⟩ := mapM_get he
      obtain ⟨l2, g2⟩ := mapM_get hr
      refine ⟨_, _, _, ⟨rfl, rfl, rfl⟩, hlc, hcm, n, elems, rest, by rw [← hy], by simpa using l1, by simpa using l2, fun i hi => ?_, fun i hi => ?_⟩
      · obtain ⟨y, h1, h2⟩ := g1 i i (by simp [hi])
        exact ⟨y.1, y.2, h1, h2⟩
      · obtain ⟨y, h1, h2⟩ := g2 i i (by simp [hi])
        exact ⟨y.1, y.2, h1, h2⟩
end

end Go.Proofs.YtidacfhdhdnidaaGreatDoor
