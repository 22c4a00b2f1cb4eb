/- Parts of the proof, joined: (*Vault).Compact, walked.; vault.New, walked.; The law VaultSure, walked: it returns true. -/
import Derived.Test.YtidacfhdhdnidaaGreatDoorVaultPlaysUptoM37
namespace Go.Proofs.YtidacfhdhdnidaaGreatDoor.Vlt
open Go.RowKit Heap Dsk Log
open Subj (ML)
open Rec (Rc recErr recA rcOf codedL ml_alloc)
open Sto (StoreAt NextSt tryD after runS RecsAt Fits parts sixC recV recsV fourS all_any sums_any sumsV Right fld3 row_recs recsV_append news_rec info_rec)

theorem fits_good {L : List Rc} {last : Int} {I : Idx.Ents} (h : Right L last I) : ∀ r ∈ L, Fits r := fun r hr => by
  have := Rec.recErr_sizes (h.good r hr).1
  exact ⟨by omega, by omega, by omega⟩

theorem fits_mark (n : Int) : Fits (markR n) := ⟨by show 0 ≤ 1048576; decide, by show 0 ≤ 1048576; decide, by show 0 ≤ 1048576; decide⟩

section
variable {W w w1 : World} {F : Nat → Prop} {V D G S B : Nat} {room size : Int} {s : Vt}

set_option maxHeartbeats 4000000 in
set_option maxRecDepth 100000 in
theorem compact_any (h : VAt W F V D G S B room size s w) (hm : ML W) :
    Calls Tryz.prog 57 #[.pointer (some ⟨V, 0, none⟩)] w (VPost W F V D G S B room size w (compV room size s)) := by
  obtain ⟨F1, F2, hP, hF⟩ := h.ex
  obtain ⟨c0, c1, c2, c3, cf⟩ := fourS hP.cells
  obtain ⟨I, hR⟩ := hP.store.right
  have HA := Lib.hid (all_any hP.store)
  obtain ⟨L, hL⟩ : ∃ L, s.L = L := ⟨_, rfl⟩
  obtain ⟨last, hlast⟩ : ∃ last, s.last = last := ⟨_, rfl⟩
  have hLL : allV s = L ++ if 0 < last then [markR last] else [] := by unfold allV; rw [hL, hlast]
  have hcv : compV room size s = (⟨(rewD room size s.A (allV s)).1, s.L, s.last⟩, (rewD room size s.A (allV s)).2) := rfl
  obtain ⟨mk, hmk⟩ : ∃ mk, (if 0 < last then [markR last] else []) = mk := ⟨_, rfl⟩
  rw [hcv, hLL, hmk]
  have HMK := Lib.hid hmk
  have hfits := fits_good hR
  have hfew := hR.few
  rw [hL] at HA hfits hfew
  obtain ⟨n, hn⟩ : ∃ n, L.length = n := ⟨_, rfl⟩
  have HH := Lib.hid h; have HL := Lib.hid hL; have HLA := Lib.hid hlast; have HN := Lib.hid hn; have HFT := Lib.hid hfits; have HML := Lib.hid hm
  rw [hn] at hfew
  obtain ⟨i0, hi, hz0, hz1, hz2⟩ := info_parts info_rec
  have hf3 := fld3
  clear h hP hF hR hL hlast hLL hcv hfits hn hm hmk
  go_enter Tryz.func57, Tryz.ntmps57
  go_wp2_with fail
  refine HA.out.mono ?_
  rintro e w1 ⟨v1, rfl, hr1, hb1, ho1⟩
  have h1 := HH.out.low hb1
  obtain ⟨F1, F2, hP, hF⟩ := h1.ex
  have hsu := sums_any hP.store
  unfold sumsV at hsu
  rw [HL.out, HLA.out, HN.out] at hsu
  rw [HN.out] at hr1
  obtain ⟨a1, n1, rfl⟩ := hr1.slice
  clear c0 c1 c2 c3 cf
  obtain ⟨c0, c1, c2, c3, cf⟩ := fourS hP.cells
  have HSU := Lib.hid hsu; have HB1 := Lib.hid hb1; have HR1 := Lib.hid hr1; have HO1 := Lib.hid ho1
  clear hsu hb1 hr1 ho1 h1 hP hF HA
  generalize (Sto.bytesR L : Nat) = z1 at HSU
  generalize (L.head?.map (·.seq)).getD 0 = z2 at HSU
  go_wp2_with fail
  refine HSU.out.mono ?_
  rintro e w2 ⟨rfl, hb2⟩
  have hb02 := HB1.out.trans (hb2.mono HB1.out.size)
  have h2 := HH.out.low hb02
  obtain ⟨F1, F2, hP, hF⟩ := h2.ex
  have hr2 := HR1.out.kept (w' := w2) fun k _ hk => hb2.block k hk
  clear c0 c1 c2 c3 cf
  obtain ⟨c0, c1, c2, c3, cf⟩ := fourS hP.cells
  have HB2 := Lib.hid hb02; have HR2 := Lib.hid hr2
  have hw12 : w1.heap.size ≤ w2.heap.size := hb2.size
  clear hb2 hb02 hr2 h2 hP hF HSU HR1
  by_cases hl : 0 < last
  · obtain rfl : [markR last] = mk := by have := HMK.out; rw [if_pos hl] at this; exact this
    clear HMK
    go_wp2_with (at_builtin; refine Heap.wpList_append_row _ rfl (.tmp 18) (.tmp 21) 25 rfl 33 i0 _ 6 72 Tryz.underlying25 hi hz0 hz1 hz2 rfl (by decide) _ n _ rfl (HR2.out.kept (fun k _ hk => Below.heap_alloc w2 _ _ hk)) ⟨w2.heap.size, 0, none⟩ 1 1 [.int .i64 4, .int .i64 last, .int .i64 0, .string ⟨#[]⟩, .string ⟨#[]⟩, .string ⟨#[]⟩] rfl rfl (news_rec w2 _ _ _ _ _ _ _) (by simp [Value.oneCell']) (by unfold maxLen; omega) (by omega) ?_)
    intro v3 w3 r3 t3 o3
    have hal : Below w2.heap.size w2 (w2.alloc (.cells #[.int .i64 4, .int .i64 last, .int .i64 0, .string ⟨#[]⟩, .string ⟨#[]⟩, .string ⟨#[]⟩] 33)) := (Below.refl _ _).alloc (Nat.le_refl _) _
    have hb3 : Below w.heap.size w w3 := (HB2.out.trans (hal.mono HB2.out.size)).trans (t3.below (by have := HB2.out.size; have := hal.size; omega) fun k hk => HO1.out k hk)
    have h3 := HH.out.low hb3
    obtain ⟨F1, F2, hP, hF⟩ := h3.ex
    have hrs : Row w3 33 6 v3 (L ++ [markR last]).length (recsV (L ++ [markR last])) := by
      rw [List.length_append, List.length_singleton, HN.out, recsV_append]
      exact r3
    have hrw := rew_log (row_recs hrs) (by rw [List.length_append, List.length_singleton, HN.out]; omega) (fun r hr => by
      rcases List.mem_append.1 hr with hr | hr
      · exact HFT.out r hr
      · simp at hr; subst hr; exact fits_mark last) hP.disk HML.out hP.log hP.g1 hP.sz
    clear c0 c1 c2 c3 cf
    obtain ⟨c0, c1, c2, c3, cf⟩ := fourS hP.cells
    have HRW := Lib.hid hrw; have H3 := Lib.hid (And.intro h3 (And.intro hP hF)); have HB3 := Lib.hid hb3
    obtain ⟨a3, n3, rfl⟩ := r3.slice
    clear r3 t3 o3 hal hb3 h3 hP hF hrs hrw HR2
    go_wp2_with fail
    refine HRW.out.mono ?_
    rintro e w4 ⟨rfl, hd4, ht4⟩
    obtain ⟨h3, hP, hF⟩ := H3.out
    have HF := Lib.hid (show VPost W F V D G S B room size w (⟨(rewD room size s.A (L ++ [markR last])).1, s.L, s.last⟩, (rewD room size s.A (L ++ [markR last])).2) (.returned (.int .i64 ((rewD room size s.A (L ++ [markR last])).2 : Nat))) w4 from ⟨rfl, NextVA.trans (F' := F) (fun k hk => .inl hk) (Heap.Touch.ofBelow HB3.out) (h3.dsk hP hF hd4 ht4)⟩)
    clear h3 hP hF hd4 ht4 HRW H3 HB3
    go_wp2_with fail
    go_ret
    exact HF.out
  · obtain rfl : [] = mk := by have := HMK.out; rw [if_neg hl] at this; exact this
    clear HMK
    have h3 := HH.out.low HB2.out
    obtain ⟨F1, F2, hP, hF⟩ := h3.ex
    have hrs : Row w2 33 6 (.slice a1 n n1) L.length (recsV L) := by
      rw [HN.out]
      exact HR2.out
    have hrw := rew_log (row_recs hrs) (by rw [HN.out]; omega) HFT.out hP.disk HML.out hP.log hP.g1 hP.sz
    have HRW := Lib.hid hrw; have H3 := Lib.hid (And.intro h3 (And.intro hP hF))
    clear h3 hP hF hrs hrw HR2
    go_wp2_with fail
    refine HRW.out.mono ?_
    rintro e w4 ⟨rfl, hd4, ht4⟩
    obtain ⟨h3, hP, hF⟩ := H3.out
    have HF := Lib.hid (show VPost W F V D G S B room size w (⟨(rewD room size s.A (L ++ [])).1, s.L, s.last⟩, (rewD room size s.A (L ++ [])).2) (.returned (.int .i64 ((rewD room size s.A L).2 : Nat))) w4 from by rw [List.append_nil]; exact ⟨rfl, NextVA.trans (F' := F) (fun k hk => .inl hk) (Heap.Touch.ofBelow HB2.out) (h3.dsk hP hF hd4 ht4)⟩)
    clear h3 hP hF hd4 ht4 HRW H3
    go_wp2_with fail
    go_ret
    exact HF.out
end
end Go.Proofs.YtidacfhdhdnidaaGreatDoor.Vlt

namespace Go.Proofs.YtidacfhdhdnidaaGreatDoor.Vlt
open Go.RowKit Heap Dsk Log
open Subj (ML)
open Rec (Rc)
open Sto (StoreAt new_store)

section
variable {W w : World}

/-- A vault of one's own. -/
def MadeV (W : World) (room size : Int) (w : World) (e : Ending) (w' : World) : Prop :=
  ∃ F V D G S, e = .returned (.tuple #[.pointer (some ⟨V, 0, none⟩), .int .i64 0]) ∧ VAt W F V D G S 0 room size ⟨[], [], 0⟩ w' ∧ (∀ k, F k → w.heap.size ≤ k) ∧ Below w.heap.size w w'

set_option maxHeartbeats 4000000 in
set_option maxRecDepth 100000 in
theorem new_vlt (hW : Below W.heap.size W w) (hm : ML W) (room size : Int) (h1 : 1 ≤ room) (h2 : room ≤ 65536) (h3 : 1 ≤ size ∧ size ≤ 4096) :
    Calls Tryz.prog 56 #[.int .i64 room, .int .i64 size] w (MadeV W room size w) := by
  have HN := Lib.hid (new_good hW room h1 h2)
  have HSZ := Lib.hid h3; have HML := Lib.hid hm; have HW := Lib.hid hW
  obtain ⟨D, hD⟩ : ∃ D, w.heap.size + 1 = D := ⟨_, rfl⟩
  rw [hD] at HN
  clear hW hm h1 h2 h3 hD
  go_enter Tryz.func56, Tryz.ntmps56
  go_wp2_with fail
  refine HN.out.mono ?_
  rintro e w1 ⟨rfl, hd1, hb1⟩
  have HOP := Lib.hid (open_any hd1.shrink HML.out size)
  have HB1 := Lib.hid hb1
  clear hd1 hb1 HN
  go_wp2_with fail
  refine HOP.out.mono ?_
  rintro e w2 (⟨hsz, _, _⟩ | ⟨_, G, v, rfl, hd2, hg2, hgl, hr2, ho2, ht2⟩)
  · exact absurd HSZ.out (by omega)
  have hnl : openD [] = ([], []) := rfl
  rw [hnl] at hd2 hr2
  obtain ⟨a2, n2, rfl⟩ := hr2.slice
  have hb2 : Below w.heap.size w w2 := HB1.out.trans (ht2.below HB1.out.size fun k hk => hk.1)
  have HD2 := Lib.hid hd2; have HG2 := Lib.hid hg2; have HB2 := Lib.hid hb2
  have HGL := Lib.hid (show w1.heap.size ≤ G ∧ G < w2.heap.size from ⟨hgl, heap_lt (show w2.heap[G]? = _ from hg2)⟩)
  have HS1 := Lib.hid ht2.size
  have HST := Lib.hid (new_store (W := W) (w := w2) hd2.below)
  obtain ⟨S, hS⟩ : ∃ S, w2.heap.size + 1 = S := ⟨_, rfl⟩
  rw [hS] at HST
  have HSS := Lib.hid hS
  clear hd2 hg2 hb2 hgl hr2 ho2 ht2 hnl hS HOP
  go_wp2_with fail
  refine HST.out.mono ?_
  rintro e w3 ⟨rfl, hs3, hb3⟩
  obtain ⟨w4, hw4⟩ : ∃ w4, w4 = w3.alloc (.cells #[.pointer (some ⟨D, 0, none⟩), .pointer (some ⟨G, 0, none⟩), .pointer (some ⟨S, 0, none⟩), .int .i64 size] 190) := ⟨_, rfl⟩
  have hb4 : Below w3.heap.size w3 w4 := by rw [hw4]; exact (Below.refl _ _).alloc (Nat.le_refl _) _
  have he4 : w4.heap[w3.heap.size]? = some (.cells #[.pointer (some ⟨D, 0, none⟩), .pointer (some ⟨G, 0, none⟩), .pointer (some ⟨S, 0, none⟩), .int .i64 size] 190 (0, 0)) := by rw [hw4]; exact heap_alloc_new w3 _
  have hb24 := hb3.trans (hb4.mono hb3.size)
  have HF := Lib.hid (show MadeV W room size w (.returned (.tuple #[.pointer (some ⟨w3.heap.size, 0, none⟩), .int .i64 0])) w4 from by
    have z1 := HB1.out.size; have z2 := HS1.out; have z3 := hb3.size; have z4 := hb4.size; have z5 := HGL.out; have z6 := HW.out.size; have z7 := heap_lt he4
    refine ⟨fun k => w.heap.size ≤ k ∧ k < w4.heap.size, w3.heap.size, D, G, S, rfl, ⟨⟨fun k => w.heap.size ≤ k ∧ k < w1.heap.size, fun k => w2.heap.size ≤ k ∧ k < w2.heap.size + 2, ⟨he4, DiskAt.low HD2.out hb24, HG2.out.below hb24, hs3.next hb4, fun k hk hk2 => by omega, fun k hk => by omega, fun e => by omega, fun e => by omega, fun e => by omega, fun e => ?_, by omega, by omega, HSZ.out⟩, fun k hk => ?_⟩, fun k hk => by omega, fun k hk => hk.2⟩, fun k hk => hk.1, HB2.out.trans (hb24.mono HB2.out.size)⟩
    · have := hs3.bF (w2.heap.size + 1) ⟨by omega, by omega⟩
      omega
    · have := hs3.bF (w2.heap.size + 1) ⟨by omega, by omega⟩
      rcases hk with hk | hk | rfl | rfl <;> omega)
  clear hs3 hb3 hb4 he4 hb24
  go_wp2_with fail
  rw [← hw4]
  go_ret2
  exact HF.out

set_option maxRecDepth 100000 in
theorem new_vlt_bad (hW : Below W.heap.size W w) (hm : ML W) (room size : Int) (h : ¬ ((1 ≤ room ∧ room ≤ 65536) ∧ 1 ≤ size ∧ size ≤ 4096)) :
    Calls Tryz.prog 56 #[.int .i64 room, .int .i64 size] w fun e w' => e = .returned (.tuple #[.pointer none, .int .i64 1]) ∧ Below w.heap.size w w' := by
  by_cases hr : 1 ≤ room ∧ room ≤ 65536
  · have hs : size < 1 ∨ 4096 < size := by
      rcases (show (1 ≤ size ∧ size ≤ 4096) ∨ (size < 1 ∨ 4096 < size) from by omega) with e | e
      · exact absurd ⟨hr, e⟩ h
      · exact e
    have HN := Lib.hid (new_good hW room hr.1 hr.2)
    have HSZ := Lib.hid hs; have HML := Lib.hid hm
    clear hW hm h hr hs
    go_enter Tryz.func56, Tryz.ntmps56
    go_wp2_with fail
    refine HN.out.mono ?_
    rintro e w1 ⟨rfl, hd1, hb1⟩
    have HOP := Lib.hid (open_any hd1.shrink HML.out size)
    have HB1 := Lib.hid hb1
    clear hd1 hb1 HN
    go_wp2_with fail
    refine HOP.out.mono ?_
    rintro e w2 (⟨_, rfl, rfl⟩ | ⟨hsz, _⟩)
    · go_wp2_with fail
      go_ret2
      exact ⟨rfl, HB1.out⟩
    · exact absurd HSZ.out hsz
  · have HN := Lib.hid (new_bad (w := w) room hr)
    clear hW hm h hr
    go_enter Tryz.func56, Tryz.ntmps56
    go_wp2_with fail
    refine HN.out.mono ?_
    rintro e w1 ⟨rfl, rfl⟩
    go_wp2_with fail
    go_ret2
    exact ⟨rfl, Below.refl _ _⟩
end
end Go.Proofs.YtidacfhdhdnidaaGreatDoor.Vlt

namespace Go.Proofs.YtidacfhdhdnidaaGreatDoor.Vlt
open Go.RowKit Heap Dsk Log
open Subj (ML)
open Rec (Rc recErr)
open Sto (StoreAt runS RecsAt Fits parts sixC recV recsV fourS all_any sums_any sumsV Copied noteR row_recs equal_recs Right)

theorem fits_ok {r : Rc} (h : recErr r = 0) : Fits r := by
  have := Rec.recErr_sizes h
  exact ⟨by omega, by omega, by omega⟩

section
variable {W w w1 : World} {F : Nat → Prop} {V D G S B N : Nat} {room size : Int} {s : Vt}

theorem VAt.sorted (h : VAt W F V D G S B room size s w) : Sorted s.A := by
  obtain ⟨F1, F2, hP, _⟩ := h.ex
  exact hP.disk.right.sorted

theorem VAt.right (h : VAt W F V D G S B room size s w) : ∃ I, Right s.L s.last I := by
  obtain ⟨F1, F2, hP, _⟩ := h.ex
  exact hP.store.right

theorem VAt.fits (h : VAt W F V D G S B room size s w) : (total s.A : Int) ≤ room := by
  obtain ⟨F1, F2, hP, _⟩ := h.ex
  exact hP.disk.right.fits

theorem VAt.st (h : VAt W F V D G S B room size s w) : ∃ F2, StoreAt W F2 S B s.L s.last w := by
  obtain ⟨F1, F2, hP, _⟩ := h.ex
  exact ⟨F2, hP.store⟩

/-- A vault somewhere of one's own; all that was done is whole on its disk. -/
def Vw (w : World) (V N B : Nat) (room size : Int) (s : Vt) (wr : World) : Prop := ∃ F D G S, VAt w F V D G S B room size s wr ∧ Whole N s

theorem Vw.below (h : Vw w V N B room size s w1) : Below w.heap.size w w1 := by
  obtain ⟨F, D, G, S, h, _⟩ := h
  exact h.below

theorem Vw.next {w2 : World} (h : Vw w V N B room size s w1) (hb : Below w1.heap.size w1 w2) : Vw w V N B room size s w2 := by
  obtain ⟨F, D, G, S, h, h2⟩ := h
  exact ⟨F, D, G, S, h.low hb, h2⟩

theorem low_to {w0 wa wb : World} (h : Below w0.heap.size w0 wa) (k : Below wa.heap.size wa wb) : Below w0.heap.size w0 wb := h.trans (k.mono h.size)

/-- What is told of a vault, kept aside. -/
structure Aside (w : World) (F : Nat → Prop) (V D G S N B : Nat) (room size : Int) (s : Vt) (v : Value) (bx : Nat) (a b c d : Int) (wr : World) : Prop where
  vlt : VAt w F V D G S B room size s wr
  whole : Whole N s
  vF : ∀ k, own v k → ¬ F k
  bF : ¬ F bx
  row : Row wr 33 6 v s.L.length (recsV s.L)
  box : wr.heap[bx]? = some (.cells #[.int .i64 a, .int .i64 b, .int .i64 c, .int .i64 d] 115 (0, 0))
  sums : sumsV s.L s.last = .agg #[.int .i64 a, .int .i64 b, .int .i64 c, .int .i64 d]

theorem Aside.next {v : Value} {bx : Nat} {a b c d : Int} {w2 : World} (h : Aside w F V D G S N B room size s v bx a b c d w1) (hb : Below w1.heap.size w1 w2) : Aside w F V D G S N B room size s v bx a b c d w2 :=
  ⟨h.vlt.low hb, h.whole, h.vF, h.bF, h.row.kept fun k _ hk => hb.block k hk, (hb.block bx (heap_lt h.box)).trans h.box, h.sums⟩

/-- A stop leaves it. -/
theorem Aside.crash {v : Value} {bx K : Nat} {a b c d : Int} {w2 : World} {e : Ending} (h : Aside w F V D G S N B room size s v bx a b c d w1) (hN : N ≤ 3700)
    (hc : CrashV w F V D room size K s w1 e w2) : e = .returned (.tuple #[]) ∧ ∃ F' G' S', Aside w F' V D G' S' N 60000 room size s v bx a b c d w2 := by
  obtain ⟨rfl, F', G', S', h1, h2, h3⟩ := hc
  refine ⟨rfl, F', G', S', ?_, h.whole, fun k hk e => ?_, fun e => ?_, h.row.kept fun k hk hlt => h3.block k hlt (h.vF k hk), (h3.block bx (heap_lt h.box) h.bF).trans h.box, h.sums⟩
  · rw [h.whole.crash] at h1
    exact h1.more (by have := (h.whole.told K).1; omega)
  · rcases h2 k e with e | e
    · exact h.vF k hk e
    · have := h.row.lt k hk; omega
  · rcases h2 bx e with e | e
    · exact h.bF e
    · have := heap_lt h.box; omega

end
end Go.Proofs.YtidacfhdhdnidaaGreatDoor.Vlt
