/- Parts of the proof, joined: (*Vault).Do, Used, Store, walked.; The vault laws' examples.; (*Vault).Crash, walked.; (*Vault).Compact, walked.; vault.New, walked.; Two facts that the log's and the vault's laws share.; The law VaultSure, walked: it returns true.; Consumers' plans in plain Lean: what is wrong with one. -/
import Derived.Test.YtbgchhgdlceceaaGreatDoorStrmBaseM25
namespace Go.Proofs.YtbgchhgdlceceaaGreatDoor.Vlt
open Go.RowKit Heap Dsk Log
open Subj (ML)
open Rec (Rc recErr recA rcOf codedL ml_alloc)
open Sto (StoreAt NextSt tryD after runS RecsAt Fits parts sixC recV recsV fourS try_st apply_any)

section
variable {W w w1 : World} {F : Nat → Prop} {V D G S B : Nat} {room size : Int} {s : Vt}

/-- What a call leaves: an error's number, the vault turned. -/
def VPost (W : World) (F : Nat → Prop) (V D G S B : Nat) (room size : Int) (w : World) (o : Vt × Nat) (e : Ending) (w' : World) : Prop :=
  e = .returned (.int .i64 (o.2 : Nat)) ∧ NextVA W F V D G S B room size w o.1 w'

theorem drew_block {w x : World} {k : Nat} {o : Option Obj} (hx : x = w.drew) (h : w.heap[k]? = o) : x.heap[k]? = o := by rw [hx]; exact h

theorem cellsV (h : VAt W F V D G S B room size s w) : w.heap[V]? = some (.cells #[.pointer (some ⟨D, 0, none⟩), .pointer (some ⟨G, 0, none⟩), .pointer (some ⟨S, 0, none⟩), .int .i64 size] 250 (0, 0)) := by
  obtain ⟨F1, F2, hP, _⟩ := h.ex
  exact hP.cells

set_option maxHeartbeats 4000000 in
set_option maxRecDepth 100000 in
theorem do_any (h : VAt W F V D G S B room size s w) (hB : B ≤ 60000) (hm : ML W) (r : Rc) (hf : Fits r) :
    Calls Tryz.prog 124 #[.pointer (some ⟨V, 0, none⟩), recV r] w (VPost W F V D G S (B + 16) room size w (doV room size s r)) := by
  obtain ⟨sb, hd, d, hp⟩ := parts r
  have hrv : recV r = .agg #[.int .i64 r.kind, .int .i64 r.seq, .int .i64 r.time, .string sb, .string hd, .string d] := by rw [← hp.s1, ← hp.h1, ← hp.d1]; rfl
  have hrc := hp.rc
  have hss : sb.size ≤ 1048576 ∧ hd.size ≤ 1048576 ∧ d.size ≤ 1048576 := by rw [hp.s3, hp.h3, hp.d3]; exact ⟨hf.s, hf.h, hf.d⟩
  obtain ⟨w1, hw1⟩ : ∃ w1, w1 = w.alloc (.cells #[.int .i64 r.kind, .int .i64 r.seq, .int .i64 r.time, .string sb, .string hd, .string d] 33) := ⟨_, rfl⟩
  have hb1 : Below w.heap.size w w1 := by rw [hw1]; exact (Below.refl _ _).alloc (Nat.le_refl _) _
  have he1 : w1.heap[w.heap.size]? = some (.cells #[.int .i64 r.kind, .int .i64 r.seq, .int .i64 r.time, .string sb, .string hd, .string d] 33 (0, 0)) := by rw [hw1]; exact heap_alloc_new w _
  obtain ⟨bx, hbx⟩ : ∃ bx, w.heap.size = bx := ⟨_, rfl⟩
  have hnb : ¬ F bx := fun e => by have := h.bF bx e; omega
  rw [hbx] at he1
  obtain ⟨c0, c1, c2, c3, cf⟩ := fourS (cellsV (h.low hb1))
  obtain ⟨q0, q1, q2, q3, q4, q5⟩ := sixC he1
  obtain ⟨x1, hx1⟩ : ∃ x1, x1 = w1.drew := ⟨_, rfl⟩
  have hb1 : Below w.heap.size w x1 := by rw [hx1]; exact hb1.drew
  have he1 := drew_block hx1 he1
  have h1 := h.low hb1
  obtain ⟨F1, F2, hP, hF⟩ := h1.ex
  have ht := try_st hP.store (by omega) hm r hf
  rw [hrv] at ht ⊢
  have HT := Lib.hid ht; have H1 := Lib.hid h1; have HE1 := Lib.hid he1; have HBX := Lib.hid hbx; have HB1 := Lib.hid hb1; have HNB := Lib.hid hnb; have HRC := Lib.hid hrc; have HML := Lib.hid hm; have HRV := Lib.hid hrv; have HFT := Lib.hid hf
  unfold doV
  clear h ht h1 he1 hb1 hnb hrc hm hrv hf hp hP hF hbx
  by_cases hty : tryD s.L s.last r = 0
  · rw [if_neg (by omega)]
    rw [hty] at HT
    by_cases hlg : (logD room size s.A r).2 = 0
    · rw [if_neg (by omega)]
      have HLG := Lib.hid hlg; have HTY := Lib.hid hty
      clear hlg hty
      go_enter Tryz.func124, Tryz.ntmps124
      go_upto_region 1 with fail
      rw [← hw1, HBX.out]
      clear hw1
      go_wp2_with fail
      go_still_tail 5, (by kernel_rfl)
      change wpList _ _ _ _ _ w1.drew
      rw [← hx1]
      clear hx1
      go_wp2_with fail
      refine HT.out.mono ?_
      rintro e w2 ⟨rfl, hb2⟩
      clear c0 c1 c2 c3 cf q0 q1 q2 q3 q4 q5
      have he2 : w2.heap[bx]? = _ := (hb2.block bx (heap_lt HE1.out)).trans HE1.out
      obtain ⟨c0, c1, c2, c3, cf⟩ := fourS (cellsV (H1.out.low hb2))
      obtain ⟨q0, q1, q2, q3, q4, q5⟩ := sixC he2
      obtain ⟨x2, hx2⟩ : ∃ x2, x2 = w2.drew := ⟨_, rfl⟩
      have hb2 : Below x1.heap.size x1 x2 := by rw [hx2]; exact hb2.drew
      have he2 := drew_block hx2 he2
      have h2 := H1.out.low hb2
      obtain ⟨F1, F2, hP, hF⟩ := h2.ex
      have hap := add_log r.kind r.seq r.time sb hd d hss.1 hss.2.1 hss.2.2 hP.disk HML.out hP.log hP.g1 hP.sz
      rw [HRC.out] at hap
      have HAP := Lib.hid hap; have H2 := Lib.hid (And.intro h2 (And.intro hP hF)); have HE2 := Lib.hid he2; have HB2 := Lib.hid (HB1.out.trans (hb2.mono HB1.out.size))
      unfold recA at HAP
      clear hap h2 hP hF he2 hb2 HT
      go_wp2_with fail
      go_still_tail 5, (by kernel_rfl)
      change wpList _ _ _ _ _ w2.drew
      rw [← hx2]
      clear hx2
      go_wp2_with fail
      refine HAP.out.mono ?_
      rintro e w3 ⟨rfl, hd3, ht3⟩
      rw [HLG.out]
      obtain ⟨h2, hP, hF⟩ := H2.out
      obtain ⟨⟨F3, h3, hF3⟩, hT3⟩ := h2.dsk hP hF hd3 ht3
      have he3 : w3.heap[bx]? = _ := (hT3.block bx (heap_lt HE2.out) HNB.out).trans HE2.out
      have hn3 : ¬ F3 bx := fun e => by
        rcases hF3 bx e with e | e
        · exact HNB.out e
        · have := heap_lt HE2.out; omega
      have hR3 : (∀ k, F3 k → F k ∨ w.heap.size ≤ k) ∧ Heap.Touch F w w3 := ⟨fun k hk => (hF3 k hk).imp id fun e => Nat.le_trans HB2.out.size e, (Heap.Touch.ofBelow HB2.out).after hT3⟩
      clear h2 hP hF hd3 ht3
      obtain ⟨F1, F2, hP, hF⟩ := h3.ex
      have hsy := sync_log hP.disk hP.log
      clear c0 c1 c2 c3 cf q0 q1 q2 q3 q4 q5
      obtain ⟨c0, c1, c2, c3, cf⟩ := fourS hP.cells
      obtain ⟨q0, q1, q2, q3, q4, q5⟩ := sixC he3
      have HSY := Lib.hid hsy; have H3 := Lib.hid (And.intro h3 (And.intro hP hF)); have HE3 := Lib.hid he3; have HN3 := Lib.hid hn3; have HR3 := Lib.hid hR3
      clear hsy h3 hP hF he3 hn3 hR3 hF3 hT3 HAP H2 HE2 HB2
      go_wp2_with fail
      refine HSY.out.mono ?_
      rintro e w4 ⟨rfl, hd4, ht4⟩
      obtain ⟨h3, hP, hF⟩ := H3.out
      obtain ⟨⟨F4, h4, hF4⟩, hT4⟩ := h3.dsk hP hF (hd4.mono (fun k hk => .inl hk) (Grow.new hP.disk)) ht4
      have he4 : w4.heap[bx]? = _ := (hT4.block bx (heap_lt HE3.out) HN3.out).trans HE3.out
      have hR4 : (∀ k, F4 k → F k ∨ w.heap.size ≤ k) ∧ Heap.Touch F w w4 := ⟨fun k hk => by
        rcases hF4 k hk with e | e
        · exact HR3.out.1 k e
        · exact .inr (Nat.le_trans HR3.out.2.size e), HR3.out.2.trans hT4 fun k hk hf => by
          rcases HR3.out.1 k hf with e | e
          · exact e
          · omega⟩
      clear h3 hP hF hd4 ht4
      clear c0 c1 c2 c3 cf q0 q1 q2 q3 q4 q5
      obtain ⟨c0, c1, c2, c3, cf⟩ := fourS (cellsV h4)
      obtain ⟨q0, q1, q2, q3, q4, q5⟩ := sixC he4
      obtain ⟨x4, hx4⟩ : ∃ x4, x4 = w4.drew := ⟨_, rfl⟩
      have h4 : VAt W F4 V D G S B room size ⟨syncL (logD room size s.A r).1, s.L, s.last⟩ x4 := h4.low (by rw [hx4]; exact (Below.refl _ _).drew)
      have hR4 : (∀ k, F4 k → F k ∨ w.heap.size ≤ k) ∧ Heap.Touch F w x4 := by rw [hx4]; exact ⟨hR4.1, hR4.2.drew⟩
      obtain ⟨F1, F2, hP, hF⟩ := h4.ex
      have hay := apply_any hP.store (by omega) HML.out r HFT.out
      rw [HRV.out] at hay
      have HAY := Lib.hid hay; have H4 := Lib.hid (And.intro h4 (And.intro hP hF)); have HR4 := Lib.hid hR4
      clear hay h4 hP hF he4 hR4 hF4 hT4 HSY H3 HE3 HN3 HR3
      go_wp2_with fail
      go_still_tail 5, (by kernel_rfl)
      change wpList _ _ _ _ _ w4.drew
      rw [← hx4]
      clear hx4
      go_wp2_with fail
      refine HAY.out.mono ?_
      rintro e w5 ⟨rfl, hn5⟩
      rw [HTY.out]
      obtain ⟨h4, hP, hF⟩ := H4.out
      have HF := Lib.hid (show VPost W F V D G S (B + 16) room size w (⟨syncL (logD room size s.A r).1, (after s.L s.last r).1, (after s.L s.last r).2⟩, 0) (.returned (.int .i64 ((0 : Nat) : Int))) w5 from ⟨rfl, NextVA.trans HR4.out.1 HR4.out.2 (h4.sto hP hF hn5)⟩)
      clear h4 hP hF hn5 HAY H4 HR4
      go_wp2_with fail
      go_ret
      exact HF.out
    · rw [if_pos hlg]
      have HTY := Lib.hid hty
      obtain ⟨lo, hlo⟩ : ∃ lo, (logD room size s.A r).2 = lo := ⟨_, rfl⟩
      rw [hlo] at hlg ⊢
      have HLO := Lib.hid hlo
      have hlz : ¬ (lo : Int) = 0 := by omega
      clear hty hlo
      go_enter Tryz.func124, Tryz.ntmps124
      go_upto_region 1 with fail
      rw [← hw1, HBX.out]
      clear hw1
      go_wp2_with fail
      go_still_tail 5, (by kernel_rfl)
      change wpList _ _ _ _ _ w1.drew
      rw [← hx1]
      clear hx1
      go_wp2_with fail
      refine HT.out.mono ?_
      rintro e w2 ⟨rfl, hb2⟩
      clear c0 c1 c2 c3 cf q0 q1 q2 q3 q4 q5
      have he2 : w2.heap[bx]? = _ := (hb2.block bx (heap_lt HE1.out)).trans HE1.out
      obtain ⟨c0, c1, c2, c3, cf⟩ := fourS (cellsV (H1.out.low hb2))
      obtain ⟨q0, q1, q2, q3, q4, q5⟩ := sixC he2
      obtain ⟨x2, hx2⟩ : ∃ x2, x2 = w2.drew := ⟨_, rfl⟩
      have hb2 : Below x1.heap.size x1 x2 := by rw [hx2]; exact hb2.drew
      have he2 := drew_block hx2 he2
      have h2 := H1.out.low hb2
      obtain ⟨F1, F2, hP, hF⟩ := h2.ex
      have hap := add_log r.kind r.seq r.time sb hd d hss.1 hss.2.1 hss.2.2 hP.disk HML.out hP.log hP.g1 hP.sz
      rw [HRC.out] at hap
      have HAP := Lib.hid hap; have H2 := Lib.hid (And.intro h2 (And.intro hP hF)); have HB2 := Lib.hid (HB1.out.trans (hb2.mono HB1.out.size))
      unfold recA at HAP
      clear hap h2 hP hF he2 hb2 HT
      go_wp2_with fail
      go_still_tail 5, (by kernel_rfl)
      change wpList _ _ _ _ _ w2.drew
      rw [← hx2]
      clear hx2
      go_wp2_with fail
      refine HAP.out.mono ?_
      rintro e w3 ⟨rfl, hd3, ht3⟩
      rw [HLO.out]
      obtain ⟨h2, hP, hF⟩ := H2.out
      have HF := Lib.hid (show VPost W F V D G S (B + 16) room size w (⟨(logD room size s.A r).1, s.L, s.last⟩, lo) (.returned (.int .i64 (lo : Int))) w3 from ⟨rfl, (NextVA.trans (F' := F) (fun k hk => .inl hk) (Heap.Touch.ofBelow HB2.out) (h2.dsk hP hF hd3 ht3)).more (by omega)⟩)
      clear h2 hP hF hd3 ht3 HAP H2 HB2
      go_wp2_with fail
      go_ret
      exact HF.out
  · rw [if_pos hty]
    generalize tryD s.L s.last r = lo at *
    have hlz : ¬ (lo : Int) = 0 := by omega
    clear hss
    go_enter Tryz.func124, Tryz.ntmps124
    go_upto_region 1 with fail
    rw [← hw1, HBX.out]
    clear hw1
    go_wp2_with fail
    go_still_tail 5, (by kernel_rfl)
    change wpList _ _ _ _ _ w1.drew
    rw [← hx1]
    clear hx1
    go_wp2_with fail
    refine HT.out.mono ?_
    rintro e w2 ⟨rfl, hb2⟩
    have HF := Lib.hid (show VPost W F V D G S (B + 16) room size w (s, lo) (.returned (.int .i64 (lo : Int))) w2 from ⟨rfl, ((NextVA.trans (F' := F) (fun k hk => .inl hk) (Heap.Touch.ofBelow HB1.out) (NextVA.same H1.out hb2))).more (by omega)⟩)
    clear hb2
    go_wp2_with fail
    go_ret
    exact HF.out

set_option maxRecDepth 100000 in
theorem store_vlt (h : VAt W F V D G S B room size s w) : Calls Tryz.prog 120 #[.pointer (some ⟨V, 0, none⟩)] w fun e w' => e = .returned (.pointer (some ⟨S, 0, none⟩)) ∧ w = w' := by
  obtain ⟨F1, F2, hP, hF⟩ := h.ex
  obtain ⟨c0, c1, c2, c3, cf⟩ := fourS hP.cells
  clear h hP hF
  go_enter Tryz.func120, Tryz.ntmps120
  go_wp2_with fail
  go_ret
  exact ⟨rfl, rfl⟩
end
end Go.Proofs.YtbgchhgdlceceaaGreatDoor.Vlt

namespace Go.Proofs.YtbgchhgdlceceaaGreatDoor.Vlt
open Dsk
open Sto (noteR)

def v0 : Vt := ⟨[], [], 0⟩
def v1 : Vt := (doV 100 100 v0 (noteR 1)).1
def u1 : Vt := (compV 100 100 v0).1
def u2 : Vt := (doV 100 100 u1 (noteR 1)).1
def u3 : Vt := (compV 100 100 u2).1
theorem ex_c4 : total u3.A = 26 := by decide +kernel
#print axioms ex_c4
end Go.Proofs.YtbgchhgdlceceaaGreatDoor.Vlt

namespace Go.Proofs.YtbgchhgdlceceaaGreatDoor.Vlt
open Go.RowKit Heap Dsk Log
open Subj (ML)
open Rec (Rc)
open Sto (StoreAt NextSt new_store runS runS_step RecsAt Fits parts sixC recV recsV fourS apply_any row_recs cells_rec)

section
variable {W w : World} {F : Nat → Prop} {V D G S B : Nat} {room size : Int} {s : Vt}

/-- What a stop leaves. -/
def CrashV (W : World) (F : Nat → Prop) (V D : Nat) (room size : Int) (K : Nat) (s : Vt) (w : World) (e : Ending) (w' : World) : Prop :=
  e = .returned (.tuple #[]) ∧ ∃ F' G' S', VAt W F' V D G' S' (16 * (openD (crashD s.A K)).1.length) room size (crashV K s) w' ∧ (∀ k, F' k → F k ∨ w.heap.size ≤ k) ∧ Heap.Touch F w w'

/-- The log is opened, some records are told. -/
def CL (W : World) (F : Nat → Prop) (V D G S : Nat) (room size : Int) (A' : List FileP) (rs : List Rc) (n : Nat) (v : Value) (w : World) (k : Nat) (wr : World) : Prop :=
  ∃ F1 F2, VParts W F1 F2 V D G S (16 * k) room size ⟨A', (runS (rs.take k)).1, (runS (rs.take k)).2⟩ wr ∧ (∀ j, F1 j ∨ F2 j ∨ j = G ∨ j = V → F j ∨ w.heap.size ≤ j) ∧ Heap.Touch F w wr ∧ Row wr 33 6 v n (recsV rs) ∧ (∀ j, own v j → ¬ F1 j ∧ ¬ F2 j ∧ j ≠ G ∧ j ≠ V)

theorem CL.fin {A' : List FileP} {rs : List Rc} {n G' S' : Nat} {v : Value} {wr : World} (h : CL W F V D G' S' room size A' rs n v w rs.length wr) (_hnew : ∀ k, F k → W.heap.size ≤ k) :
    ∃ F', VAt W F' V D G' S' (16 * rs.length) room size ⟨A', (runS rs).1, (runS rs).2⟩ wr ∧ (∀ k, F' k → F k ∨ w.heap.size ≤ k) ∧ Heap.Touch F w wr := by
  obtain ⟨F1, F2, hP, hF, ht, _, _⟩ := h
  rw [List.take_length] at hP
  refine ⟨fun k => F1 k ∨ F2 k ∨ k = G' ∨ k = V, ⟨⟨F1, F2, hP, fun k hk => hk⟩, fun k hk => ?_, fun k hk => ?_⟩, hF, ht⟩
  · rcases hk with hk | hk | rfl | rfl
    · exact hP.disk.newF k hk
    · exact hP.store.newF k hk
    · exact hP.oldG
    · exact hP.oldV
  · rcases hk with hk | hk | rfl | rfl
    · exact hP.lt1 k hk
    · exact hP.store.bF k hk
    · exact hP.ltG
    · exact hP.ltV

set_option maxHeartbeats 8000000 in
set_option maxRecDepth 100000 in
theorem crash_vlt (h : VAt W F V D G S B room size s w) (hm : ML W) (keep : Int) (K : Nat) (hK : keep.toNat = K) (hlen : (openD (crashD s.A K)).1.length ≤ 3700) (hfit : ∀ r ∈ (openD (crashD s.A K)).1, Fits r) :
    Calls Tryz.prog 127 #[.pointer (some ⟨V, 0, none⟩), .int .i64 keep] w (CrashV W F V D room size K s w) := by
  obtain ⟨F1, F2, hP, hF⟩ := h.ex
  obtain ⟨c0, c1, c2, c3, cf⟩ := fourS hP.cells
  have hcr := crash_any hP.disk keep
  rw [hK] at hcr
  have HCR := Lib.hid hcr; have HH := Lib.hid h; have HP := Lib.hid hP; have HFF := Lib.hid hF; have HML := Lib.hid hm; have HFT := Lib.hid hfit; have HSZ := Lib.hid hP.sz
  have hcv : crashV K s = ⟨(openD (crashD s.A K)).2, (runS (openD (crashD s.A K)).1).1, (runS (openD (crashD s.A K)).1).2⟩ := rfl
  have HCV := Lib.hid hcv
  obtain ⟨o, ho⟩ : ∃ o, openD (crashD s.A K) = o := ⟨_, rfl⟩
  have HO := Lib.hid ho
  rw [ho] at HFT hlen
  obtain ⟨n, hn⟩ : ∃ n, o.1.length = n := ⟨_, rfl⟩
  have HN := Lib.hid hn
  rw [hn] at hlen
  clear h hP hF hcr hm hfit hcv hn hK ho
  go_enter Tryz.func127, Tryz.ntmps127
  go_wp2_with fail
  refine HCR.out.mono ?_
  rintro e w1 ⟨rfl, hd1, ht1⟩
  -- behind the disk's stop
  have hP1 := HP.out.dsk (hd1.mono (fun k hk => .inl hk) (Grow.new HP.out.disk)) ht1
  clear c0 c1 c2 c3 cf
  obtain ⟨c0, c1, c2, c3, cf⟩ := fourS hP1.cells
  have hb1 : Below w1.heap.size w1 w1.drew := (Below.refl _ _).drew
  have hPx := hP1.low hb1
  have HT1 := Lib.hid (show Heap.Touch F w w1.drew from (ht1.mono fun k _ hk => HFF.out k (.inl hk)).after (Heap.Touch.ofBelow hb1))
  have HOP := Lib.hid (open_any hPx.disk HML.out size)
  have HPX := Lib.hid hPx
  have HF1 := Lib.hid (show ∀ k, ((Grow F1 w k ∧ k < w1.heap.size) ∨ F2 k ∨ k = G ∨ k = V) → F k ∨ w.heap.size ≤ k from fun k hk => by
    rcases hk with hk | hk | hk | hk
    · exact hk.1.imp (fun e => HFF.out k (.inl e)) id
    · exact .inl (HFF.out k (.inr (.inl hk)))
    · exact .inl (HFF.out k (.inr (.inr (.inl hk))))
    · exact .inl (HFF.out k (.inr (.inr (.inr hk)))))
  clear hd1 ht1 hP1 hb1 hPx HCR
  go_wp2_with fail
  obtain ⟨b0, b1, b2, b3, bf⟩ := fourS HPX.out.cells
  go_region_held3 (fun w' => w'.cell? ⟨V, 0, none⟩ = some (.pointer (some ⟨D, 0, none⟩)) ∧ w'.cell? ⟨V, 3, none⟩ = some (.int .i64 size)) (first | (with_reducible exact ⟨c0, c3⟩) | (with_reducible exact ⟨b0, b3⟩) | (with_reducible exact ⟨u0, u3⟩) | go_keep)
    (first | (go_at_call 42; ((refine HOP.out.mono ?_); rintro e w2 (⟨hsz, _, _⟩ | ⟨_, G', v2, rfl, hd2, hg2, hgl, hr2, ho2, ht2⟩); (exact absurd HSZ.out (by omega)); have hV2 : w2.heap[V]? = _ := (ht2.block V HPX.out.ltV HPX.out.v1).trans HPX.out.cells; obtain ⟨u0, u1, u2, u3, uf⟩ := fourS hV2)))
  rw [HO.out] at hd2 hr2
  rw [HN.out] at hr2
  clear c0 c1 c2 c3 cf b0 b1 b2 b3 bf u0 u1 u2 u3 uf
  obtain ⟨a2, n2, rfl⟩ := hr2.slice
  have HST := Lib.hid (new_store (W := W) (w := w2) hd2.below)
  have HD2 := Lib.hid hd2; have HG2 := Lib.hid hg2; have HGL := Lib.hid hgl; have HR2 := Lib.hid hr2; have HO2 := Lib.hid ho2; have HT2 := Lib.hid ht2; have HV2 := Lib.hid hV2
  obtain ⟨S', hS'⟩ : ∃ S', w2.heap.size + 1 = S' := ⟨_, rfl⟩
  rw [hS'] at HST
  have HSS := Lib.hid hS'
  clear hd2 hr2 hg2 hgl ho2 ht2 hV2 hS' HOP
  go_wp2_with fail
  refine HST.out.mono ?_
  rintro e w3 ⟨rfl, hs3, hb3⟩
  have hV3 : w3.heap[V]? = _ := (hb3.block V (heap_lt HV2.out)).trans HV2.out
  obtain ⟨c0, c1, c2, c3, cf⟩ := fourS hV3
  obtain ⟨w4, hw4⟩ : ∃ w4, w4 = (w3.setCell ⟨V, 1, none⟩ (.pointer (some ⟨G', 0, none⟩))).setCell ⟨V, 2, none⟩ (.pointer (some ⟨S', 0, none⟩)) := ⟨_, rfl⟩
  have he4 : w4.heap[V]? = some (.cells #[.pointer (some ⟨D, 0, none⟩), .pointer (some ⟨G', 0, none⟩), .pointer (some ⟨S', 0, none⟩), .int .i64 size] 250 (0, 0)) := by
    rw [hw4, heap_setCell_same _ _ _ _ _ _ (heap_setCell_same _ _ _ _ _ _ hV3)]; rfl
  have ht4 : Heap.Touch (fun k => k = V) w3 w4 := by
    rw [hw4]
    exact Heap.Touch.setCell (F := fun k => k = V) (p := ⟨V, 2, none⟩) (Heap.Touch.setCell (F := fun k => k = V) (p := ⟨V, 1, none⟩) (Heap.Touch.refl _ w3) (.inl rfl) _) (.inl rfl) _
  have h0 := Lib.hid (show CL W F V D G' S' room size o.2 o.1 n (.slice a2 n n2) w 0 w4 from by
    have z1 := HPX.out.ltV; have z2 := heap_lt HV2.out; have z3 := HT2.out.size; have z4 := hb3.size; have z5 := ht4.size; have z6 := HGL.out; have z7 := HSS.out; have z8 := HT1.out.size
    have z9 := heap_lt (show w2.heap[G']? = _ from HG2.out)
    have hW2 := HD2.out.below.size
    have hb34 : Below W.heap.size w3 w4 := ht4.below (by omega) fun k hk => by have := HPX.out.oldV; omega
    have hb24 : Below W.heap.size w2 w4 := (hb3.mono hW2).trans hb34
    have hbW : Below W.heap.size W w4 := HD2.out.below.trans hb24
    have hsame : Heap.Touch (fun k => k = V) w2 w4 := (Heap.Touch.ofBelow hb3).after ht4
    refine ⟨_, _, ⟨he4, HD2.out.kept hb24 fun k hk hlt => hsame.block k hlt fun e => HPX.out.v1 (e ▸ hk), HG2.out.touch hsame (by omega), hs3.kept hbW ht4.size fun k hk hlt => ht4.block k hlt fun e => by omega, fun k hk hk2 => by have := HPX.out.lt1 k hk; omega, fun k hk => by have := HPX.out.lt1 k hk; omega, fun e => by have := HPX.out.lt1 _ e; omega, fun e => by omega, HPX.out.v1, fun e => by omega, by have := HPX.out.disk.below.size; omega, HPX.out.oldV, HSZ.out⟩, fun j hj => ?_, ?_, ?_, fun j hj => ?_⟩
    · rcases hj with hj | hj | rfl | rfl
      · exact HF1.out j (.inl hj)
      · exact .inr (by omega)
      · exact .inr (by omega)
      · exact .inl (HFF.out _ (.inr (.inr (.inr rfl))))
    · refine (HT1.out.trans HT2.out fun k hk hf => ?_).trans hsame fun k hk hf => ?_
      · rcases HF1.out k (.inl hf) with e | e
        · exact e
        · omega
      · subst hf; exact HFF.out _ (.inr (.inr (.inr rfl)))
    · exact HR2.out.kept fun j hj hlt => hsame.block j hlt fun e => by have := HO2.out j hj; omega
    · have h1 := HO2.out j hj
      have h2 := HR2.out.lt j hj
      refine ⟨fun e => by have := HPX.out.lt1 _ e; omega, fun e => by omega, fun e => ?_, by omega⟩
      rcases HR2.out.2 with ⟨e2, _⟩ | ⟨g, off, cap, cur, e2, hg, _⟩
      · rw [e2] at hj; simp [own, Value.ownBlock] at hj
      · rw [e2] at hj
        simp [own, Value.ownBlock] at hj
        have h3 : w2.heap[G']? = _ := HG2.out
        rw [← e, ← hj, hg] at h3
        simp at h3)
  have hn0 := HN.out
  clear hs3 hb3 hV3 he4 ht4 HST HR2 HO2 HT2 HV2 HD2 HG2 HGL HSS HPX HF1 HT1 HP hn0
  go_upto_region 3 with fail
  rw [← hw4]
  clear hw4 c0 c1 c2 c3 cf
  go_wp2_with fail
  go_loopw [38] (fun i wr => ∃ k : Nat, k ≤ n ∧ i = .int .i64 k ∧ Hid (CL W F V D G' S' room size o.2 o.1 n (.slice a2 n n2) w k wr)) (fun i _ => n - (intOf i).toNat)
  case atStart => exact ⟨0, Nat.zero_le _, rfl, h0⟩
  case round =>
    obtain ⟨k, hk, rfl, HR⟩ := hrel
    clear h0
    obtain ⟨F1, F2, hP, hF, hT, hrow, hown⟩ := HR.out
    by_cases hlt : k < n
    · have hltz : (k : Int) < n := by omega
      obtain ⟨p, hp⟩ : ∃ p, o.1[k]? = some p := ⟨_, List.getElem?_eq_getElem (by rw [HN.out]; exact hlt)⟩
      obtain ⟨g, off, rfl⟩ : ∃ g off, a2 = some ⟨g, off, none⟩ := by
        rcases hrow.2 with ⟨e, e0⟩ | ⟨g, off, cap, cur, e, _⟩
        · omega
        · simp only [Value.slice.injEq] at e
          exact ⟨g, off, e.1⟩
      obtain ⟨m0, m1, m2, m3, m4, m5⟩ := cells_rec hrow k p hp hlt
      have hfp := HFT.out p (List.mem_of_getElem? hp)
      have hrv : recV p = .agg #[.int .i64 p.kind, .int .i64 p.seq, .int .i64 p.time, .string ⟨p.subj.toArray⟩, .string ⟨p.head.toArray⟩, .string ⟨p.data.toArray⟩] := rfl
      obtain ⟨sb, hd, d, hpp⟩ := parts p
      rw [hpp.s1, hpp.h1, hpp.d1] at hrv
      rw [hpp.s1] at m3
      rw [hpp.h1] at m4
      rw [hpp.d1] at m5
      obtain ⟨wa, hwa⟩ : ∃ wa, wa = wr.alloc (.cells #[.int .i64 p.kind, .int .i64 p.seq, .int .i64 p.time, .string sb, .string hd, .string d] 33) := ⟨_, rfl⟩
      have hba : Below wr.heap.size wr wa := by rw [hwa]; exact (Below.refl _ _).alloc (Nat.le_refl _) _
      have hea : wa.heap[wr.heap.size]? = some (.cells #[.int .i64 p.kind, .int .i64 p.seq, .int .i64 p.time, .string sb, .string hd, .string d] 33 (0, 0)) := by rw [hwa]; exact heap_alloc_new wr _
      obtain ⟨bx, hbx⟩ : ∃ bx, wr.heap.size = bx := ⟨_, rfl⟩
      rw [hbx] at hea
      obtain ⟨c0, c1, c2, c3, cf⟩ := fourS (hP.low hba).cells
      obtain ⟨q0, q1, q2, q3, q4, q5⟩ := sixC hea
      obtain ⟨xa, hxa⟩ : ∃ xa, xa = wa.drew := ⟨_, rfl⟩
      have hbx2 : Below wr.heap.size wr xa := by rw [hxa]; exact hba.drew
      have hPa := hP.low hbx2
      have hAP := apply_any hPa.store (by omega) HML.out p hfp
      rw [hrv] at hAP
      have HAP := Lib.hid hAP; have HBX := Lib.hid hbx; have HPA := Lib.hid hPa; have HP := Lib.hid hp
      have HRA := Lib.hid (And.intro hF (And.intro (hT.after (Heap.Touch.ofBelow hbx2)) (And.intro (hrow.kept (w' := xa) fun j _ hj => hbx2.block j hj) hown)))
      have hplt : (p.kind : Int) = p.kind := rfl
      clear hp hfp hrv hpp hea hbx hbx2 hPa hAP hP hF hT hrow hown hba HR hplt
      go_upto_region 6 with fail
      rw [← hwa, HBX.out]
      clear hwa m0 m1 m2 m3 m4 m5
      go_wp2_with fail
      go_still_tail 5, (by kernel_rfl)
      change wpList _ _ _ _ _ wa.drew
      rw [← hxa]
      clear hxa
      go_wp2_with fail
      refine HAP.out.mono ?_
      rintro e w5 ⟨rfl, hn5⟩
      have HNX := Lib.hid (show CL W F V D G' S' room size o.2 o.1 n (.slice (some ⟨g, off, none⟩) n n2) w (k + 1) w5 from by
        obtain ⟨hF, hT, hrow, hown⟩ := HRA.out
        obtain ⟨F2', hP', hF2⟩ := HPA.out.sto hn5
        have ht5 := hn5.2
        refine ⟨F1, F2', ?_, fun j hj => ?_, hT.trans ht5 fun j hj hf => ?_, hrow.kept fun j hj hlt => ht5.block j hlt (hown j hj).2.1, fun j hj => ⟨(hown j hj).1, fun e => ?_, (hown j hj).2.2⟩⟩
        · rw [runS_step HP.out]
          exact hP'.more (by omega)
        · rcases hj with hj | hj | hj
          · exact hF j (.inl hj)
          · rcases hF2 j hj with e | e
            · exact hF j (.inr (.inl e))
            · exact .inr (Nat.le_trans hT.size e)
          · exact hF j (.inr (.inr hj))
        · rcases hF j (.inr (.inl hf)) with e | e
          · exact e
          · omega
        · rcases hF2 j e with e | e
          · exact (hown j hj).2.1 e
          · have := hrow.lt j hj; omega)
      clear hn5 HAP HPA HRA c0 c1 c2 c3 cf q0 q1 q2 q3 q4 q5
      go_wp2_with fail
      exact ⟨⟨k + 1, by omega, by go_num, HNX⟩, by simp [intOf]; omega⟩
    · have hltz : ¬ (k : Int) < n := by omega
      obtain rfl : k = n := by omega
      have HFI := Lib.hid (show CrashV W F V D room size K s w (.returned (.tuple #[])) wr from by
        have h9 := HR.out
        rw [← HN.out] at h9
        obtain ⟨F', h1, h2, h3⟩ := h9.fin HH.out.newF
        refine ⟨rfl, F', G', S', ?_, h2, h3⟩
        rw [HCV.out, HO.out]
        exact h1)
      clear hP hF hT hrow hown HR
      go_wp2_with fail
      go_end0
      exact HFI.out
end
end Go.Proofs.YtbgchhgdlceceaaGreatDoor.Vlt

namespace Go.Proofs.YtbgchhgdlceceaaGreatDoor.Vlt
open Go.RowKit Heap Dsk Log
open Subj (ML)
open Rec (Rc recErr recA rcOf codedL ml_alloc)
open Sto (StoreAt NextSt tryD after runS RecsAt Fits parts sixC recV recsV fourS all_any sums_any sumsV Right row_recs recsV_append news_rec info_rec)

section
variable {W w w1 : World} {F : Nat → Prop} {V D G S B : Nat} {room size : Int} {s : Vt}

end
end Go.Proofs.YtbgchhgdlceceaaGreatDoor.Vlt

namespace Go.Proofs.YtbgchhgdlceceaaGreatDoor.Vlt
open Go.RowKit Heap Dsk Log
open Subj (ML)
open Rec (Rc)
open Sto (StoreAt new_store)

section
variable {W w : World}

/-- A vault of one's own. -/
def MadeV (W : World) (room size : Int) (w : World) (e : Ending) (w' : World) : Prop :=
  ∃ F V D G S, e = .returned (.tuple #[.pointer (some ⟨V, 0, none⟩), .int .i64 0]) ∧ VAt W F V D G S 0 room size ⟨[], [], 0⟩ w' ∧ (∀ k, F k → w.heap.size ≤ k) ∧ Below w.heap.size w w'

set_option maxHeartbeats 4000000 in
set_option maxRecDepth 100000 in
theorem new_vlt (hW : Below W.heap.size W w) (hm : ML W) (room size : Int) (h1 : 1 ≤ room) (h2 : room ≤ 65536) (h3 : 1 ≤ size ∧ size ≤ 4096) :
    Calls Tryz.prog 97 #[.int .i64 room, .int .i64 size] w (MadeV W room size w) := by
  have HN := Lib.hid (new_good hW room h1 h2)
  have HSZ := Lib.hid h3; have HML := Lib.hid hm; have HW := Lib.hid hW
  obtain ⟨D, hD⟩ : ∃ D, w.heap.size + 1 = D := ⟨_, rfl⟩
  rw [hD] at HN
  clear hW hm h1 h2 h3 hD
  go_enter Tryz.func97, Tryz.ntmps97
  go_wp2_with fail
  refine HN.out.mono ?_
  rintro e w1 ⟨rfl, hd1, hb1⟩
  have HOP := Lib.hid (open_any hd1.shrink HML.out size)
  have HB1 := Lib.hid hb1
  clear hd1 hb1 HN
  go_wp2_with fail
  refine HOP.out.mono ?_
  rintro e w2 (⟨hsz, _, _⟩ | ⟨_, G, v, rfl, hd2, hg2, hgl, hr2, ho2, ht2⟩)
  · exact absurd HSZ.out (by omega)
  have hnl : openD [] = ([], []) := rfl
  rw [hnl] at hd2 hr2
  obtain ⟨a2, n2, rfl⟩ := hr2.slice
  have hb2 : Below w.heap.size w w2 := HB1.out.trans (ht2.below HB1.out.size fun k hk => hk.1)
  have HD2 := Lib.hid hd2; have HG2 := Lib.hid hg2; have HB2 := Lib.hid hb2
  have HGL := Lib.hid (show w1.heap.size ≤ G ∧ G < w2.heap.size from ⟨hgl, heap_lt (show w2.heap[G]? = _ from hg2)⟩)
  have HS1 := Lib.hid ht2.size
  have HST := Lib.hid (new_store (W := W) (w := w2) hd2.below)
  obtain ⟨S, hS⟩ : ∃ S, w2.heap.size + 1 = S := ⟨_, rfl⟩
  rw [hS] at HST
  have HSS := Lib.hid hS
  clear hd2 hg2 hb2 hgl hr2 ho2 ht2 hnl hS HOP
  go_wp2_with fail
  refine HST.out.mono ?_
  rintro e w3 ⟨rfl, hs3, hb3⟩
  obtain ⟨w4, hw4⟩ : ∃ w4, w4 = w3.alloc (.cells #[.pointer (some ⟨D, 0, none⟩), .pointer (some ⟨G, 0, none⟩), .pointer (some ⟨S, 0, none⟩), .int .i64 size] 250) := ⟨_, rfl⟩
  have hb4 : Below w3.heap.size w3 w4 := by rw [hw4]; exact (Below.refl _ _).alloc (Nat.le_refl _) _
  have he4 : w4.heap[w3.heap.size]? = some (.cells #[.pointer (some ⟨D, 0, none⟩), .pointer (some ⟨G, 0, none⟩), .pointer (some ⟨S, 0, none⟩), .int .i64 size] 250 (0, 0)) := by rw [hw4]; exact heap_alloc_new w3 _
  have hb24 := hb3.trans (hb4.mono hb3.size)
  have HF := Lib.hid (show MadeV W room size w (.returned (.tuple #[.pointer (some ⟨w3.heap.size, 0, none⟩), .int .i64 0])) w4 from by
    have z1 := HB1.out.size; have z2 := HS1.out; have z3 := hb3.size; have z4 := hb4.size; have z5 := HGL.out; have z6 := HW.out.size; have z7 := heap_lt he4
    refine ⟨fun k => w.heap.size ≤ k ∧ k < w4.heap.size, w3.heap.size, D, G, S, rfl, ⟨⟨fun k => w.heap.size ≤ k ∧ k < w1.heap.size, fun k => w2.heap.size ≤ k ∧ k < w2.heap.size + 2, ⟨he4, DiskAt.low HD2.out hb24, HG2.out.below hb24, hs3.next hb4, fun k hk hk2 => by omega, fun k hk => by omega, fun e => by omega, fun e => by omega, fun e => by omega, fun e => ?_, by omega, by omega, HSZ.out⟩, fun k hk => ?_⟩, fun k hk => by omega, fun k hk => hk.2⟩, fun k hk => hk.1, HB2.out.trans (hb24.mono HB2.out.size)⟩
    · have := hs3.bF (w2.heap.size + 1) ⟨by omega, by omega⟩
      omega
    · have := hs3.bF (w2.heap.size + 1) ⟨by omega, by omega⟩
      rcases hk with hk | hk | rfl | rfl <;> omega)
  clear hs3 hb3 hb4 he4 hb24
  go_wp2_with fail
  rw [← hw4]
  go_ret2
  exact HF.out

set_option maxRecDepth 100000 in
theorem new_vlt_bad (hW : Below W.heap.size W w) (hm : ML W) (room size : Int) (h : ¬ ((1 ≤ room ∧ room ≤ 65536) ∧ 1 ≤ size ∧ size ≤ 4096)) :
    Calls Tryz.prog 97 #[.int .i64 room, .int .i64 size] w fun e w' => e = .returned (.tuple #[.pointer none, .int .i64 1]) ∧ Below w.heap.size w w' := by
  by_cases hr : 1 ≤ room ∧ room ≤ 65536
  · have hs : size < 1 ∨ 4096 < size := by
      rcases (show (1 ≤ size ∧ size ≤ 4096) ∨ (size < 1 ∨ 4096 < size) from by omega) with e | e
      · exact absurd ⟨hr, e⟩ h
      · exact e
    have HN := Lib.hid (new_good hW room hr.1 hr.2)
    have HSZ := Lib.hid hs; have HML := Lib.hid hm
    clear hW hm h hr hs
    go_enter Tryz.func97, Tryz.ntmps97
    go_wp2_with fail
    refine HN.out.mono ?_
    rintro e w1 ⟨rfl, hd1, hb1⟩
    have HOP := Lib.hid (open_any hd1.shrink HML.out size)
    have HB1 := Lib.hid hb1
    clear hd1 hb1 HN
    go_wp2_with fail
    refine HOP.out.mono ?_
    rintro e w2 (⟨_, rfl, rfl⟩ | ⟨hsz, _⟩)
    · go_wp2_with fail
      go_ret2
      exact ⟨rfl, HB1.out⟩
    · exact absurd HSZ.out hsz
  · have HN := Lib.hid (new_bad (w := w) room hr)
    clear hW hm h hr
    go_enter Tryz.func97, Tryz.ntmps97
    go_wp2_with fail
    refine HN.out.mono ?_
    rintro e w1 ⟨rfl, rfl⟩
    go_wp2_with fail
    go_ret2
    exact ⟨rfl, Below.refl _ _⟩
end
end Go.Proofs.YtbgchhgdlceceaaGreatDoor.Vlt

namespace Go.Proofs.YtbgchhgdlceceaaGreatDoor.Vlt
open Go.RowKit Heap
open Rec (Rc recErr)
open Sto (Fits)

theorem fits_ok {r : Rc} (h : recErr r = 0) : Fits r := by
  have := Rec.recErr_sizes h
  exact ⟨by omega, by omega, by omega⟩

theorem low_to {w0 wa wb : World} (h : Below w0.heap.size w0 wa) (k : Below wa.heap.size wa wb) : Below w0.heap.size w0 wb := h.trans (k.mono h.size)
end Go.Proofs.YtbgchhgdlceceaaGreatDoor.Vlt

namespace Go.Proofs.YtbgchhgdlceceaaGreatDoor.Vlt
open Go.RowKit Heap Dsk Log
open Subj (ML)
open Rec (Rc recErr)
open Sto (StoreAt runS RecsAt Fits parts sixC recV recsV fourS all_any sums_any sumsV Copied noteR row_recs equal_recs Right)

section
variable {W w w1 : World} {F : Nat → Prop} {V D G S B N : Nat} {room size : Int} {s : Vt}

theorem VAt.sorted (h : VAt W F V D G S B room size s w) : Sorted s.A := by
  obtain ⟨F1, F2, hP, _⟩ := h.ex
  exact hP.disk.right.sorted

theorem VAt.right (h : VAt W F V D G S B room size s w) : ∃ I, Right s.L s.last I := by
  obtain ⟨F1, F2, hP, _⟩ := h.ex
  exact hP.store.right

theorem VAt.fits (h : VAt W F V D G S B room size s w) : (total s.A : Int) ≤ room := by
  obtain ⟨F1, F2, hP, _⟩ := h.ex
  exact hP.disk.right.fits

theorem VAt.st (h : VAt W F V D G S B room size s w) : ∃ F2, StoreAt W F2 S B s.L s.last w := by
  obtain ⟨F1, F2, hP, _⟩ := h.ex
  exact ⟨F2, hP.store⟩

theorem all_vlt (h : VAt W F V D G S B room size s w) : Calls Tryz.prog 64 #[.pointer (some ⟨S, 0, none⟩)] w (Copied w s.L) := by
  obtain ⟨F2, hst⟩ := h.st
  exact all_any hst

theorem sums_vlt (h : VAt W F V D G S B room size s w) : Calls Tryz.prog 61 #[.pointer (some ⟨S, 0, none⟩)] w fun e w' => e = .returned (sumsV s.L s.last) ∧ Below w.heap.size w w' := by
  obtain ⟨F2, hst⟩ := h.st
  exact sums_any hst

/-- A vault somewhere of one's own; all that was done is whole on its disk. -/
def Vw (w : World) (V N B : Nat) (room size : Int) (s : Vt) (wr : World) : Prop := ∃ F D G S, VAt w F V D G S B room size s wr ∧ Whole N s

theorem Vw.below (h : Vw w V N B room size s w1) : Below w.heap.size w w1 := by
  obtain ⟨F, D, G, S, h, _⟩ := h
  exact h.below

theorem Vw.next {w2 : World} (h : Vw w V N B room size s w1) (hb : Below w1.heap.size w1 w2) : Vw w V N B room size s w2 := by
  obtain ⟨F, D, G, S, h, h2⟩ := h
  exact ⟨F, D, G, S, h.low hb, h2⟩

theorem sums_form (L : List Rc) (last : Int) : ∃ a b c d : Int, sumsV L last = .agg #[.int .i64 a, .int .i64 b, .int .i64 c, .int .i64 d] := ⟨_, _, _, _, rfl⟩

/-- What is told of a vault, kept aside. -/
structure Aside (w : World) (F : Nat → Prop) (V D G S N B : Nat) (room size : Int) (s : Vt) (v : Value) (bx : Nat) (a b c d : Int) (wr : World) : Prop where
  vlt : VAt w F V D G S B room size s wr
  whole : Whole N s
  vF : ∀ k, own v k → ¬ F k
  bF : ¬ F bx
  row : Row wr 33 6 v s.L.length (recsV s.L)
  box : wr.heap[bx]? = some (.cells #[.int .i64 a, .int .i64 b, .int .i64 c, .int .i64 d] 116 (0, 0))
  sums : sumsV s.L s.last = .agg #[.int .i64 a, .int .i64 b, .int .i64 c, .int .i64 d]

theorem Aside.next {v : Value} {bx : Nat} {a b c d : Int} {w2 : World} (h : Aside w F V D G S N B room size s v bx a b c d w1) (hb : Below w1.heap.size w1 w2) : Aside w F V D G S N B room size s v bx a b c d w2 :=
  ⟨h.vlt.low hb, h.whole, h.vF, h.bF, h.row.kept fun k _ hk => hb.block k hk, (hb.block bx (heap_lt h.box)).trans h.box, h.sums⟩

/-- A stop leaves it. -/
theorem Aside.crash {v : Value} {bx K : Nat} {a b c d : Int} {w2 : World} {e : Ending} (h : Aside w F V D G S N B room size s v bx a b c d w1) (hN : N ≤ 3700)
    (hc : CrashV w F V D room size K s w1 e w2) : e = .returned (.tuple #[]) ∧ ∃ F' G' S', Aside w F' V D G' S' N 60000 room size s v bx a b c d w2 := by
  obtain ⟨rfl, F', G', S', h1, h2, h3⟩ := hc
  refine ⟨rfl, F', G', S', ?_, h.whole, fun k hk e => ?_, fun e => ?_, h.row.kept fun k hk hlt => h3.block k hlt (h.vF k hk), (h3.block bx (heap_lt h.box) h.bF).trans h.box, h.sums⟩
  · rw [h.whole.crash] at h1
    exact h1.more (by have := (h.whole.told K).1; omega)
  · rcases h2 k e with e | e
    · exact h.vF k hk e
    · have := h.row.lt k hk; omega
  · rcases h2 bx e with e | e
    · exact h.bF e
    · have := heap_lt h.box; omega

end
end Go.Proofs.YtbgchhgdlceceaaGreatDoor.Vlt

namespace Go.Proofs.YtbgchhgdlceceaaGreatDoor.Subj

end Go.Proofs.YtbgchhgdlceceaaGreatDoor.Subj
