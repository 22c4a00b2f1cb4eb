/- Parts of the proof, joined: rillref.Safe: Crash, walked. -/
import Derived.Test.YtidacfhdhdnidaaGreatDoorVaultPlaysUptoM45
namespace Go.Proofs.YtidacfhdhdnidaaGreatDoor.Vlt
open Go.RowKit Heap Dsk Log Drw
open Subj (ML)
open Rec (Rc recErr recA rcOf codedL)
open Sto (ChAt NextCh tryD after runS runS_step RecsAt Fits parts sixC recV recsV recsV_append recsV_one try_ch apply_ch Right dist row_recs news_rec info_rec right_run dist_runS cells_rec)

section
variable {W w w1 : World} {F : Nat → Prop} {X E C : Nat} {room size : Int} {s : Vt}

def CrashS (W : World) (F : Nat → Prop) (X E : Nat) (room size : Int) (K : Nat) (s : Vt) (w : World) (e : Ending) (w' : World) : Prop :=
  e = .returned (.tuple #[]) ∧ ∃ F' C', SfAt W F' X E C' room size (crashV K s) w' ∧ (∀ k, F' k → F k ∨ w.heap.size ≤ k) ∧ Heap.Touch F w w'

def SL (W : World) (F : Nat → Prop) (X E C : Nat) (room size : Int) (A' : List FileP) (rs : List Rc) (n : Nat) (vr : Value) (w : World) (k : Nat) (wr : World) : Prop :=
  ∃ G v, SParts W G v X E C room size ⟨A', (runS (rs.take k)).1, (runS (rs.take k)).2⟩ wr ∧ (∀ j, G j ∨ own v j ∨ j = C ∨ j = X → F j ∨ w.heap.size ≤ j) ∧ Heap.Touch F w wr ∧ Row wr 33 6 vr n (recsV rs) ∧ (∀ j, own vr j → ¬ G j ∧ ¬ own v j ∧ j ≠ C ∧ j ≠ X)

theorem SL.fin {A' : List FileP} {rs : List Rc} {n : Nat} {vr : Value} {wr : World} (h : SL W F X E C room size A' rs n vr w rs.length wr) :
    ∃ F', SfAt W F' X E C room size ⟨A', (runS rs).1, (runS rs).2⟩ wr ∧ (∀ k, F' k → F k ∨ w.heap.size ≤ k) ∧ Heap.Touch F w wr := by
  obtain ⟨G, v, hP, hF, ht, _, _⟩ := h
  rw [List.take_length] at hP
  refine ⟨fun k => G k ∨ own v k ∨ k = C ∨ k = X, ⟨⟨G, v, hP, fun k hk => hk⟩, fun k hk => ?_, fun k hk => ?_⟩, hF, ht⟩
  · rcases hk with hk | hk | rfl | rfl
    · exact hP.drw.newG k hk
    · exact (hP.ch.mine k hk).1
    · exact hP.ch.old
    · exact hP.oldX
  · rcases hk with hk | hk | rfl | rfl
    · exact hP.ltG k hk
    · exact hP.ch.row.lt k hk
    · exact hP.ltC
    · exact hP.ltX

set_option maxHeartbeats 8000000 in
set_option maxRecDepth 100000 in
theorem crash_sf (h : SfAt W F X E C room size s w) (keep : Int) (hkp : -9223372036854775808 ≤ keep ∧ keep ≤ 9223372036854775807) (K : Nat) (hK : keep.toNat = K) (hlen : (openD (crashD s.A K)).1.length ≤ 100000) (hfit : ∀ r ∈ (openD (crashD s.A K)).1, Fits r) :
    Calls Tryz.prog 67 #[.pointer (some ⟨X, 0, none⟩), .int .i64 keep] w (CrashS W F X E room size K s w) := by
  obtain ⟨G, v, hP, hF⟩ := h.ex
  obtain ⟨c0, c1, c2, cf⟩ := threeC hP.cells
  have hcr := crash_drw hP.drw keep hkp
  rw [hK] at hcr
  have hcv : crashV K s = ⟨(openD (crashD s.A K)).2, (runS (openD (crashD s.A K)).1).1, (runS (openD (crashD s.A K)).1).2⟩ := rfl
  have HCV := Lib.hid hcv
  have HCR := Lib.hid hcr; have HH := Lib.hid h; have HP := Lib.hid (And.intro hP hF); have HFT := Lib.hid hfit
  obtain ⟨o, ho⟩ : ∃ o, openD (crashD s.A K) = o := ⟨_, rfl⟩
  have HO := Lib.hid ho
  rw [ho] at HFT hlen
  obtain ⟨n, hn⟩ : ∃ n, o.1.length = n := ⟨_, rfl⟩
  have HN := Lib.hid hn
  rw [hn] at hlen
  clear h hP hF hcr hfit hcv hn hK ho
  go_enter Tryz.func67, Tryz.ntmps67
  go_wp2_with fail
  refine HCR.out.mono ?_
  rintro e w1 ⟨rfl, hd1, ht1⟩
  obtain ⟨hP, hF⟩ := HP.out
  have hP1 := hP.drwS (hd1.mono (fun k hk => .inl hk) (fun k hk => hk.elim (hP.drw.newG k) fun e => Nat.le_trans hP.drw.below.size e)) ht1
  clear c0 c1 c2 cf
  obtain ⟨c0, c1, c2, cf⟩ := threeC hP1.cells
  have hop := opened_drw (A := crashD s.A K) hP1.drw hP1.ltG
  have HOP := Lib.hid hop; have HP1 := Lib.hid hP1
  have HT1 := Lib.hid (show Heap.Touch F w w1 from ht1.mono fun k _ hk => hF k (.inl hk))
  clear hd1 ht1 hP hF hP1 hop HCR
  go_wp2_with fail
  refine HOP.out.mono ?_
  rintro e w2 ⟨vr, G2, rfl, hd2, hG2, hr2, ho2, ht2⟩
  rw [HO.out] at hd2 hr2
  rw [HN.out] at hr2
  obtain ⟨va, vc, rfl⟩ := hr2.slice
  have hX2 : w2.heap[X]? = _ := (ht2.block X HP1.out.ltX HP1.out.gX).trans HP1.out.cells
  clear c0 c1 c2 cf
  obtain ⟨c0, c1, c2, cf⟩ := threeC hX2
  obtain ⟨C', hC'⟩ : ∃ C', w2.heap.size = C' := ⟨_, rfl⟩
  obtain ⟨w3, hw3⟩ : ∃ w3, w3 = (w2.setCell ⟨X, 1, none⟩ (.pointer (some ⟨w2.heap.size, 0, none⟩))).alloc (.cells #[.slice none 0 0, .int .i64 0] 31) := ⟨_, rfl⟩
  have h0 := Lib.hid (show SL W F X E C' room size o.2 o.1 n (.slice va n vc) w 0 w3 from by
    obtain ⟨hP, hF⟩ := HP.out
    have hX2l := heap_lt hX2
    have htS : Heap.Touch (fun k => k = X) w2 (w2.setCell ⟨X, 1, none⟩ (.pointer (some ⟨w2.heap.size, 0, none⟩))) := Heap.Touch.setCell (F := fun k => k = X) (p := ⟨X, 1, none⟩) (Heap.Touch.refl _ w2) (.inl rfl) _
    have hzS : (w2.setCell ⟨X, 1, none⟩ (.pointer (some ⟨w2.heap.size, 0, none⟩))).heap.size = w2.heap.size := by simp [World.setCell]
    have ht3 : Heap.Touch (fun k => k = X) w2 w3 := by rw [hw3]; exact htS.alloc _
    have hX3 : w3.heap[X]? = some (.cells #[.pointer (some ⟨E, 0, none⟩), .pointer (some ⟨C', 0, none⟩), .int .i64 size] 121 (0, 0)) := by
      rw [hw3, Below.heap_alloc _ _ _ (by rw [hzS]; exact hX2l), heap_setCell_same _ _ _ _ _ _ hX2, ← hC']; rfl
    have hC3 : w3.heap[C']? = some (.cells #[.slice none 0 0, .int .i64 0] 31 (0, 0)) := by
      have := heap_alloc_new (w2.setCell ⟨X, 1, none⟩ (.pointer (some ⟨w2.heap.size, 0, none⟩))) (.cells #[.slice none 0 0, .int .i64 0] 31)
      rw [hzS] at this
      rw [hw3, ← hC']; exact this
    have z0 := hP.drw.below.size; have z1 := HT1.out.size; have z2 := ht2.size; have z3 := ht3.size; have z4 := heap_lt hC3
    have hoX := hP.oldX
    have hX1l := HP1.out.ltX
    have hnX : ¬ G2 X := fun e => by
      rcases hG2 X e with e | e
      · exact HP1.out.gX e
      · omega
    have hbW : Below W.heap.size W w3 := hd2.below.trans (ht3.below (by have := hd2.below.size; omega) fun k hk => by omega)
    refine ⟨fun k => G2 k ∧ k < w2.heap.size, .slice none 0 0, ⟨hX3, (DrawAt.shrink hd2).kept hbW fun k hk hlt => ht3.block k hlt fun e => hnX (e ▸ hk.1), ⟨hC3, Row.nil _ _ _, by omega, fun k hk => by simp [own, Value.ownBlock] at hk, hbW⟩, fun k hk => by have := hk.2; omega, fun e => by have := e.2; omega, fun e => hnX e.1, fun k hk => by simp [own, Value.ownBlock] at hk, by omega, by simp [own, Value.ownBlock], hoX, hP.sz⟩, fun j hj => ?_, ?_, ?_, fun j hj => ?_⟩
    · rcases hj with hj | hj | rfl | rfl
      · rcases hG2 j hj.1 with e | e
        · exact e.1.imp (fun e => hF j (.inl e)) id
        · exact .inr (by omega)
      · simp [own, Value.ownBlock] at hj
      · exact .inr (by omega)
      · exact .inl (hF _ (.inr (.inr (.inr rfl))))
    · refine (HT1.out.trans ht2 fun k hk hf => ?_).trans ht3 fun k hk hf => ?_
      · rcases hf.1 with e | e
        · exact hF k (.inl e)
        · omega
      · subst hf; exact hF _ (.inr (.inr (.inr rfl)))
    · exact hr2.kept fun j hj hlt => ht3.block j hlt fun e => by have := (ho2 j hj).1; omega
    · have h1 := ho2 j hj
      have h2 := hr2.lt j hj
      exact ⟨fun e => h1.2 e.1, by simp [own, Value.ownBlock], by omega, by omega⟩)
  have HC := Lib.hid hC'
  have hXl := heap_lt hX2
  have hXn : X ≠ w2.heap.size := by omega
  clear hd2 hG2 hr2 ho2 ht2 hX2 hC' HOP HP1 HT1 HP
  go_upto_region 3 with fail
  rw [← hw3, HC.out]
  clear hw3 c0 c1 c2 cf hXl hXn
  go_wp2_with fail
  go_loopw [5] (fun i wr => ∃ k : Nat, k ≤ n ∧ i = .int .i64 k ∧ Hid (SL W F X E C' room size o.2 o.1 n (.slice va n vc) w k wr)) (fun i _ => n - (intOf i).toNat)
  case atStart => exact ⟨0, Nat.zero_le _, rfl, h0⟩
  case round =>
    obtain ⟨k, hk, rfl, HR⟩ := hrel
    clear h0
    obtain ⟨G, v, hP, hF, hT, hrow, hown⟩ := HR.out
    by_cases hlt : k < n
    · have hltz : (k : Int) < n := by omega
      obtain ⟨p, hp⟩ : ∃ p, o.1[k]? = some p := ⟨_, List.getElem?_eq_getElem (by rw [HN.out]; exact hlt)⟩
      obtain ⟨g, off, rfl⟩ : ∃ g off, va = some ⟨g, off, none⟩ := by
        rcases hrow.2 with ⟨e, e0⟩ | ⟨g, off, cap, cur, e, _⟩
        · omega
        · simp only [Value.slice.injEq] at e
          exact ⟨g, off, e.1⟩
      obtain ⟨m0, m1, m2, m3, m4, m5⟩ := cells_rec hrow k p hp hlt
      have hfp := HFT.out p (List.mem_of_getElem? hp)
      obtain ⟨sb, hd, d, hpp⟩ := parts p
      have hrv : recV p = .agg #[.int .i64 p.kind, .int .i64 p.seq, .int .i64 p.time, .string sb, .string hd, .string d] := by rw [← hpp.s1, ← hpp.h1, ← hpp.d1]; rfl
      rw [hpp.s1] at m3
      rw [hpp.h1] at m4
      rw [hpp.d1] at m5
      obtain ⟨c0, c1, c2, cf⟩ := threeC hP.cells
      obtain ⟨xa, hxa⟩ : ∃ xa, xa = wr.drew := ⟨_, rfl⟩
      have hbx2 : Below wr.heap.size wr xa := by rw [hxa]; exact (Below.refl _ _).drew
      have hPa := hP.low hbx2
      obtain ⟨I, hI⟩ := right_run (o.1.take k)
      have hAP := apply_ch hPa.ch hI (dist_runS _) p hfp
      rw [hrv] at hAP
      have HAP := Lib.hid hAP; have HPA := Lib.hid hPa; have HPP := Lib.hid hp
      have HRA := Lib.hid (And.intro hF (And.intro (hT.after (Heap.Touch.ofBelow hbx2)) (And.intro (hrow.kept (w' := xa) fun j _ hj => hbx2.block j hj) hown)))
      clear hp hfp hrv hpp hbx2 hPa hAP hP hF hT hrow hown HR hI
      go_wp2_with fail
      go_still_tail 8, (by kernel_rfl)
      change wpList _ _ _ _ _ wr.drew
      rw [← hxa]
      clear hxa
      go_wp2_with fail
      refine HAP.out.mono ?_
      rintro e w5 ⟨rfl, hn5⟩
      have HNX := Lib.hid (show SL W F X E C' room size o.2 o.1 n (.slice (some ⟨g, off, none⟩) n vc) w (k + 1) w5 from by
        obtain ⟨hF, hT, hrow, hown⟩ := HRA.out
        obtain ⟨v', hP', ho'⟩ := HPA.out.chS hn5
        obtain ⟨_, _, ht5, _⟩ := hn5
        refine ⟨G, v', ?_, fun j hj => ?_, hT.trans ht5 fun j hj hf => ?_, hrow.kept fun j hj hlt => ht5.block j hlt fun e => ?_, fun j hj => ⟨(hown j hj).1, fun e => ?_, (hown j hj).2.2⟩⟩
        · rw [runS_step HPP.out]
          exact hP'
        · rcases hj with hj | hj | hj
          · exact hF j (.inl hj)
          · rcases ho' j hj with e | e
            · exact hF j (.inr (.inl e))
            · exact .inr (Nat.le_trans hT.size e)
          · exact hF j (.inr (.inr hj))
        · rcases hf with rfl | hf
          · rcases hF _ (.inr (.inr (.inl rfl))) with e | e
            · exact e
            · omega
          · rcases hF j (.inr (.inl hf)) with e | e
            · exact e
            · omega
        · rcases e with rfl | e
          · exact (hown _ hj).2.2.1 rfl
          · exact (hown j hj).2.1 e
        · rcases ho' j e with e | e
          · exact (hown j hj).2.1 e
          · have := hrow.lt j hj; omega)
      clear hn5 HAP HPA HRA c0 c1 c2 cf m0 m1 m2 m3 m4 m5
      go_wp2_with fail
      exact ⟨⟨k + 1, by omega, by go_num, HNX⟩, by simp [intOf]; omega⟩
    · have hltz : ¬ (k : Int) < n := by omega
      obtain rfl : k = n := by omega
      have HFI := Lib.hid (show CrashS W F X E room size K s w (.returned (.tuple #[])) wr from by
        have h9 := HR.out
        rw [← HN.out] at h9
        obtain ⟨F', h1, h2, h3⟩ := h9.fin
        refine ⟨rfl, F', C', ?_, h2, h3⟩
        rw [HCV.out, HO.out]
        exact h1)
      clear hP hF hT hrow hown HR
      go_wp2_with fail
      go_end0
      exact HFI.out
end
end Go.Proofs.YtidacfhdhdnidaaGreatDoor.Vlt
