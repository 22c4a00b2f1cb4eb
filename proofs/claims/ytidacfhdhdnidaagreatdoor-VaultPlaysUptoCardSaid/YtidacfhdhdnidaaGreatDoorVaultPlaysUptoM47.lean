/- Parts of the proof, joined: The law VaultPlays, walked: it returns true.; The frame of a law's row, whatever its parameters: a call that returns true and turns nothing below the heap's old size meets the row's post; and what a reading of an argument tells of the argument's cells. Over any program. -/
import Derived.Test.YtidacfhdhdnidaaGreatDoorVaultPlaysUptoM46
import Derived.Test.YtidacfhdhdnidaaGreatDoorRows
import Derived.Carry
import Derived.WideKeyArgs
import Derived.SizedLaws
import Derived.OpenShut
namespace Go.Proofs.YtidacfhdhdnidaaGreatDoor.Vlt
open Go.RowKit Heap Dsk Log Drw
open Subj (ML)
open Rec (Rc recErr)
open Sto (StoreAt ChAt BothAt runS RecsAt Fits parts sixC recV recsV fourS Right same_walk dist)

/-- A vault and the reference's one, side by side. -/
structure Pw (W : World) (F F2 : Nat → Prop) (V D G S B X E C : Nat) (room size : Int) (s s' : Vt) (w : World) : Prop where
  vlt : VAt W F V D G S B room size s w
  saf : SfAt W F2 X E C room size s' w
  apart : ∀ k, F k → ¬ F2 k

section
variable {W w w1 : World} {F F2 : Nat → Prop} {V D G S B B' X E C G' S' C' : Nat} {room size : Int} {s s' s1 : Vt}

theorem Pw.next (h : Pw W F F2 V D G S B X E C room size s s' w) (hb : Below w.heap.size w w1) : Pw W F F2 V D G S B X E C room size s s' w1 := ⟨h.vlt.low hb, h.saf.low hb, h.apart⟩
theorem Pw.below (h : Pw W F F2 V D G S B X E C room size s s' w) : Below W.heap.size W w := h.vlt.below

theorem Pw.turnV {F' : Nat → Prop} (h : Pw W F F2 V D G S B X E C room size s s' w) (hv : VAt W F' V D G' S' B' room size s1 w1) (hF : ∀ k, F' k → F k ∨ w.heap.size ≤ k) (ht : Heap.Touch F w w1) : Pw W F' F2 V D G' S' B' X E C room size s1 s' w1 :=
  ⟨hv, h.saf.kept hv.below ht.size fun k hk hlt => ht.block k hlt fun e => h.apart k e hk, fun k hk e => by
    rcases hF k hk with x | x
    · exact h.apart k x e
    · have := h.saf.bF k e; omega⟩

theorem Pw.turnS {F' : Nat → Prop} (h : Pw W F F2 V D G S B X E C room size s s' w) (hv : SfAt W F' X E C' room size s1 w1) (hF : ∀ k, F' k → F2 k ∨ w.heap.size ≤ k) (ht : Heap.Touch F2 w w1) : Pw W F F' V D G S B X E C' room size s s1 w1 :=
  ⟨h.vlt.kept hv.below ht.size fun k hk hlt => ht.block k hlt (h.apart k hk), hv, fun k hk e => by
    rcases hF k e with x | x
    · exact h.apart k hk x
    · have := h.vlt.bF k hk; omega⟩

theorem Pw.both (h : Pw W F F2 V D G S B X E C room size s s w) : ∃ F0 v, BothAt W F0 S B C v s.L s.last s.L s.last w := by
  obtain ⟨F1, F0, hP, hF⟩ := h.vlt.ex
  obtain ⟨G0, v, hQ, hG⟩ := h.saf.ex
  exact ⟨F0, v, hP.store, hQ.ch, fun e => h.apart C (hF C (.inr (.inl e))) (hG C (.inr (.inr (.inl rfl)))), fun k hk e => h.apart k (hF k (.inr (.inl e))) (hG k (.inr (.inl hk)))⟩

theorem Pw.same (h : Pw W F F2 V D G S B X E C room size s s w) (hB : B ≤ 60000) (hm : ML W) (hds : dist s.L ≤ 100) (f : ByteArray) (hf : f.size ≤ 1048576) (n : Int) (hn : -9223372036854775808 ≤ n ∧ n ≤ 9223372036854775807) :
    Calls Tryz.prog 69 #[.pointer (some ⟨S, 0, none⟩), .pointer (some ⟨C, 0, none⟩), .string f, .int .i64 n] w fun e w' => e = .returned (.bool true) ∧ Below w.heap.size w w' := by
  obtain ⟨F0, v, hb⟩ := h.both
  exact same_walk hb (by omega) hm hds f hf n hn

set_option maxRecDepth 100000 in
theorem used_sf (h : SfAt W F X E C room size s w) : Calls Tryz.prog 66 #[.pointer (some ⟨E, 0, none⟩)] w fun e w' => e = .returned (.int .i64 (total s.A : Nat)) ∧ w = w' := by
  obtain ⟨G, v, hP, _⟩ := h.ex
  exact used_drw hP.drw

theorem safe_new (hb : Below w.heap.size w w1) (hr : 1 ≤ room ∧ room ≤ 65536) (hs : 1 ≤ size ∧ size ≤ 4096) :
    SfAt w (fun k => w1.heap.size ≤ k ∧ k < w1.heap.size + 3) (w1.heap.size + 2) w1.heap.size (w1.heap.size + 1) room size ⟨[], [], 0⟩
      (((w1.alloc (.cells #[.int .i64 room, .slice none 0 0] 84)).alloc (.cells #[.slice none 0 0, .int .i64 0] 31)).alloc (.cells #[.pointer (some ⟨w1.heap.size, 0, none⟩), .pointer (some ⟨w1.heap.size + 1, 0, none⟩), .int .i64 size] 121)) := by
  obtain ⟨wa, hwa⟩ : ∃ wa, wa = w1.alloc (.cells #[.int .i64 room, .slice none 0 0] 84) := ⟨_, rfl⟩
  obtain ⟨wb, hwb⟩ : ∃ wb, wb = wa.alloc (.cells #[.slice none 0 0, .int .i64 0] 31) := ⟨_, rfl⟩
  obtain ⟨wc, hwc⟩ : ∃ wc, wc = wb.alloc (.cells #[.pointer (some ⟨w1.heap.size, 0, none⟩), .pointer (some ⟨w1.heap.size + 1, 0, none⟩), .int .i64 size] 121) := ⟨_, rfl⟩
  rw [← hwa, ← hwb, ← hwc]
  have za : wa.heap.size = w1.heap.size + 1 := by rw [hwa]; simp
  have zb : wb.heap.size = wa.heap.size + 1 := by rw [hwb]; simp
  have zc : wc.heap.size = wb.heap.size + 1 := by rw [hwc]; simp
  have ba : Below w1.heap.size w1 wa := by rw [hwa]; exact (Below.refl _ _).alloc (Nat.le_refl _) _
  have bb : Below wa.heap.size wa wb := by rw [hwb]; exact (Below.refl _ _).alloc (Nat.le_refl _) _
  have bc : Below wb.heap.size wb wc := by rw [hwc]; exact (Below.refl _ _).alloc (Nat.le_refl _) _
  have ea : wa.heap[w1.heap.size]? = some (.cells #[.int .i64 room, .slice none 0 0] 84 (0, 0)) := by rw [hwa]; exact heap_alloc_new w1 _
  have eb : wb.heap[wa.heap.size]? = some (.cells #[.slice none 0 0, .int .i64 0] 31 (0, 0)) := by rw [hwb]; exact heap_alloc_new wa _
  have ec : wc.heap[wb.heap.size]? = some (.cells #[.pointer (some ⟨w1.heap.size, 0, none⟩), .pointer (some ⟨w1.heap.size + 1, 0, none⟩), .int .i64 size] 121 (0, 0)) := by rw [hwc]; exact heap_alloc_new wb _
  have hzw := hb.size
  have hbc : Below w.heap.size w wc := ((hb.trans (ba.mono hzw)).trans (bb.mono (by omega))).trans (bc.mono (by omega))
  have ea2 : wc.heap[w1.heap.size]? = _ := ((bc.block w1.heap.size (by omega)).trans (bb.block w1.heap.size (by omega))).trans ea
  rw [za] at eb
  have eb2 : wc.heap[w1.heap.size + 1]? = _ := (bc.block (w1.heap.size + 1) (by omega)).trans eb
  refine ⟨⟨fun k => k = w1.heap.size, .slice none 0 0, ⟨by rw [show w1.heap.size + 2 = wb.heap.size by omega]; exact ec, ⟨⟨List.Pairwise.nil, by decide, by simp [total]; omega, hr.2, (fun _ h => by cases h), (fun _ h => by cases h)⟩, hbc, fun k hk => by omega, rfl, _, ea2, Row.nil _ _ _, fun k hk => by simp [own, Value.ownBlock] at hk⟩, ⟨eb2, Row.nil _ _ _, by omega, fun k hk => by simp [own, Value.ownBlock] at hk, hbc⟩, fun k hk => by omega, by omega, by omega, fun k hk => by simp [own, Value.ownBlock] at hk, by omega, by simp [own, Value.ownBlock], by omega, hs⟩, fun k hk => ?_⟩, fun k hk => by omega, fun k hk => by omega⟩
  rcases hk with hk | hk | hk | hk
  · omega
  · simp [own, Value.ownBlock] at hk
  · omega
  · omega

/-- All that stands between two rounds. -/
def Pv (w : World) (V D X E k : Nat) (room size : Int) (wr : World) : Prop := ∃ F F2 G S C s, Pw w F F2 V D G S (5000 + 16 * k) X E C room size s s wr ∧ Whole (201 + k) s

set_option maxHeartbeats 8000000 in
set_option maxRecDepth 100000 in
theorem vaultPlays_walk (hm : ML w) {v : Value} {l : List Rc} (hl : RecsAt w v l) (hf : ∀ r ∈ l, Fits r) (room size : Int) (f : ByteArray) (hfz : f.size ≤ 1048576) (q : Int) (hq : -9223372036854775808 ≤ q ∧ q ≤ 9223372036854775807) :
    Calls Tryz.prog 8 #[.int .i64 room, .int .i64 size, v, .string f, .int .i64 q] w fun e w' => e = .returned (.bool true) ∧ Below w.heap.size w w' := by
  obtain ⟨n, hnL⟩ : ∃ n, l.length = n := ⟨_, rfl⟩
  have HN := Lib.hid hnL
  obtain ⟨ao, cap, rfl, ha⟩ := hl
  have HL := Lib.hid (show RecsAt w (.slice ao l.length cap) l from ⟨ao, cap, rfl, ha⟩); have HF := Lib.hid hf; have HML := Lib.hid hm; have HQ := Lib.hid hq
  rw [hnL] at HL ⊢
  clear ha hf hnL hq
  by_cases hok : (1 ≤ room ∧ room ≤ 65536) ∧ 1 ≤ size ∧ size ≤ 4096
  · have HNW := Lib.hid (new_vlt (W := w) (w := w) (Below.refl _ _) hm room size hok.1.1 hok.1.2 hok.2)
    have HI1 := Lib.hid fun w => in_yes room 1 65536 w hok.1
    have HI2 := Lib.hid fun w => in_yes size 1 4096 w hok.2
    have HSZ := Lib.hid hok
    clear hm hok
    go_enter Tryz.func8, Tryz.ntmps8
    go_wp2_with fail
    refine HNW.out.mono ?_
    rintro e w1 ⟨F, V, D, G, S, rfl, h1, hF1, hb1⟩
    have H1 := Lib.hid h1
    clear h1 hF1 HNW
    go_wp2_with fail
    refine (HI1.out _).mono ?_
    rintro e w' ⟨rfl, rfl⟩
    go_wp2_with fail
    refine (HI2.out _).mono ?_
    rintro e w' ⟨rfl, rfl⟩
    clear HI1 HI2
    by_cases h60 : 60 < n
    · have h60z : (60 : Int) < n := by omega
      go_wp2_with fail
      go_ret
      exact ⟨rfl, H1.out.below⟩
    · have h60z : ¬ (60 : Int) < n := by omega
      obtain ⟨w2, hw2⟩ : ∃ w2, w2 = ((w1.alloc (.cells #[.int .i64 room, .slice none 0 0] 84)).alloc (.cells #[.slice none 0 0, .int .i64 0] 31)).alloc (.cells #[.pointer (some ⟨w1.heap.size, 0, none⟩), .pointer (some ⟨w1.heap.size + 1, 0, none⟩), .int .i64 size] 121) := ⟨_, rfl⟩
      have hsf := safe_new hb1 HSZ.out.1 HSZ.out.2
      rw [← hw2] at hsf
      have hb2 : Below w1.heap.size w1 w2 := by
        rw [hw2]
        exact (((Below.refl _ _).alloc (Nat.le_refl _) _).alloc (by simp) _).alloc (by simp; omega) _
      have h0 := Lib.hid (show Pv w V D (w1.heap.size + 2) w1.heap.size 0 room size w2 from
        ⟨F, _, G, S, _, _, ⟨(H1.out.low hb2).more (by omega), hsf, fun k hk e => by have := H1.out.bF k hk; omega⟩, Whole.new.mono (by omega)⟩)
      obtain ⟨E, hE⟩ : ∃ E, w1.heap.size = E := ⟨_, rfl⟩
      obtain ⟨X, hX⟩ : ∃ X, E + 2 = X := ⟨_, rfl⟩
      rw [hE, hX] at h0
      have HE := Lib.hid hE; have HX := Lib.hid hX
      clear hsf hb2 hE hX H1 hb1
      go_upto_region 7 with fail
      rw [← hw2, HE.out, HX.out]
      clear hw2
      go_wp2_with fail
      go_loopw [62] (fun i wr => ∃ k : Nat, k ≤ n ∧ i = .int .i64 k ∧ Hid (Pv w V D X E k room size wr)) (fun i _ => n - (intOf i).toNat)
      case atStart => exact ⟨0, Nat.zero_le _, rfl, h0⟩
      case round =>
        obtain ⟨k, hk, rfl, HR⟩ := hrel
        clear h0
        by_cases hlt : k < n
        · have hltz : (k : Int) < n := by omega
          obtain ⟨F, F2, G, S, C, s, hP, hW⟩ := HR.out
          obtain ⟨p, hp⟩ : ∃ p, l[k]? = some p := ⟨_, List.getElem?_eq_getElem (by rw [HN.out]; exact hlt)⟩
          have hlr := HL.out.below hP.below (Nat.le_refl _)
          obtain ⟨ao', cap', hv, ha⟩ := hlr
          rw [HN.out] at hv
          simp only [Value.slice.injEq, true_and] at hv
          obtain ⟨rfl, rfl⟩ := hv
          obtain ⟨g, off, rfl, hcs⟩ := ha (fun e => by rw [e] at hp; simp at hp)
          obtain ⟨m0, m1, m2, m3, m4, m5⟩ := hcs k p hp
          have hfp := HF.out p (List.mem_of_getElem? hp)
          obtain ⟨sb, hd, d, hpp⟩ := parts p
          have hrv : recV p = .agg #[.int .i64 p.kind, .int .i64 p.seq, .int .i64 p.time, .string sb, .string hd, .string d] := by rw [← hpp.s1, ← hpp.h1, ← hpp.d1]; rfl
          rw [hpp.s1] at m3
          rw [hpp.h1] at m4
          rw [hpp.d1] at m5
          obtain ⟨wa, hwa⟩ : ∃ wa, wa = wr.alloc (.cells #[.int .i64 p.kind, .int .i64 p.seq, .int .i64 p.time, .string sb, .string hd, .string d] 33) := ⟨_, rfl⟩
          have hba : Below wr.heap.size wr wa := by rw [hwa]; exact (Below.refl _ _).alloc (Nat.le_refl _) _
          have hea : wa.heap[wr.heap.size]? = some (.cells #[.int .i64 p.kind, .int .i64 p.seq, .int .i64 p.time, .string sb, .string hd, .string d] 33 (0, 0)) := by rw [hwa]; exact heap_alloc_new wr _
          obtain ⟨bx, hbx⟩ : ∃ bx, wr.heap.size = bx := ⟨_, rfl⟩
          rw [hbx] at hea
          have hnb : ¬ F bx := fun e => by have := hP.vlt.bF bx e; omega
          have hnb2 : ¬ F2 bx := fun e => by have := hP.saf.bF bx e; omega
          have hPa := (hP.next hba).next ((Below.refl _ _).drew)
          have hea2 : wa.drew.heap[bx]? = _ := hea
          obtain ⟨o, ho⟩ : ∃ o, doV room size s p = o := ⟨_, rfl⟩
          have hdo := do_any hPa.vlt (by omega) HML.out p hfp
          rw [hrv, ho] at hdo
          have hds := hW.dist
          obtain ⟨I, hR⟩ := hPa.vlt.right
          have HDS := Lib.hid (show ∀ (Fx : Nat → Prop) (w' : World), SfAt w Fx X E C room size s w' → Calls Tryz.prog 65 #[.pointer (some ⟨X, 0, none⟩), .agg #[.int .i64 p.kind, .int .i64 p.seq, .int .i64 p.time, .string sb, .string hd, .string d]] w' (SPost w Fx X E C room size w' o) from fun Fx w' h => by
            have := do_sf h hR hds p hfp
            rw [hrv, ho] at this
            exact this)
          have hw1 := hW.do_ (room := room) (size := size) (r := p) hP.vlt.sorted
          rw [ho] at hw1
          have HW1 := Lib.hid hw1
          obtain ⟨q0, q1, q2, q3, q4, q5⟩ := sixC hea
          obtain ⟨y0, y1, y2, yf⟩ := threeC (cellsX (hP.next hba).saf)
          obtain ⟨z0, z1, z2, z3, z4, z5⟩ := sixC hea2
          obtain ⟨x0, x1, x2, xf⟩ := threeC (cellsX hPa.saf)
          have HDO := Lib.hid hdo; have HBX := Lib.hid hbx; have HPA := Lib.hid hPa; have HEA := Lib.hid hea2; have HNB := Lib.hid (And.intro hnb hnb2)
          clear hp ha hcs hfp hrv hpp hea hea2 hbx hdo hP hW hPa hba HR ho hw1 hds hR hnb hnb2
          go_upto_region 10 with fail
          rw [← hwa, HBX.out]
          clear hwa m0 m1 m2 m3 m4 m5
          go_region_held3 (fun w' => w'.cell? ⟨bx, 0, none⟩ = some (.int .i64 p.kind) ∧ w'.cell? ⟨bx, 1, none⟩ = some (.int .i64 p.seq) ∧ w'.cell? ⟨bx, 2, none⟩ = some (.int .i64 p.time) ∧ w'.cell? ⟨bx, 3, none⟩ = some (.string sb) ∧ w'.cell? ⟨bx, 4, none⟩ = some (.string hd) ∧ w'.cell? ⟨bx, 5, none⟩ = some (.string d) ∧ w'.cell? ⟨X, 0, none⟩ = some (.pointer (some ⟨E, 0, none⟩))) (first | (with_reducible exact ⟨q0, q1, q2, q3, q4, q5, y0⟩) | (with_reducible exact ⟨z0, z1, z2, z3, z4, z5, x0⟩) | (with_reducible exact ⟨r0, r1, r2, r3, r4, r5, s0⟩) | (with_reducible exact ⟨t0, t1, t2, t3, t4, t5, u0⟩) | go_keep)
            (first
              | (go_at_call 58; ((refine HDO.out.mono ?_); rintro e w5 ⟨rfl, ⟨F5, h5, hF5⟩, ht5⟩; have hP5 := HPA.out.turnV h5 hF5 ht5; have e5 : w5.heap[bx]? = _ := (ht5.block bx (heap_lt HEA.out) HNB.out.1).trans HEA.out; obtain ⟨r0, r1, r2, r3, r4, r5⟩ := sixC e5; obtain ⟨s0, s1, s2, sf⟩ := threeC (cellsX hP5.saf)))
              | (go_at_call 65; ((refine (HDS.out _ _ hP5.saf).mono ?_); rintro e w6 ⟨rfl, ⟨F6, h6, hF6⟩, ht6⟩; have hP6 := hP5.turnS h6 hF6 ht6; have e6 : w6.heap[bx]? = _ := (ht6.block bx (heap_lt e5) HNB.out.2).trans e5; obtain ⟨t0, t1, t2, t3, t4, t5⟩ := sixC e6; obtain ⟨u0, u1, u2, uf⟩ := threeC (cellsX hP6.saf)))
              | (go_at_call 60; ((refine (used_vlt hP6.vlt).mono ?_); rintro e w' ⟨rfl, rfl⟩))
              | (go_at_call 66; ((refine (used_sf hP6.saf).mono ?_); rintro e w' ⟨rfl, rfl⟩)))
          obtain ⟨tm, htm⟩ : ∃ tm, p.time % 6 = tm := ⟨_, rfl⟩
          have HTM := Lib.hid htm
          have HRE := Lib.hid fun w => Pack.rest_any p.time 6 w (by omega) (by omega)
          rw [htm] at HRE
          have HP6 := Lib.hid hP6
          clear hP6 hP5 e5 e6 ht5 ht6 hF5 hF6 h5 h6 htm r0 r1 r2 r3 r4 r5 s0 s1 s2 sf t0 t1 t3 t4 t5 u0 u1 u2 uf z0 z1 z2 z3 z4 z5 x0 x1 x2 xf q0 q1 q2 q3 q4 q5 y0 y1 y2 yf HDO HDS HPA HEA HNB HTM
          go_wp2_with fail
          refine (HRE.out _).mono ?_
          rintro e w' ⟨rfl, rfl⟩
          clear HRE t2
          by_cases t1 : tm = 1
          · subst t1
            obtain ⟨K, hK⟩ : ∃ K, q.toNat = K := ⟨_, rfl⟩
            have htold := HW1.out.told K
            have HCR := Lib.hid (crash_vlt HP6.out.vlt HML.out q K hK (by omega) fun r hr => fits_ok (htold.2 r hr))
            have HTD := Lib.hid htold; have HKK := Lib.hid hK
            clear htold hK
            go_wp2_with fail
            refine HCR.out.mono ?_
            rintro e w7 ⟨rfl, F7, G7, S7, h7, hF7, ht7⟩
            rw [HW1.out.crash] at h7
            have hP7 := HP6.out.turnV h7 hF7 ht7
            have HP7 := Lib.hid hP7
            have HCS := Lib.hid (crash_sf hP7.saf q HQ.out K HKK.out (by have := HTD.out.1; omega) fun r hr => fits_ok (HTD.out.2 r hr))
            clear h7 hF7 ht7 hP7 HCR
            go_wp2_with fail
            refine HCS.out.mono ?_
            rintro e w9 ⟨rfl, F8, C9, h8, hF8, ht8⟩
            rw [HW1.out.crash] at h8
            obtain ⟨s9, hs9⟩ : ∃ s9, o.1 = s9 := ⟨_, rfl⟩
            have h9 := HP7.out.turnS h8 hF8 ht8
            have hl9 := HTD.out.1
            have hw9 := HW1.out
            rw [hs9] at h9 hw9 hl9
            have h9 : Pw w F7 F8 V D G7 S7 (5000 + 16 * (k + 1)) X E C9 room size s9 s9 w9 := ⟨h9.vlt.more (by omega), h9.saf, h9.apart⟩
            have hw9 : Whole (201 + (k + 1)) s9 := hw9.mono (by omega)
            clear h8 hF8 ht8 hs9 HCS HP7 HP6 HTD HW1 hl9
            have HP9 := Lib.hid (show ∀ w', Below w9.heap.size w9 w' → Pw w F7 F8 V D G7 S7 (5000 + 16 * (k + 1)) X E C9 room size s9 s9 w' from fun w' hb => h9.next hb)
            have HX9 := Lib.hid (show ∀ w', Below w9.heap.size w9 w' → w'.cell? ⟨X, 0, none⟩ = some (.pointer (some ⟨E, 0, none⟩)) ∧ w'.cell? ⟨X, 1, none⟩ = some (.pointer (some ⟨C9, 0, none⟩)) from fun w' hb => by
              obtain ⟨c0, c1, c2, cf⟩ := threeC (cellsX (h9.next hb).saf)
              exact ⟨c0, c1⟩)
            have HDS9 := Lib.hid hw9.dist
            have HB9 : 5000 + 16 * (k + 1) ≤ 60000 := by omega
            have HPV := Lib.hid (show ∀ w', Below w9.heap.size w9 w' → Pv w V D X E (k + 1) room size w' from fun w' hb => ⟨_, _, _, _, _, _, h9.next hb, hw9⟩)
            obtain ⟨us9, hus9⟩ : ∃ us9, total s9.A = us9 := ⟨_, rfl⟩
            have HUS9 := Lib.hid hus9
            have hbd9 : Below w9.heap.size w9 w9.drew := (Below.refl _ _).drew
            clear h9 hw9 hus9
            go_upto_region 19 with fail
            go_region_held3 (fun w' => w'.cell? ⟨X, 0, none⟩ = some (.pointer (some ⟨E, 0, none⟩)) ∧ w'.cell? ⟨X, 1, none⟩ = some (.pointer (some ⟨C9, 0, none⟩))) (first | (with_reducible exact HX9.out _ hbd9) | (with_reducible exact HX9.out _ (Below.refl _ _)) | (with_reducible exact HX9.out _ (by assumption)) | go_keep)
              (first
                | (go_at_call 61; ((refine (store_vlt (HP9.out _ hbd9).vlt).mono ?_); rintro e w' ⟨rfl, rfl⟩))
                | (go_at_call 69; ((refine ((HP9.out _ hbd9).same HB9 HML.out HDS9.out f hfz q HQ.out).mono ?_); rintro e wS ⟨rfl, hbS⟩; have hbS2 := low_to (w0 := w9) hbd9 hbS; clear hbS))
                | (go_at_call 60; ((have hus := used_vlt (HP9.out _ hbS2).vlt); rw [HUS9.out] at hus; (refine hus.mono ?_); clear hus; rintro e w' ⟨rfl, rfl⟩))
                | (go_at_call 66; ((have hus := used_sf (HP9.out _ hbS2).saf); rw [HUS9.out] at hus; (refine hus.mono ?_); clear hus; rintro e w' ⟨rfl, rfl⟩)))
            have HNX := Lib.hid (HPV.out _ hbS2)
            clear HP9 HX9 HDS9 HPV hbd9 hbS2
            go_wp2_with fail
            exact ⟨⟨k + 1, by omega, by go_num, HNX⟩, by simp [intOf]; omega⟩
          · by_cases t3 : tm = 3
            · subst t3
              have hco := compact_any HP6.out.vlt HML.out
              obtain ⟨o2, ho2⟩ : ∃ o2, compV room size o.1 = o2 := ⟨_, rfl⟩
              rw [ho2] at hco
              obtain ⟨I, hR⟩ := HP6.out.vlt.right
              have hwc := HW1.out.comp (room := room) (size := size) hR
              rw [ho2] at hwc
              have HCO := Lib.hid hco; have HO2 := Lib.hid ho2; have HRR := Lib.hid hR; have HWC := Lib.hid hwc
              clear hco ho2 hR hwc t1
              go_wp2_with fail
              refine HCO.out.mono ?_
              rintro e w7 ⟨rfl, ⟨F7, h7, hF7⟩, ht7⟩
              have hP7 := HP6.out.turnV h7 hF7 ht7
              have hcs := compact_sf hP7.saf HRR.out
              rw [HO2.out] at hcs
              have HP7 := Lib.hid hP7; have HCS := Lib.hid hcs
              clear h7 hF7 ht7 hP7 hcs HCO
              go_wp2_with fail
              refine HCS.out.mono ?_
              rintro e w9 ⟨rfl, ⟨F8, h8, hF8⟩, ht8⟩
              obtain ⟨s9, hs9⟩ : ∃ s9, o2.1 = s9 := ⟨_, rfl⟩
              have h9 := HP7.out.turnS h8 hF8 ht8
              have hw9 := HWC.out
              rw [hs9] at h9 hw9
              have h9 : Pw w F7 F8 V D G S (5000 + 16 * (k + 1)) X E C room size s9 s9 w9 := ⟨h9.vlt.more (by omega), h9.saf, h9.apart⟩
              have hw9 : Whole (201 + (k + 1)) s9 := hw9.mono (by omega)
              clear h8 hF8 ht8 hs9 HCS HP7 HP6 HW1 HWC HRR HO2
              have HP9 := Lib.hid (show ∀ w', Below w9.heap.size w9 w' → Pw w F7 F8 V D G S (5000 + 16 * (k + 1)) X E C room size s9 s9 w' from fun w' hb => h9.next hb)
              have HX9 := Lib.hid (show ∀ w', Below w9.heap.size w9 w' → w'.cell? ⟨X, 0, none⟩ = some (.pointer (some ⟨E, 0, none⟩)) ∧ w'.cell? ⟨X, 1, none⟩ = some (.pointer (some ⟨C, 0, none⟩)) from fun w' hb => by
                obtain ⟨c0, c1, c2, cf⟩ := threeC (cellsX (h9.next hb).saf)
                exact ⟨c0, c1⟩)
              have HDS9 := Lib.hid hw9.dist
              have HB9 : 5000 + 16 * (k + 1) ≤ 60000 := by omega
              have HPV := Lib.hid (show ∀ w', Below w9.heap.size w9 w' → Pv w V D X E (k + 1) room size w' from fun w' hb => ⟨_, _, _, _, _, _, h9.next hb, hw9⟩)
              obtain ⟨us9, hus9⟩ : ∃ us9, total s9.A = us9 := ⟨_, rfl⟩
              have HUS9 := Lib.hid hus9
              have hbd9 : Below w9.heap.size w9 w9.drew := (Below.refl _ _).drew
              clear h9 hw9 hus9
              go_upto_region 19 with fail
              go_region_held3 (fun w' => w'.cell? ⟨X, 0, none⟩ = some (.pointer (some ⟨E, 0, none⟩)) ∧ w'.cell? ⟨X, 1, none⟩ = some (.pointer (some ⟨C, 0, none⟩))) (first | (with_reducible exact HX9.out _ hbd9) | (with_reducible exact HX9.out _ (Below.refl _ _)) | (with_reducible exact HX9.out _ (by assumption)) | go_keep)
                (first
                  | (go_at_call 61; ((refine (store_vlt (HP9.out _ hbd9).vlt).mono ?_); rintro e w' ⟨rfl, rfl⟩))
                  | (go_at_call 69; ((refine ((HP9.out _ hbd9).same HB9 HML.out HDS9.out f hfz q HQ.out).mono ?_); rintro e wS ⟨rfl, hbS⟩; have hbS2 := low_to (w0 := w9) hbd9 hbS; clear hbS))
                  | (go_at_call 60; ((have hus := used_vlt (HP9.out _ hbS2).vlt); rw [HUS9.out] at hus; (refine hus.mono ?_); clear hus; rintro e w' ⟨rfl, rfl⟩))
                  | (go_at_call 66; ((have hus := used_sf (HP9.out _ hbS2).saf); rw [HUS9.out] at hus; (refine hus.mono ?_); clear hus; rintro e w' ⟨rfl, rfl⟩)))
              have HNX := Lib.hid (HPV.out _ hbS2)
              clear HP9 HX9 HDS9 HPV hbd9 hbS2
              go_wp2_with fail
              exact ⟨⟨k + 1, by omega, by go_num, HNX⟩, by simp [intOf]; omega⟩
            · have b1 : ((tm : Int) == 1) = false := by simpa using t1
              have b3 : ((tm : Int) == 3) = false := by simpa using t3
              obtain ⟨s9, hs9⟩ : ∃ s9, o.1 = s9 := ⟨_, rfl⟩
              have h9 := HP6.out
              have hw9 := HW1.out
              rw [hs9] at h9 hw9
              obtain ⟨w9, hw9e⟩ : ∃ w9, w6 = w9 := ⟨_, rfl⟩
              rw [hw9e] at h9 ⊢
              have h9 : Pw w F5 F6 V D G S (5000 + 16 * (k + 1)) X E C room size s9 s9 w9 := ⟨h9.vlt.more (by omega), h9.saf, h9.apart⟩
              have hw9 : Whole (201 + (k + 1)) s9 := hw9.mono (by omega)
              clear hs9 HP6 HW1 hw9e t1 t3
              have HP9 := Lib.hid (show ∀ w', Below w9.heap.size w9 w' → Pw w F5 F6 V D G S (5000 + 16 * (k + 1)) X E C room size s9 s9 w' from fun w' hb => h9.next hb)
              have HX9 := Lib.hid (show ∀ w', Below w9.heap.size w9 w' → w'.cell? ⟨X, 0, none⟩ = some (.pointer (some ⟨E, 0, none⟩)) ∧ w'.cell? ⟨X, 1, none⟩ = some (.pointer (some ⟨C, 0, none⟩)) from fun w' hb => by
                obtain ⟨c0, c1, c2, cf⟩ := threeC (cellsX (h9.next hb).saf)
                exact ⟨c0, c1⟩)
              have HDS9 := Lib.hid hw9.dist
              have HB9 : 5000 + 16 * (k + 1) ≤ 60000 := by omega
              have HPV := Lib.hid (show ∀ w', Below w9.heap.size w9 w' → Pv w V D X E (k + 1) room size w' from fun w' hb => ⟨_, _, _, _, _, _, h9.next hb, hw9⟩)
              obtain ⟨us9, hus9⟩ : ∃ us9, total s9.A = us9 := ⟨_, rfl⟩
              have HUS9 := Lib.hid hus9
              have hbd9 : Below w9.heap.size w9 w9.drew := (Below.refl _ _).drew
              clear h9 hw9 hus9
              go_upto_region 19 with fail
              go_region_held3 (fun w' => w'.cell? ⟨X, 0, none⟩ = some (.pointer (some ⟨E, 0, none⟩)) ∧ w'.cell? ⟨X, 1, none⟩ = some (.pointer (some ⟨C, 0, none⟩))) (first | (with_reducible exact HX9.out _ hbd9) | (with_reducible exact HX9.out _ (Below.refl _ _)) | (with_reducible exact HX9.out _ (by assumption)) | go_keep)
                (first
                  | (go_at_call 61; ((refine (store_vlt (HP9.out _ hbd9).vlt).mono ?_); rintro e w' ⟨rfl, rfl⟩))
                  | (go_at_call 69; ((refine ((HP9.out _ hbd9).same HB9 HML.out HDS9.out f hfz q HQ.out).mono ?_); rintro e wS ⟨rfl, hbS⟩; have hbS2 := low_to (w0 := w9) hbd9 hbS; clear hbS))
                  | (go_at_call 60; ((have hus := used_vlt (HP9.out _ hbS2).vlt); rw [HUS9.out] at hus; (refine hus.mono ?_); clear hus; rintro e w' ⟨rfl, rfl⟩))
                  | (go_at_call 66; ((have hus := used_sf (HP9.out _ hbS2).saf); rw [HUS9.out] at hus; (refine hus.mono ?_); clear hus; rintro e w' ⟨rfl, rfl⟩)))
              have HNX := Lib.hid (HPV.out _ hbS2)
              clear HP9 HX9 HDS9 HPV hbd9 hbS2
              go_wp2_with fail
              exact ⟨⟨k + 1, by omega, by go_num, HNX⟩, by simp [intOf]; omega⟩
        · have hltz : ¬ (k : Int) < n := by omega
          obtain ⟨F, F2, G, S, C, s, hP, hW⟩ := HR.out
          have HB := Lib.hid hP.below
          clear hP hW HR
          go_wp2_with fail
          go_ret
          exact ⟨rfl, HB.out⟩
  · have HNB := Lib.hid (new_vlt_bad (W := w) (w := w) (Below.refl _ _) hm room size hok)
    by_cases hr : 1 ≤ room ∧ room ≤ 65536
    · have hs : ¬ (1 ≤ size ∧ size ≤ 4096) := fun e => hok ⟨hr, e⟩
      have HI1 := Lib.hid fun w => in_yes room 1 65536 w hr
      have HI2 := Lib.hid fun w => in_no size 1 4096 w hs
      clear hm hok hr hs
      go_enter Tryz.func8, Tryz.ntmps8
      go_wp2_with fail
      refine HNB.out.mono ?_
      rintro e w1 ⟨rfl, hb1⟩
      have HB1 := Lib.hid hb1
      clear hb1 HNB
      go_wp2_with fail
      refine (HI1.out _).mono ?_
      rintro e w' ⟨rfl, rfl⟩
      go_wp2_with fail
      refine (HI2.out _).mono ?_
      rintro e w' ⟨rfl, rfl⟩
      go_wp2_with fail
      refine (HI1.out _).mono ?_
      rintro e w' ⟨rfl, rfl⟩
      go_wp2_with fail
      refine (HI2.out _).mono ?_
      rintro e w' ⟨rfl, rfl⟩
      go_wp2_with fail
      go_ret
      exact ⟨rfl, HB1.out⟩
    · have HI1 := Lib.hid fun w => in_no room 1 65536 w hr
      clear hm hok hr
      go_enter Tryz.func8, Tryz.ntmps8
      go_wp2_with fail
      refine HNB.out.mono ?_
      rintro e w1 ⟨rfl, hb1⟩
      have HB1 := Lib.hid hb1
      clear hb1 HNB
      go_wp2_with fail
      refine (HI1.out _).mono ?_
      rintro e w' ⟨rfl, rfl⟩
      go_wp2_with fail
      refine (HI1.out _).mono ?_
      rintro e w' ⟨rfl, rfl⟩
      go_wp2_with fail
      go_ret
      exact ⟨rfl, HB1.out⟩
end
end Go.Proofs.YtidacfhdhdnidaaGreatDoor.Vlt

namespace Go.Proofs.YtidacfhdhdnidaaGreatDoor
open Go.RowKit

section
open Go.WideShapes Go.ChangeShapes
variable {H : Type} {enc : TypeId × Value → H} {P : Program}

theorem trodAll_stays (hl : laidOutB P = true) {W W' : World} (hb : Below W.heap.size W W') {sp : Nat → Bool} :
    ∀ (ts : List TypeId) (vs : List Value) (ds : List (DataW H)) (ps : List MemPlace), (∀ t ∈ ts, P.readableRec t = true ∧ t < P.types.size) →
      DataW.TrodAll enc P W 0 (fun _ => true) true ts vs ds ps → (∀ x ∈ ps, x.block < W.heap.size) → (∀ x ∈ ps, sp x.block = true) →
      DataW.TrodAll enc P W' 0 sp true ts vs ds ps
  | [], [], [], _, _, h, _, _ => h
  | t :: ts, v :: vs, d :: ds, ps, hr, h, hlt, hsp => by
    obtain ⟨p, q, h1, h2, rfl⟩ := h
    obtain ⟨r1, r2⟩ := hr t (by simp)
    refine ⟨p, q, WideElems.Trod_stays hl r1 r2 h1 (fun x hx => hb.same (hlt x (by simp [hx]))) (fun x hx => hsp x (by simp [hx])), ?_, rfl⟩
    exact trodAll_stays hl hb ts vs ds q (fun t ht => hr t (by simp [ht])) h2 (fun x hx => hlt x (by simp [hx])) (fun x hx => hsp x (by simp [hx]))
  | [], [], _ :: _, _, _, h, _, _ => by cases h
  | [], _ :: _, _, _, _, h, _, _ => by cases h
  | _ :: _, [], _, _, _, h, _, _ => by cases h
  | _ :: _, _ :: _, [], _, _, h, _, _ => by cases h

/-- The law's post: it returned true, its arguments read as they did. -/
theorem post_true {f : Func} {s : ChangeSpec} {apart fresh handsOn again : Bool} {W W' : World} {args : Array Value} {ds gs : List (DataW H)} {before : List MemPlace} {tb : TypeId}
    (hl : laidOutB P = true) (hr : ∀ t ∈ f.params.toList, P.readableRec t = true ∧ t < P.types.size)
    (hres : f.resultTypes = #[tb]) (htb : P.underlying tb = some .bool) (hvars : s.vars = [])
    (hW : DataW.Whole enc P f.params.toList s.vars apart W args.toList ds gs before)
    (hs1 : (s.fn H (ds ++ gs)).results = [.lit (.bool true)]) (hs2 : (s.fn H (ds ++ gs)).args = ds) (hs3 : (s.fn H (ds ++ gs)).vars = [])
    (hb : Below W.heap.size W W') : s.post enc P f apart fresh handsOn again W args (.bool true) W' := by
  have hW0 := hW
  obtain ⟨p, q, hA, hV, rfl, hz, hn⟩ := hW
  rw [hvars] at hV
  obtain ⟨rfl, rfl⟩ := trodVars_none hV
  have hlt : ∀ x ∈ p, x.block < W.heap.size := fun x hx => hW0.lt x (by simp [hx])
  refine post_of_below (pa := p) (pv := []) hW0 (fun _ _ _ => ?_) (fun sp hsp => ?_) (fun _ _ => ?_) rfl hb ?_
  · rw [hs1, hres]
    exact trodAll_cons_mk (shut_bool htb _) trodAll_mk0
  · rw [hs2]
    exact trodAll_stays hl hb _ _ _ _ hr hA hlt (fun x hx => hsp x (by simp [hx]))
  · rw [hs3, hvars]; rfl
  · intro j t r h1 h2
    rw [hres] at h1 h2
    have hj : j = 0 := by
      have := (Array.getElem?_eq_some_iff.1 h1).1
      simpa using this
    subst hj
    simp at h1
    subst h1
    simp [Value.resultList] at h2
    subst h2
    exact okWide_bool_mk htb _
end

/-! ### What a reading tells -/
section
open Go.WideShapes Go.ChangeShapes
variable {H : Type} {enc : TypeId × Value → H} {P : Program} {w : World} {base : Nat} {spare : Nat → Bool} {held : Bool}

theorem rd_int {t : TypeId} {k : IntKind} {fuel : Nat} {cs : List Value} {y : DataW H × List MemPlace} (ht : P.underlying t = some (.int k)) (h : DataW.trod enc P w base spare held fuel t cs = some y) :
    ∃ n, cs = [.int k n] ∧ (Lit.int k n).wf = true := by
  cases fuel with
  | zero => simp [DataW.trod] at h
  | succ n =>
    unfold DataW.trod at h
    rw [ht] at h
    split at h <;> simp_all

theorem rd_string {t : TypeId} {fuel : Nat} {cs : List Value} {y : DataW H × List MemPlace} (ht : P.underlying t = some .string) (h : DataW.trod enc P w base spare held fuel t cs = some y) :
    ∃ s, cs = [.string s] ∧ s.size ≤ maxLen ∧ y.1 = .lit (.string s.data.toList) := by
  cases fuel with
  | zero => simp [DataW.trod] at h
  | succ n =>
    unfold DataW.trod at h
    rw [ht] at h
    split at h <;> simp_all
    obtain ⟨_, rfl⟩ := h
    simp

/-- A struct, field by field. -/
theorem rd_struct {t : TypeId} {fs : Array Field} {fuel : Nat} {cs : List Value} {y : DataW H × List MemPlace} (ht : P.underlying t = some (.struct fs)) (h : DataW.trod enc P w base spare held fuel t cs = some y) :
    ∃ n, cs.length = P.cellsOf t ∧ ∃ xs : List (DataW H × List MemPlace), y.1 = .agg (xs.map (·.1)) ∧ fs.toList.mapM (fun f => DataW.trod enc P w base spare held n f.type ((cs.drop f.offset).take (P.cellsOf f.type))) = some xs := by
  cases fuel with
  | zero => simp [DataW.trod] at h
  | succ n =>
    unfold DataW.trod at h
    rw [ht] at h
    split at h <;> simp_all
    obtain ⟨xs, h1, h2⟩ := h.2
    exact ⟨n, xs, by rw [← h2], h1⟩

theorem mapM_get {α β : Type} {f : α → Option β} : ∀ {l : List α} {ys : List β}, l.mapM f = some ys → ys.length = l.length ∧ ∀ (i : Nat) (a : α), l[i]? = some a → ∃ y, ys[i]? = some y ∧ f a = some y
  | [], ys, h => by
    simp at h; subst h; simp
  | a :: l, ys, h => by
    rw [List.mapM_cons] at h
    cases ha : f a with
    | none => rw [ha] at h; cases h
    | some b =>
      rw [ha] at h
      cases hl : l.mapM f with
      | none => rw [hl] at h; cases h
      | some bs =>
        rw [hl] at h
        have e : b :: bs = ys := by simpa using h
        subst e
        obtain ⟨h1, h2⟩ := mapM_get hl
        refine ⟨by simp [h1], fun i x hx => ?_⟩
        cases i with
        | zero => simp at hx; subst hx; exact ⟨b, rfl, ha⟩
        | succ i => exact h2 i x (by simpa using hx)

/-- A slice: nil, or its elements up to the capacity. -/
theorem rd_slice {t e : TypeId} {fuel : Nat} {cs : List Value} {y : DataW H × List MemPlace} (ht : P.underlying t = some (.slice e)) (h : DataW.trod enc P w base (fun _ => true) held fuel t cs = some y) :
    (cs = [.slice none 0 0] ∧ y.1 = .nil) ∨ ∃ a len cap n, cs = [.slice (some a) len cap] ∧ len ≤ cap ∧ cap ≤ maxLen ∧ ∃ elems rest : List (DataW H × List MemPlace), y.1 = .slice (elems.map (·.1)) (rest.map (·.1)) ∧ elems.length = len ∧ rest.length = cap - len ∧
      (∀ i, i < len → ∃ z, elems[i]? = some z ∧ (w.cells? base (a.add (i * P.cellsOf e)) (P.cellsOf e)).bind (DataW.trod enc P w base (fun _ => true) held n e) = some z) ∧
      (∀ i, i < cap - len → ∃ z, rest[i]? = some z ∧ (w.cells? base (a.add ((len + i) * P.cellsOf e)) (P.cellsOf e)).bind (DataW.trod enc P w base (fun _ => true) held n e) = some z) := by
  cases fuel with
  | zero => simp [DataW.trod] at h
  | succ n =>
    unfold DataW.trod at h
    rw [ht] at h
    split at h <;> first | (exfalso; simp_all; done) | simp_all
    · rw [← h]
    · obtain ⟨⟨hb, hlc, hcm⟩, hh⟩ := h
      rw [Option.bind_eq_some_iff] at hh
      obtain ⟨elems, he, hr'⟩ := hh
      rw [Option.map_eq_some_iff] at hr'
      obtain ⟨rest, hr, hy⟩ := hr'
      obtain ⟨l1, g1⟩ := mapM_get he
      obtain ⟨l2, g2⟩ := mapM_get hr
      refine ⟨_, _, _, ⟨rfl, rfl, rfl⟩, hlc, hcm, n, elems, rest, by rw [← hy], by simpa using l1, by simpa using l2, fun i hi => ?_, fun i hi => ?_⟩
      · obtain ⟨y, h1, h2⟩ := g1 i i (by simp [hi])
        exact ⟨y.1, y.2, h1, h2⟩
      · obtain ⟨y, h1, h2⟩ := g2 i i (by simp [hi])
        exact ⟨y.1, y.2, h1, h2⟩
end

end Go.Proofs.YtidacfhdhdnidaaGreatDoor
