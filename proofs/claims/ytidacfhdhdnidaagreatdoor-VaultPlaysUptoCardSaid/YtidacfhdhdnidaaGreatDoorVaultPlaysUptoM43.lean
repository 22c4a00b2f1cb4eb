/- Parts of the proof, joined: rillref.Logged, walked.; rillref.Safe: Do, walked. -/
import Derived.Test.YtidacfhdhdnidaaGreatDoorVaultPlaysUptoM42
namespace Go.Proofs.YtidacfhdhdnidaaGreatDoor.Log
open Go.RowKit Heap Dsk Drw
open Subj (ML)
open Rec (Rc recErr recA rcOf codedL refRecord_any coded_any)
open Sto (RecsAt Fits parts sixC recV)

section
variable {W w : World} {G : Nat → Prop} {E : Nat} {room : Int} {A : List FileP}

/-- What Logged leaves. -/
def LogPost (W : World) (G : Nat → Prop) (E : Nat) (room : Int) (w : World) (o : List FileP × Nat) (e : Ending) (w' : World) : Prop :=
  e = .returned (.int .i64 (o.2 : Nat)) ∧ DrawAt W (Dsk.Grow G w) E room o.1 w' ∧ Heap.Touch G w w'

theorem LogPost.of {w0 w1 w' : World} {o : List FileP × Nat} {e : Ending} (h : DrawAt W G E room A w) (t0 : Heap.Touch G w w1) (h1 : e = .returned (.int .i64 (o.2 : Nat)) ∧ DrawAt W (Dsk.Grow G w1) E room o.1 w' ∧ Heap.Touch G w1 w') : LogPost W G E room w o e w' := by
  refine ⟨h1.1, h1.2.1.mono (fun k hk => hk.imp_right fun e => Nat.le_trans t0.size e) (fun k hk => ?_), t0.after h1.2.2⟩
  rcases hk with e | e
  · exact h.newG k e
  · exact Nat.le_trans h.below.size e

set_option maxHeartbeats 4000000 in
set_option maxRecDepth 100000 in
theorem logged_drw (h : DrawAt W G E room A w) (hlt : ∀ k, G k → k < w.heap.size) (size : Int) (hsz : 1 ≤ size ∧ size ≤ 4096) (r : Rc) (hf : Fits r) :
    Calls Tryz.prog 44 #[.pointer (some ⟨E, 0, none⟩), .int .i64 size, recV r] w (LogPost W G E room w (logD room size A r)) := by
  obtain ⟨sb, hd, d, hp⟩ := parts r
  have hrv : recV r = .agg #[.int .i64 r.kind, .int .i64 r.seq, .int .i64 r.time, .string sb, .string hd, .string d] := by rw [← hp.s1, ← hp.h1, ← hp.d1]; rfl
  have hrc := hp.rc
  have hss : sb.size ≤ 1048576 ∧ hd.size ≤ 1048576 ∧ d.size ≤ 1048576 := by rw [hp.s3, hp.h3, hp.d3]; exact ⟨hf.s, hf.h, hf.d⟩
  obtain ⟨w1, hw1⟩ : ∃ w1, w1 = w.alloc (.cells #[.int .i64 r.kind, .int .i64 r.seq, .int .i64 r.time, .string sb, .string hd, .string d] 33) := ⟨_, rfl⟩
  have hb1 : Below w.heap.size w w1 := by rw [hw1]; exact (Below.refl _ _).alloc (Nat.le_refl _) _
  have he1 : w1.heap[w.heap.size]? = some (.cells #[.int .i64 r.kind, .int .i64 r.seq, .int .i64 r.time, .string sb, .string hd, .string d] 33 (0, 0)) := by rw [hw1]; exact heap_alloc_new w _
  obtain ⟨bx, hbx⟩ : ∃ bx, w.heap.size = bx := ⟨_, rfl⟩
  rw [hbx] at he1
  obtain ⟨q0, q1, q2, q3, q4, q5⟩ := sixC he1
  have HRE := Lib.hid (fun w : World => (by have := refRecord_any r.kind r.seq r.time sb hd d w hss.1 hss.2.1 hss.2.2; rw [hrc] at this; exact this : Calls Tryz.prog 113 #[.agg (recA r.kind r.seq r.time sb hd d)] w fun e w' => e = .returned (.int .i64 (recErr r)) ∧ Below w.heap.size w w'))
  unfold recA at HRE
  rw [hrv]
  have HB1 := Lib.hid hb1; have HE1 := Lib.hid he1; have HBX := Lib.hid hbx; have HH := Lib.hid h; have HLT := Lib.hid hlt
  clear hlt
  by_cases her : recErr r = 0
  · have hlo : logD room size A r = putD room size A (codedL r) := by unfold logD; rw [if_neg (by simp [her])]
    rw [hlo, ]
    have hz := Rec.recErr_sizes her
    have HCO := Lib.hid (fun w : World => (by have := coded_any r.kind r.seq r.time sb hd d w (by omega) (by omega) (by have := hz.2.2.2.1; unfold Rec.far at this; omega) (by have := hz.2.2.2.2.2.1; unfold Rec.far at this; omega) hss.1 hss.2.1 hss.2.2; rw [hrc] at this; exact this : Calls Tryz.prog 114 #[.agg (recA r.kind r.seq r.time sb hd d)] w fun e w' => e = .returned (.string ⟨(codedL r).toArray⟩) ∧ Below w.heap.size w w'))
    have hcl := codedL_len her
    rw [her] at HRE
    unfold recA at HCO
    generalize codedL r = C at *
    obtain ⟨X, hX⟩ : ∃ X : ByteArray, (⟨C.toArray⟩ : ByteArray) = X := ⟨_, rfl⟩
    have hXl : X.data.toList = C := by rw [← hX]
    have hXs : X.size = C.length := by rw [← hX]; show C.toArray.size = _; simp
    rw [hX] at HCO
    have HXL := Lib.hid hXl
    rw [← hXs] at hcl
    obtain ⟨n, hn⟩ : ∃ n, A.length = n := ⟨_, rfl⟩
    have hfew := h.right.few
    rw [hn] at hfew
    have HN := Lib.hid hn
    cases hla : A.getLast? with
    | none =>
      have hput : putD room size A C = appD room A 0 C := by unfold putD; rw [hla]
      rw [hput]
      have hA0 := last_none hla
      have hn0 : n = 0 := by rw [← hn, hA0]; rfl
      subst hn0
      clear h hf hp hrv hrc hss hb1 he1 hbx her hlo hz hX hXl hXs hn hla hput hA0
      go_enter Tryz.func44, Tryz.ntmps44
      go_upto_region 1 with fail
      rw [← hw1, HBX.out]
      clear hw1
      go_wp2_with fail
      refine (HRE.out _).mono ?_
      rintro e w2 ⟨rfl, hb2⟩
      have hb02 := hb2
      have he2 : w2.heap[bx]? = _ := (hb2.block bx (heap_lt HE1.out)).trans HE1.out
      clear q0 q1 q2 q3 q4 q5
      obtain ⟨q0, q1, q2, q3, q4, q5⟩ := sixC he2
      have HB2 := Lib.hid (HB1.out.trans (hb2.mono HB1.out.size)); have HE2 := Lib.hid he2
      clear hb2 hb02 he2 HRE
      go_wp2_with fail
      refine (HCO.out _).mono ?_
      rintro e w3 ⟨rfl, hb3⟩
      have HB3 := Lib.hid (HB2.out.trans (hb3.mono HB2.out.size))
      have hd3 := HH.out.next HB3.out
      obtain ⟨v, h1, h2, h3⟩ := hd3.mem
      rw [HN.out] at h2
      obtain ⟨va, vc, rfl⟩ := h2.slice
      obtain ⟨c0, c1, cf⟩ := drawCells h1
      have hap := append_drw hd3 0 X (by omega)
      rw [HXL.out] at hap
      have HAP := Lib.hid hap
      clear hb3 hd3 h1 h2 h3 hap HCO q0 q1 q2 q3 q4 q5
      go_wp2_with fail
      refine HAP.out.mono ?_
      rintro e w4 ⟨rfl, hd4, ht4⟩
      have HF := Lib.hid (LogPost.of (w0 := w) HH.out (Heap.Touch.ofBelow HB3.out) ⟨rfl, hd4, ht4⟩)
      clear hd4 ht4 HAP
      go_wp2_with fail
      go_ret
      exact HF.out
    | some p =>
      obtain ⟨hmem, hpos, hget⟩ := last_some hla
      have hpn := h.right.num p hmem
      have hpl := h.right.len hmem
      rw [hn] at hpos hget
      obtain ⟨T, hT, hTs, hTl⟩ := text_of p.text
      rw [← hTs] at hpl
      have HGE := Lib.hid hget; have HT := Lib.hid hT
      have hnz : ¬ (n : Int) = 0 := by omega
      have hn1 : ((n : Int) == 0) = false := by simpa using hnz
      have hput : putD room size A C = if 0 < T.size ∧ size < T.size + X.size then appD room (syncD A p.n).1 (p.n + 1) C else appD room A p.n C := by unfold putD; rw [hla, hTs, hXs]
      rw [hput]
      have hwr : IntKind.i64.wrap ((T.size : Int) + (X.size : Int)) = (T.size : Int) + (X.size : Int) := IntWalk.i64_in _ (by omega)
      have h3 : ¬ 0 < T.size ∨ (0 < T.size ∧ ¬ size < T.size + X.size) ∨ (0 < T.size ∧ size < T.size + X.size) := by omega
      clear hf hp hrv hrc hss hb1 he1 hbx her hlo hz hX hXl hXs hn hla hput hT hTs hTl hmem hget
      rcases h3 with hz | ⟨hz, hz2⟩ | ⟨hz, hz2⟩
      · rw [if_neg (fun e => hz e.1)]
        have hzz : ¬ (0 : Int) < (T.size : Nat) := by omega
        clear h hz
        go_enter Tryz.func44, Tryz.ntmps44
        go_upto_region 1 with fail
        rw [← hw1, HBX.out]
        clear hw1
        go_wp2_with fail
        refine (HRE.out _).mono ?_
        rintro e w2 ⟨rfl, hb2⟩
        have he2 : w2.heap[bx]? = _ := (hb2.block bx (heap_lt HE1.out)).trans HE1.out
        clear q0 q1 q2 q3 q4 q5
        obtain ⟨q0, q1, q2, q3, q4, q5⟩ := sixC he2
        have HB2 := Lib.hid (HB1.out.trans (hb2.mono HB1.out.size)); have HE2 := Lib.hid he2
        clear hb2 he2 HRE
        go_wp2_with fail
        refine (HCO.out _).mono ?_
        rintro e w3 ⟨rfl, hb3⟩
        have HB3 := Lib.hid (HB2.out.trans (hb3.mono HB2.out.size))
        have hd3 := HH.out.next HB3.out
        obtain ⟨v, h1, h2, h3⟩ := hd3.mem
        rw [HN.out] at h2
        obtain ⟨g, off, vc, rfl⟩ : ∃ g off vc, v = .slice (some ⟨g, off, none⟩) n vc := by
          rcases h2.2 with ⟨_, e0⟩ | ⟨g, off, cap, cur, e, _⟩
          · omega
          · exact ⟨g, off, cap, e⟩
        obtain ⟨c0, c1, cf⟩ := drawCells h1
        obtain ⟨d0, d1, d2⟩ := cells_pull h2 (n - 1) p HGE.out (by omega)
        rw [← HT.out] at d2
        obtain ⟨w4, hw4⟩ : ∃ w4, w4 = w3.alloc (.cells #[.int .i64 p.n, .int .i64 (p.sure : Nat), .string T] 101) := ⟨_, rfl⟩
        have hb4 : Below w3.heap.size w3 w4 := by rw [hw4]; exact (Below.refl _ _).alloc (Nat.le_refl _) _
        have he4 : w4.heap[w3.heap.size]? = some (.cells #[.int .i64 p.n, .int .i64 (p.sure : Nat), .string T] 101 (0, 0)) := by rw [hw4]; exact heap_alloc_new w3 _
        have HNG4 := Lib.hid (show ¬ G w3.heap.size from fun e => by have := HLT.out _ e; have := HB3.out.size; omega)
        obtain ⟨b4, hb4e⟩ : ∃ b4, w3.heap.size = b4 := ⟨_, rfl⟩
        rw [hb4e] at he4 HNG4
        obtain ⟨x0, x1, x2, xf⟩ := threeC he4
        have HB4 := Lib.hid (HB3.out.trans (hb4.mono HB3.out.size))
        have HD4 := Lib.hid (hd3.next hb4)
        have HE4 := Lib.hid he4; have HBB := Lib.hid hb4e
        clear hb3 hd3 h1 h2 h3 HCO q0 q1 q2 q3 q4 q5 hb4 he4 hb4e
        go_upto_region 9 with fail
        rw [← hw4, HBB.out]
        clear hw4 d0 d1 d2 c0 c1 cf
        have hap := append_drw HD4.out p.n X (by omega)
        rw [HXL.out] at hap
        have HAP := Lib.hid hap
        clear hap
        go_wp2_with fail
        refine HAP.out.mono ?_
        rintro e w5 ⟨rfl, hd5, ht5⟩
        have HF := Lib.hid (LogPost.of (w0 := w) HH.out (Heap.Touch.ofBelow HB4.out) ⟨rfl, hd5, ht5⟩)
        clear hd5 ht5 HAP
        go_wp2_with fail
        go_ret
        exact HF.out
      · rw [if_neg (fun e => hz2 e.2)]
        have hzz : (0 : Int) < (T.size : Nat) := by omega
        have hzz2 : ¬ size < (T.size : Int) + (X.size : Int) := by omega
        clear h hz hz2
        go_enter Tryz.func44, Tryz.ntmps44
        go_upto_region 1 with fail
        rw [← hw1, HBX.out]
        clear hw1
        go_wp2_with fail
        refine (HRE.out _).mono ?_
        rintro e w2 ⟨rfl, hb2⟩
        have he2 : w2.heap[bx]? = _ := (hb2.block bx (heap_lt HE1.out)).trans HE1.out
        clear q0 q1 q2 q3 q4 q5
        obtain ⟨q0, q1, q2, q3, q4, q5⟩ := sixC he2
        have HB2 := Lib.hid (HB1.out.trans (hb2.mono HB1.out.size)); have HE2 := Lib.hid he2
        clear hb2 he2 HRE
        go_wp2_with fail
        refine (HCO.out _).mono ?_
        rintro e w3 ⟨rfl, hb3⟩
        have HB3 := Lib.hid (HB2.out.trans (hb3.mono HB2.out.size))
        have hd3 := HH.out.next HB3.out
        obtain ⟨v, h1, h2, h3⟩ := hd3.mem
        rw [HN.out] at h2
        obtain ⟨g, off, vc, rfl⟩ : ∃ g off vc, v = .slice (some ⟨g, off, none⟩) n vc := by
          rcases h2.2 with ⟨_, e0⟩ | ⟨g, off, cap, cur, e, _⟩
          · omega
          · exact ⟨g, off, cap, e⟩
        obtain ⟨c0, c1, cf⟩ := drawCells h1
        obtain ⟨d0, d1, d2⟩ := cells_pull h2 (n - 1) p HGE.out (by omega)
        rw [← HT.out] at d2
        obtain ⟨w4, hw4⟩ : ∃ w4, w4 = w3.alloc (.cells #[.int .i64 p.n, .int .i64 (p.sure : Nat), .string T] 101) := ⟨_, rfl⟩
        have hb4 : Below w3.heap.size w3 w4 := by rw [hw4]; exact (Below.refl _ _).alloc (Nat.le_refl _) _
        have he4 : w4.heap[w3.heap.size]? = some (.cells #[.int .i64 p.n, .int .i64 (p.sure : Nat), .string T] 101 (0, 0)) := by rw [hw4]; exact heap_alloc_new w3 _
        have HNG4 := Lib.hid (show ¬ G w3.heap.size from fun e => by have := HLT.out _ e; have := HB3.out.size; omega)
        obtain ⟨b4, hb4e⟩ : ∃ b4, w3.heap.size = b4 := ⟨_, rfl⟩
        rw [hb4e] at he4 HNG4
        obtain ⟨x0, x1, x2, xf⟩ := threeC he4
        have HB4 := Lib.hid (HB3.out.trans (hb4.mono HB3.out.size))
        have HD4 := Lib.hid (hd3.next hb4)
        have HE4 := Lib.hid he4; have HBB := Lib.hid hb4e
        clear hb3 hd3 h1 h2 h3 HCO q0 q1 q2 q3 q4 q5 hb4 he4 hb4e
        go_upto_region 9 with fail
        rw [← hw4, HBB.out]
        clear hw4 d0 d1 d2 c0 c1 cf
        have hap := append_drw HD4.out p.n X (by omega)
        rw [HXL.out] at hap
        have HAP := Lib.hid hap
        clear hap
        go_wp2_with fail
        refine HAP.out.mono ?_
        rintro e w5 ⟨rfl, hd5, ht5⟩
        have HF := Lib.hid (LogPost.of (w0 := w) HH.out (Heap.Touch.ofBelow HB4.out) ⟨rfl, hd5, ht5⟩)
        clear hd5 ht5 HAP
        go_wp2_with fail
        go_ret
        exact HF.out
      · rw [if_pos ⟨hz, hz2⟩]
        have hzz : (0 : Int) < (T.size : Nat) := by omega
        have hzz2 : size < (T.size : Int) + (X.size : Int) := by omega
        clear h hz hz2
        go_enter Tryz.func44, Tryz.ntmps44
        go_upto_region 1 with fail
        rw [← hw1, HBX.out]
        clear hw1
        go_wp2_with fail
        refine (HRE.out _).mono ?_
        rintro e w2 ⟨rfl, hb2⟩
        have he2 : w2.heap[bx]? = _ := (hb2.block bx (heap_lt HE1.out)).trans HE1.out
        clear q0 q1 q2 q3 q4 q5
        obtain ⟨q0, q1, q2, q3, q4, q5⟩ := sixC he2
        have HB2 := Lib.hid (HB1.out.trans (hb2.mono HB1.out.size)); have HE2 := Lib.hid he2
        clear hb2 he2 HRE
        go_wp2_with fail
        refine (HCO.out _).mono ?_
        rintro e w3 ⟨rfl, hb3⟩
        have HB3 := Lib.hid (HB2.out.trans (hb3.mono HB2.out.size))
        have hd3 := HH.out.next HB3.out
        obtain ⟨v, h1, h2, h3⟩ := hd3.mem
        rw [HN.out] at h2
        obtain ⟨g, off, vc, rfl⟩ : ∃ g off vc, v = .slice (some ⟨g, off, none⟩) n vc := by
          rcases h2.2 with ⟨_, e0⟩ | ⟨g, off, cap, cur, e, _⟩
          · omega
          · exact ⟨g, off, cap, e⟩
        obtain ⟨c0, c1, cf⟩ := drawCells h1
        obtain ⟨d0, d1, d2⟩ := cells_pull h2 (n - 1) p HGE.out (by omega)
        rw [← HT.out] at d2
        obtain ⟨w4, hw4⟩ : ∃ w4, w4 = w3.alloc (.cells #[.int .i64 p.n, .int .i64 (p.sure : Nat), .string T] 101) := ⟨_, rfl⟩
        have hb4 : Below w3.heap.size w3 w4 := by rw [hw4]; exact (Below.refl _ _).alloc (Nat.le_refl _) _
        have he4 : w4.heap[w3.heap.size]? = some (.cells #[.int .i64 p.n, .int .i64 (p.sure : Nat), .string T] 101 (0, 0)) := by rw [hw4]; exact heap_alloc_new w3 _
        have HNG4 := Lib.hid (show ¬ G w3.heap.size from fun e => by have := HLT.out _ e; have := HB3.out.size; omega)
        obtain ⟨b4, hb4e⟩ : ∃ b4, w3.heap.size = b4 := ⟨_, rfl⟩
        rw [hb4e] at he4 HNG4
        obtain ⟨x0, x1, x2, xf⟩ := threeC he4
        have HB4 := Lib.hid (HB3.out.trans (hb4.mono HB3.out.size))
        have HD4 := Lib.hid (hd3.next hb4)
        have HE4 := Lib.hid he4; have HBB := Lib.hid hb4e
        clear hb3 hd3 h1 h2 h3 HCO q0 q1 q2 q3 q4 q5 hb4 he4 hb4e
        go_upto_region 9 with fail
        rw [← hw4, HBB.out]
        clear hw4 d0 d1 d2 c0 c1 cf
        have HSY := Lib.hid (sync_drw HD4.out p.n)
        go_wp2_with fail
        refine HSY.out.mono ?_
        rintro e w5 ⟨rfl, hd5, ht5⟩
        have he5 : w5.heap[b4]? = _ := (ht5.block b4 (heap_lt HE4.out) HNG4.out).trans HE4.out
        clear x0 x1 x2 xf
        obtain ⟨x0, x1, x2, xf⟩ := threeC he5
        have hap := append_drw hd5 (p.n + 1) X (by omega)
        rw [HXL.out] at hap
        have HAP := Lib.hid hap
        have HT5 := Lib.hid ((Heap.Touch.ofBelow HB4.out).after ht5)
        clear hap hd5 ht5 he5 HSY
        go_wp2_with fail
        refine HAP.out.mono ?_
        rintro e w6 ⟨rfl, hd6, ht6⟩
        have HF := Lib.hid (LogPost.of (w0 := w) HH.out HT5.out ⟨rfl, hd6, ht6⟩)
        clear hd6 ht6 HAP HT5
        go_wp2_with fail
        go_ret
        exact HF.out
  · have hlo : logD room size A r = (A, recErr r) := by unfold logD; rw [if_pos her]
    rw [hlo]
    generalize recErr r = C at *
    have hC : ¬ (C : Int) = 0 := by omega
    clear h hf hp hrv hrc hss hb1 he1 hbx her hlo
    go_enter Tryz.func44, Tryz.ntmps44
    go_upto_region 1 with fail
    rw [← hw1, HBX.out]
    clear hw1
    go_wp2_with fail
    refine (HRE.out _).mono ?_
    rintro e w2 ⟨rfl, hb2⟩
    have HB2 := Lib.hid (HB1.out.trans (hb2.mono HB1.out.size))
    clear hb2 HRE
    go_wp2_with fail
    go_ret
    exact ⟨rfl, (HH.out.next HB2.out).mono (fun k hk => .inl hk) (fun k hk => hk.elim (HH.out.newG k) fun e => Nat.le_trans HH.out.below.size e), Heap.Touch.ofBelow HB2.out⟩
end
end Go.Proofs.YtidacfhdhdnidaaGreatDoor.Log

namespace Go.Proofs.YtidacfhdhdnidaaGreatDoor.Vlt
open Go.RowKit Heap Dsk Log Drw
open Subj (ML)
open Rec (Rc recErr recA rcOf codedL ml_alloc)
open Sto (ChAt NextCh tryD after runS RecsAt Fits parts sixC recV recsV try_ch apply_ch Right dist)

section
variable {W w w1 : World} {F : Nat → Prop} {X E C : Nat} {room size : Int} {s : Vt} {I : Idx.Ents}

def SPost (W : World) (F : Nat → Prop) (X E C : Nat) (room size : Int) (w : World) (o : Vt × Nat) (e : Ending) (w' : World) : Prop :=
  e = .returned (.int .i64 (o.2 : Nat)) ∧ NextSf W F X E C room size w o.1 w'

theorem cellsX (h : SfAt W F X E C room size s w) : w.heap[X]? = some (.cells #[.pointer (some ⟨E, 0, none⟩), .pointer (some ⟨C, 0, none⟩), .int .i64 size] 121 (0, 0)) := by
  obtain ⟨G, v, hP, _⟩ := h.ex
  exact hP.cells

theorem SfAt.sz (h : SfAt W F X E C room size s w) : 1 ≤ size ∧ size ≤ 4096 := by
  obtain ⟨G, v, hP, _⟩ := h.ex
  exact hP.sz

theorem app_ne {room : Int} {A : List FileP} {n : Int} {T : List UInt8} (h : (appD room A n T).2 = 0) : (appD room A n T).1 ≠ [] := by
  unfold appD at h ⊢
  split
  · rename_i e; rw [if_pos e] at h; cases h
  · rename_i e
    rw [if_neg e] at h
    split
    · rename_i e2; rw [if_pos e2] at h; cases h
    · rename_i e2
      rw [if_neg e2] at h
      split
      · rename_i p hp
        intro e3
        have h1 := len_setF A ⟨n, p.text ++ T, p.sure⟩
        simp only at e3
        rw [e3] at h1
        have h2 := List.length_pos_of_mem (getF_n hp).2
        simp at h1
        omega
      · rename_i hp
        rw [hp] at h
        simp only at h ⊢
        split
        · rename_i e3; rw [if_pos e3] at h; cases h
        · intro e3
          have h1 := len_insF A ⟨n, T, 0⟩
          simp only at e3
          rw [e3] at h1
          simp at h1

theorem log_ne {room size : Int} {A : List FileP} {r : Rc} (he : recErr r = 0) (h : (logD room size A r).2 = 0) : ∃ p, (logD room size A r).1.getLast? = some p := by
  have hl : logD room size A r = putD room size A (codedL r) := by unfold logD; rw [if_neg (by omega)]
  rw [hl] at h ⊢
  have hne : (putD room size A (codedL r)).1 ≠ [] := by
    unfold putD at h ⊢
    split
    · rename_i e; rw [e] at h; exact app_ne h
    · rename_i p e
      rw [e] at h
      simp only at h ⊢
      split
      · rename_i e2; rw [if_pos e2] at h; exact app_ne h
      · rename_i e2; rw [if_neg e2] at h; exact app_ne h
  cases hg : (putD room size A (codedL r)).1.getLast? with
  | none => exact absurd (last_none hg) hne
  | some p => exact ⟨p, rfl⟩

set_option maxHeartbeats 8000000 in
set_option maxRecDepth 100000 in
theorem do_sf (h : SfAt W F X E C room size s w) (hR : Right s.L s.last I) (hds : dist s.L ≤ 100) (r : Rc) (hf : Fits r) :
    Calls Tryz.prog 65 #[.pointer (some ⟨X, 0, none⟩), recV r] w (SPost W F X E C room size w (doV room size s r)) := by
  obtain ⟨sb, hd, d, hp⟩ := parts r
  have hrv : recV r = .agg #[.int .i64 r.kind, .int .i64 r.seq, .int .i64 r.time, .string sb, .string hd, .string d] := by rw [← hp.s1, ← hp.h1, ← hp.d1]; rfl
  obtain ⟨w1, hw1⟩ : ∃ w1, w1 = w.alloc (.cells #[.int .i64 r.kind, .int .i64 r.seq, .int .i64 r.time, .string sb, .string hd, .string d] 33) := ⟨_, rfl⟩
  have hb1 : Below w.heap.size w w1 := by rw [hw1]; exact (Below.refl _ _).alloc (Nat.le_refl _) _
  have he1 : w1.heap[w.heap.size]? = some (.cells #[.int .i64 r.kind, .int .i64 r.seq, .int .i64 r.time, .string sb, .string hd, .string d] 33 (0, 0)) := by rw [hw1]; exact heap_alloc_new w _
  obtain ⟨bx, hbx⟩ : ∃ bx, w.heap.size = bx := ⟨_, rfl⟩
  have hnb : ¬ F bx := fun e => by have := h.bF bx e; omega
  rw [hbx] at he1
  obtain ⟨c0, c1, c2, cf⟩ := threeC (cellsX (h.low hb1))
  obtain ⟨q0, q1, q2, q3, q4, q5⟩ := sixC he1
  obtain ⟨x1, hx1⟩ : ∃ x1, x1 = w1.drew := ⟨_, rfl⟩
  have hb1 : Below w.heap.size w x1 := by rw [hx1]; exact hb1.drew
  have he1 := drew_block hx1 he1
  have h1 := h.low hb1
  obtain ⟨G, v, hP, hF⟩ := h1.ex
  have ht := try_ch hP.ch hR hds r hf
  rw [hrv] at ht ⊢
  have HSZ := Lib.hid h.sz
  have HT := Lib.hid ht; have H1 := Lib.hid h1; have HE1 := Lib.hid he1; have HBX := Lib.hid hbx; have HB1 := Lib.hid hb1; have HNB := Lib.hid hnb; have HRV := Lib.hid hrv; have HFT := Lib.hid hf; have HRR := Lib.hid hR; have HDS := Lib.hid hds
  unfold doV
  clear h ht h1 he1 hb1 hnb hrv hf hp hP hF hbx hR hds
  by_cases hty : tryD s.L s.last r = 0
  · rw [if_neg (by omega)]
    rw [hty] at HT
    by_cases hlg : (logD room size s.A r).2 = 0
    · rw [if_neg (by omega)]
      have HLG := Lib.hid hlg; have HTY := Lib.hid hty
      clear hlg hty
      go_enter Tryz.func65, Tryz.ntmps65
      go_upto_region 1 with fail
      rw [← hw1, HBX.out]
      clear hw1
      go_wp2_with fail
      go_still_tail 5, (by kernel_rfl)
      change wpList _ _ _ _ _ w1.drew
      rw [← hx1]
      clear hx1
      go_wp2_with fail
      refine HT.out.mono ?_
      rintro e w2 ⟨rfl, hb2⟩
      clear c0 c1 c2 cf q0 q1 q2 q3 q4 q5
      have he2 : w2.heap[bx]? = _ := (hb2.block bx (heap_lt HE1.out)).trans HE1.out
      obtain ⟨c0, c1, c2, cf⟩ := threeC (cellsX (H1.out.low hb2))
      obtain ⟨q0, q1, q2, q3, q4, q5⟩ := sixC he2
      obtain ⟨x2, hx2⟩ : ∃ x2, x2 = w2.drew := ⟨_, rfl⟩
      have hb2 : Below x1.heap.size x1 x2 := by rw [hx2]; exact hb2.drew
      have he2 := drew_block hx2 he2
      have h2 := H1.out.low hb2
      obtain ⟨G, v, hP, hF⟩ := h2.ex
      have hap := logged_drw hP.drw hP.ltG size HSZ.out r HFT.out
      rw [HRV.out] at hap
      have HAP := Lib.hid hap; have H2 := Lib.hid (And.intro h2 (And.intro hP hF)); have HE2 := Lib.hid he2; have HB2 := Lib.hid (HB1.out.trans (hb2.mono HB1.out.size))
      clear hap h2 hP hF he2 hb2 HT
      go_wp2_with fail
      go_still_tail 9, (by kernel_rfl)
      change wpList _ _ _ _ _ w2.drew
      rw [← hx2]
      clear hx2
      go_wp2_with fail
      refine HAP.out.mono ?_
      rintro e w3 ⟨rfl, hd3, ht3⟩
      rw [HLG.out]
      obtain ⟨h2, hP, hF⟩ := H2.out
      obtain ⟨⟨F3, h3, hF3⟩, hT3⟩ := h2.drwS hP hF hd3 ht3
      have he3 : w3.heap[bx]? = _ := (hT3.block bx (heap_lt HE2.out) HNB.out).trans HE2.out
      have hn3 : ¬ F3 bx := fun e => by
        rcases hF3 bx e with e | e
        · exact HNB.out e
        · have := heap_lt HE2.out; omega
      have hR3 : (∀ k, F3 k → F k ∨ w.heap.size ≤ k) ∧ Heap.Touch F w w3 := ⟨fun k hk => (hF3 k hk).imp id fun e => Nat.le_trans HB2.out.size e, (Heap.Touch.ofBelow HB2.out).after hT3⟩
      clear h2 hP hF hd3 ht3
      clear c0 c1 c2 cf q0 q1 q2 q3 q4 q5
      obtain ⟨c0, c1, c2, cf⟩ := threeC (cellsX h3)
      obtain ⟨q0, q1, q2, q3, q4, q5⟩ := sixC he3
      -- the last paper
      obtain ⟨p, hla⟩ := log_ne (try_err HTY.out) HLG.out
      obtain ⟨A3, hA3⟩ : ∃ A3, (logD room size s.A r).1 = A3 := ⟨_, rfl⟩
      rw [hA3] at h3 hla
      obtain ⟨hmem, hpos, hget⟩ := last_some hla
      have hsyl : syncL A3 = (syncD A3 p.n).1 := by unfold syncL; rw [hla]
      obtain ⟨n, hn⟩ : ∃ n, A3.length = n := ⟨_, rfl⟩
      rw [hn] at hpos hget
      obtain ⟨G3, v3, hP3, hF3'⟩ := h3.ex
      have hn20 : n ≤ 20 := by rw [← hn]; exact hP3.drw.right.few
      obtain ⟨vd, g1, g2, g3⟩ := hP3.drw.mem
      have g2' : Row w3 101 3 vd n (plsV A3) := by rw [← hn]; exact g2
      obtain ⟨g, off, vc, rfl⟩ : ∃ g off vc, vd = .slice (some ⟨g, off, none⟩) n vc := by
        rcases g2'.2 with ⟨_, e0⟩ | ⟨g, off, cap, cur, e, _⟩
        · omega
        · exact ⟨g, off, cap, e⟩
      obtain ⟨e0, e1, ef⟩ := drawCells g1
      obtain ⟨d0, d1, d2⟩ := cells_pull g2' (n - 1) p hget (by omega)
      obtain ⟨x3, hx3⟩ : ∃ x3, x3 = w3.drew := ⟨_, rfl⟩
      have hbx3 : Below w3.heap.size w3 x3 := by rw [hx3]; exact (Below.refl _ _).drew
      have hsy := sync_drw (hP3.drw.next hbx3) p.n
      have hxe3 := drew_block hx3 he3
      have hwl0 : (0 : Int) < (n : Nat) := by omega
      have hwl1 : (1 : Int) ≤ (n : Nat) := by omega
      have hwl2 : (n : Int) - 1 < (n : Nat) := by omega
      have hwl : IntKind.i64.wrap ((n : Int) - 1) = (n : Int) - 1 := IntWalk.i64_in _ (by omega)
      have H3 := Lib.hid (And.intro (h3.low hbx3) (And.intro (hP3.low hbx3) hF3')); have HSY := Lib.hid hsy; have HSL := Lib.hid hsyl; have HA3 := Lib.hid hA3
      have HE3 := Lib.hid hxe3; have HN3 := Lib.hid hn3; have HR3 := Lib.hid (show (∀ k, F3 k → F k ∨ w.heap.size ≤ k) ∧ Heap.Touch F w x3 from ⟨hR3.1, hR3.2.after (Heap.Touch.ofBelow hbx3)⟩)
      clear h3 hP3 hF3' hbx3 hsy hxe3 hn3 hR3 hF3 hT3 he3 HAP H2 HE2 HB2 hla hmem hget hsyl hn g1 g2 g2' g3 hA3 d1 d2
      go_wp2_with fail
      go_still_tail 23, (by kernel_rfl)
      change wpList _ _ _ _ _ w3.drew
      rw [← hx3]
      clear hx3 hwl hwl0 hwl1 hwl2
      go_wp2_with fail
      refine HSY.out.mono ?_
      rintro e w4 ⟨rfl, hd4, ht4⟩
      obtain ⟨h3, hP, hF⟩ := H3.out
      obtain ⟨⟨F4, h4, hF4⟩, hT4⟩ := h3.drwS hP hF (hd4.mono (fun k hk => .inl hk) (fun k hk => hk.elim (hP.drw.newG k) fun e => Nat.le_trans hP.drw.below.size e)) ht4
      rw [← HSL.out] at h4
      have he4 : w4.heap[bx]? = _ := (hT4.block bx (heap_lt HE3.out) HN3.out).trans HE3.out
      have hR4 : (∀ k, F4 k → F k ∨ w.heap.size ≤ k) ∧ Heap.Touch F w w4 := ⟨fun k hk => by
        rcases hF4 k hk with e | e
        · exact HR3.out.1 k e
        · exact .inr (Nat.le_trans HR3.out.2.size e), HR3.out.2.trans hT4 fun k hk hf => by
          rcases HR3.out.1 k hf with e | e
          · exact e
          · omega⟩
      clear h3 hP hF hd4 ht4
      clear c0 c1 c2 cf q0 q1 q2 q3 q4 q5 e0 e1 ef d0
      obtain ⟨c0, c1, c2, cf⟩ := threeC (cellsX h4)
      obtain ⟨q0, q1, q2, q3, q4, q5⟩ := sixC he4
      obtain ⟨x4, hx4⟩ : ∃ x4, x4 = w4.drew := ⟨_, rfl⟩
      have h4 : SfAt W F4 X E C room size ⟨syncL A3, s.L, s.last⟩ x4 := h4.low (by rw [hx4]; exact (Below.refl _ _).drew)
      have hR4 : (∀ k, F4 k → F k ∨ w.heap.size ≤ k) ∧ Heap.Touch F w x4 := by rw [hx4]; exact ⟨hR4.1, hR4.2.drew⟩
      obtain ⟨G4, v4, hP, hF⟩ := h4.ex
      have hay := apply_ch hP.ch HRR.out HDS.out r HFT.out
      rw [HRV.out] at hay
      have HAY := Lib.hid hay; have H4 := Lib.hid (And.intro h4 (And.intro hP hF)); have HR4 := Lib.hid hR4
      clear hay h4 hP hF he4 hR4 hF4 hT4 HSY H3 HE3 HN3 HR3
      go_wp2_with fail
      go_still_tail 5, (by kernel_rfl)
      change wpList _ _ _ _ _ w4.drew
      rw [← hx4]
      clear hx4
      go_wp2_with fail
      refine HAY.out.mono ?_
      rintro e w5 ⟨rfl, hn5⟩
      rw [HTY.out]
      obtain ⟨h4, hP, hF⟩ := H4.out
      have HF := Lib.hid (show SPost W F X E C room size w (⟨syncL (logD room size s.A r).1, (after s.L s.last r).1, (after s.L s.last r).2⟩, 0) (.returned (.int .i64 ((0 : Nat) : Int))) w5 from by rw [HA3.out]; exact ⟨rfl, NextSf.trans HR4.out.1 HR4.out.2 (h4.chS hP hF hn5)⟩)
      clear h4 hP hF hn5 HAY H4 HR4
      go_wp2_with fail
      go_ret
      exact HF.out
    · rw [if_pos hlg]
      obtain ⟨lo, hlo⟩ : ∃ lo, (logD room size s.A r).2 = lo := ⟨_, rfl⟩
      rw [hlo] at hlg ⊢
      have HLO := Lib.hid hlo
      have hlz : ¬ (lo : Int) = 0 := by omega
      clear hty hlo
      go_enter Tryz.func65, Tryz.ntmps65
      go_upto_region 1 with fail
      rw [← hw1, HBX.out]
      clear hw1
      go_wp2_with fail
      go_still_tail 5, (by kernel_rfl)
      change wpList _ _ _ _ _ w1.drew
      rw [← hx1]
      clear hx1
      go_wp2_with fail
      refine HT.out.mono ?_
      rintro e w2 ⟨rfl, hb2⟩
      clear c0 c1 c2 cf q0 q1 q2 q3 q4 q5
      have he2 : w2.heap[bx]? = _ := (hb2.block bx (heap_lt HE1.out)).trans HE1.out
      obtain ⟨c0, c1, c2, cf⟩ := threeC (cellsX (H1.out.low hb2))
      obtain ⟨q0, q1, q2, q3, q4, q5⟩ := sixC he2
      obtain ⟨x2, hx2⟩ : ∃ x2, x2 = w2.drew := ⟨_, rfl⟩
      have hb2 : Below x1.heap.size x1 x2 := by rw [hx2]; exact hb2.drew
      have h2 := H1.out.low hb2
      obtain ⟨G, v, hP, hF⟩ := h2.ex
      have hap := logged_drw hP.drw hP.ltG size HSZ.out r HFT.out
      rw [HRV.out] at hap
      have HAP := Lib.hid hap; have H2 := Lib.hid (And.intro h2 (And.intro hP hF)); have HB2 := Lib.hid (HB1.out.trans (hb2.mono HB1.out.size))
      clear hap h2 hP hF he2 hb2 HT
      go_wp2_with fail
      go_still_tail 9, (by kernel_rfl)
      change wpList _ _ _ _ _ w2.drew
      rw [← hx2]
      clear hx2
      go_wp2_with fail
      refine HAP.out.mono ?_
      rintro e w3 ⟨rfl, hd3, ht3⟩
      rw [HLO.out]
      obtain ⟨h2, hP, hF⟩ := H2.out
      have HF := Lib.hid (show SPost W F X E C room size w (⟨(logD room size s.A r).1, s.L, s.last⟩, lo) (.returned (.int .i64 (lo : Int))) w3 from ⟨rfl, NextSf.trans (F' := F) (fun k hk => .inl hk) (Heap.Touch.ofBelow HB2.out) (h2.drwS hP hF hd3 ht3)⟩)
      clear h2 hP hF hd3 ht3 HAP H2 HB2
      go_wp2_with fail
      go_ret
      exact HF.out
  · rw [if_pos hty]
    generalize tryD s.L s.last r = lo at *
    have hlz : ¬ (lo : Int) = 0 := by omega
    go_enter Tryz.func65, Tryz.ntmps65
    go_upto_region 1 with fail
    rw [← hw1, HBX.out]
    clear hw1
    go_wp2_with fail
    go_still_tail 5, (by kernel_rfl)
    change wpList _ _ _ _ _ w1.drew
    rw [← hx1]
    clear hx1
    go_wp2_with fail
    refine HT.out.mono ?_
    rintro e w2 ⟨rfl, hb2⟩
    have HF := Lib.hid (show SPost W F X E C room size w (s, lo) (.returned (.int .i64 (lo : Int))) w2 from ⟨rfl, NextSf.trans (F' := F) (fun k hk => .inl hk) (Heap.Touch.ofBelow HB1.out) (NextSf.same H1.out hb2)⟩)
    clear hb2
    go_wp2_with fail
    go_ret
    exact HF.out
end
end Go.Proofs.YtidacfhdhdnidaaGreatDoor.Vlt
