/- Parts of the proof, joined: rillref.Logged, walked.; rillref.Rewritten, walked. -/
import Derived.Test.YtbgchhgdlceceaaGreatDoorLogPlaysUptoM21
import Derived.Deep.DeepCutAuto
namespace Go.Proofs.YtbgchhgdlceceaaGreatDoor.Log
open Go.RowKit Heap Dsk Drw
open Subj (ML)
open Rec (Rc recErr recA rcOf codedL refRecord_any coded_any)
open Sto (RecsAt Fits parts sixC recV)

section
variable {W w : World} {G : Nat → Prop} {E : Nat} {room : Int} {A : List FileP}

/-- What Logged leaves. -/
def LogPost (W : World) (G : Nat → Prop) (E : Nat) (room : Int) (w : World) (o : List FileP × Nat) (e : Ending) (w' : World) : Prop :=
  e = .returned (.int .i64 (o.2 : Nat)) ∧ DrawAt W (Dsk.Grow G w) E room o.1 w' ∧ Heap.Touch G w w'

theorem LogPost.of {w0 w1 w' : World} {o : List FileP × Nat} {e : Ending} (h : DrawAt W G E room A w) (t0 : Heap.Touch G w w1) (h1 : e = .returned (.int .i64 (o.2 : Nat)) ∧ DrawAt W (Dsk.Grow G w1) E room o.1 w' ∧ Heap.Touch G w1 w') : LogPost W G E room w o e w' := by
  refine ⟨h1.1, h1.2.1.mono (fun k hk => hk.imp_right fun e => Nat.le_trans t0.size e) (fun k hk => ?_), t0.after h1.2.2⟩
  rcases hk with e | e
  · exact h.newG k e
  · exact Nat.le_trans h.below.size e

set_option maxHeartbeats 4000000 in
set_option maxRecDepth 100000 in
theorem logged_drw (h : DrawAt W G E room A w) (hlt : ∀ k, G k → k < w.heap.size) (size : Int) (hsz : 1 ≤ size ∧ size ≤ 4096) (r : Rc) (hf : Fits r) :
    Calls Tryz.prog 47 #[.pointer (some ⟨E, 0, none⟩), .int .i64 size, recV r] w (LogPost W G E room w (logD room size A r)) := by
  obtain ⟨sb, hd, d, hp⟩ := parts r
  have hrv : recV r = .agg #[.int .i64 r.kind, .int .i64 r.seq, .int .i64 r.time, .string sb, .string hd, .string d] := by rw [← hp.s1, ← hp.h1, ← hp.d1]; rfl
  have hrc := hp.rc
  have hss : sb.size ≤ 1048576 ∧ hd.size ≤ 1048576 ∧ d.size ≤ 1048576 := by rw [hp.s3, hp.h3, hp.d3]; exact ⟨hf.s, hf.h, hf.d⟩
  obtain ⟨w1, hw1⟩ : ∃ w1, w1 = w.alloc (.cells #[.int .i64 r.kind, .int .i64 r.seq, .int .i64 r.time, .string sb, .string hd, .string d] 33) := ⟨_, rfl⟩
  have hb1 : Below w.heap.size w w1 := by rw [hw1]; exact (Below.refl _ _).alloc (Nat.le_refl _) _
  have he1 : w1.heap[w.heap.size]? = some (.cells #[.int .i64 r.kind, .int .i64 r.seq, .int .i64 r.time, .string sb, .string hd, .string d] 33 (0, 0)) := by rw [hw1]; exact heap_alloc_new w _
  obtain ⟨bx, hbx⟩ : ∃ bx, w.heap.size = bx := ⟨_, rfl⟩
  rw [hbx] at he1
  obtain ⟨q0, q1, q2, q3, q4, q5⟩ := sixC he1
  have HRE := Lib.hid (fun w : World => (by have := refRecord_any r.kind r.seq r.time sb hd d w hss.1 hss.2.1 hss.2.2; rw [hrc] at this; exact this : Calls Tryz.prog 114 #[.agg (recA r.kind r.seq r.time sb hd d)] w fun e w' => e = .returned (.int .i64 (recErr r)) ∧ Below w.heap.size w w'))
  unfold recA at HRE
  rw [hrv]
  have HB1 := Lib.hid hb1; have HE1 := Lib.hid he1; have HBX := Lib.hid hbx; have HH := Lib.hid h; have HLT := Lib.hid hlt
  clear hlt
  by_cases her : recErr r = 0
  · have hlo : logD room size A r = putD room size A (codedL r) := by unfold logD; rw [if_neg (by simp [her])]
    rw [hlo, ]
    have hz := Rec.recErr_sizes her
    have HCO := Lib.hid (fun w : World => (by have := coded_any r.kind r.seq r.time sb hd d w (by omega) (by omega) (by have := hz.2.2.2.1; unfold Rec.far at this; omega) (by have := hz.2.2.2.2.2.1; unfold Rec.far at this; omega) hss.1 hss.2.1 hss.2.2; rw [hrc] at this; exact this : Calls Tryz.prog 115 #[.agg (recA r.kind r.seq r.time sb hd d)] w fun e w' => e = .returned (.string ⟨(codedL r).toArray⟩) ∧ Below w.heap.size w w'))
    have hcl := codedL_len her
    rw [her] at HRE
    unfold recA at HCO
    generalize codedL r = C at *
    obtain ⟨X, hX⟩ : ∃ X : ByteArray, (⟨C.toArray⟩ : ByteArray) = X := ⟨_, rfl⟩
    have hXl : X.data.toList = C := by rw [← hX]
    have hXs : X.size = C.length := by rw [← hX]; show C.toArray.size = _; simp
    rw [hX] at HCO
    have HXL := Lib.hid hXl
    rw [← hXs] at hcl
    obtain ⟨n, hn⟩ : ∃ n, A.length = n := ⟨_, rfl⟩
    have hfew := h.right.few
    rw [hn] at hfew
    have HN := Lib.hid hn
    cases hla : A.getLast? with
    | none =>
      have hput : putD room size A C = appD room A 0 C := by unfold putD; rw [hla]
      rw [hput]
      have hA0 := last_none hla
      have hn0 : n = 0 := by rw [← hn, hA0]; rfl
      subst hn0
      clear h hf hp hrv hrc hss hb1 he1 hbx her hlo hz hX hXl hXs hn hla hput hA0
      go_enter Tryz.func47, Tryz.ntmps47
      go_upto_region 1 with fail
      rw [← hw1, HBX.out]
      clear hw1
      go_wp2_with fail
      refine (HRE.out _).mono ?_
      rintro e w2 ⟨rfl, hb2⟩
      have hb02 := hb2
      have he2 : w2.heap[bx]? = _ := (hb2.block bx (heap_lt HE1.out)).trans HE1.out
      clear q0 q1 q2 q3 q4 q5
      obtain ⟨q0, q1, q2, q3, q4, q5⟩ := sixC he2
      have HB2 := Lib.hid (HB1.out.trans (hb2.mono HB1.out.size)); have HE2 := Lib.hid he2
      clear hb2 hb02 he2 HRE
      go_wp2_with fail
      refine (HCO.out _).mono ?_
      rintro e w3 ⟨rfl, hb3⟩
      have HB3 := Lib.hid (HB2.out.trans (hb3.mono HB2.out.size))
      have hd3 := HH.out.next HB3.out
      obtain ⟨v, h1, h2, h3⟩ := hd3.mem
      rw [HN.out] at h2
      obtain ⟨va, vc, rfl⟩ := h2.slice
      obtain ⟨c0, c1, cf⟩ := drawCells h1
      have hap := append_drw hd3 0 X (by omega)
      rw [HXL.out] at hap
      have HAP := Lib.hid hap
      clear hb3 hd3 h1 h2 h3 hap HCO q0 q1 q2 q3 q4 q5
      go_wp2_with fail
      refine HAP.out.mono ?_
      rintro e w4 ⟨rfl, hd4, ht4⟩
      have HF := Lib.hid (LogPost.of (w0 := w) HH.out (Heap.Touch.ofBelow HB3.out) ⟨rfl, hd4, ht4⟩)
      clear hd4 ht4 HAP
      go_wp2_with fail
      go_ret
      exact HF.out
    | some p =>
      obtain ⟨hmem, hpos, hget⟩ := last_some hla
      have hpn := h.right.num p hmem
      have hpl := h.right.len hmem
      rw [hn] at hpos hget
      obtain ⟨T, hT, hTs, hTl⟩ := text_of p.text
      rw [← hTs] at hpl
      have HGE := Lib.hid hget; have HT := Lib.hid hT
      have hnz : ¬ (n : Int) = 0 := by omega
      have hn1 : ((n : Int) == 0) = false := by simpa using hnz
      have hput : putD room size A C = if 0 < T.size ∧ size < T.size + X.size then appD room (syncD A p.n).1 (p.n + 1) C else appD room A p.n C := by unfold putD; rw [hla, hTs, hXs]
      rw [hput]
      have hwr : IntKind.i64.wrap ((T.size : Int) + (X.size : Int)) = (T.size : Int) + (X.size : Int) := IntWalk.i64_in _ (by omega)
      have h3 : ¬ 0 < T.size ∨ (0 < T.size ∧ ¬ size < T.size + X.size) ∨ (0 < T.size ∧ size < T.size + X.size) := by omega
      clear hf hp hrv hrc hss hb1 he1 hbx her hlo hz hX hXl hXs hn hla hput hT hTs hTl hmem hget
      rcases h3 with hz | ⟨hz, hz2⟩ | ⟨hz, hz2⟩
      · rw [if_neg (fun e => hz e.1)]
        have hzz : ¬ (0 : Int) < (T.size : Nat) := by omega
        clear h hz
        go_enter Tryz.func47, Tryz.ntmps47
        go_upto_region 1 with fail
        rw [← hw1, HBX.out]
        clear hw1
        go_wp2_with fail
        refine (HRE.out _).mono ?_
        rintro e w2 ⟨rfl, hb2⟩
        have he2 : w2.heap[bx]? = _ := (hb2.block bx (heap_lt HE1.out)).trans HE1.out
        clear q0 q1 q2 q3 q4 q5
        obtain ⟨q0, q1, q2, q3, q4, q5⟩ := sixC he2
        have HB2 := Lib.hid (HB1.out.trans (hb2.mono HB1.out.size)); have HE2 := Lib.hid he2
        clear hb2 he2 HRE
        go_wp2_with fail
        refine (HCO.out _).mono ?_
        rintro e w3 ⟨rfl, hb3⟩
        have HB3 := Lib.hid (HB2.out.trans (hb3.mono HB2.out.size))
        have hd3 := HH.out.next HB3.out
        obtain ⟨v, h1, h2, h3⟩ := hd3.mem
        rw [HN.out] at h2
        obtain ⟨g, off, vc, rfl⟩ : ∃ g off vc, v = .slice (some ⟨g, off, none⟩) n vc := by
          rcases h2.2 with ⟨_, e0⟩ | ⟨g, off, cap, cur, e, _⟩
          · omega
          · exact ⟨g, off, cap, e⟩
        obtain ⟨c0, c1, cf⟩ := drawCells h1
        obtain ⟨d0, d1, d2⟩ := cells_pull h2 (n - 1) p HGE.out (by omega)
        rw [← HT.out] at d2
        obtain ⟨w4, hw4⟩ : ∃ w4, w4 = w3.alloc (.cells #[.int .i64 p.n, .int .i64 (p.sure : Nat), .string T] 101) := ⟨_, rfl⟩
        have hb4 : Below w3.heap.size w3 w4 := by rw [hw4]; exact (Below.refl _ _).alloc (Nat.le_refl _) _
        have he4 : w4.heap[w3.heap.size]? = some (.cells #[.int .i64 p.n, .int .i64 (p.sure : Nat), .string T] 101 (0, 0)) := by rw [hw4]; exact heap_alloc_new w3 _
        have HNG4 := Lib.hid (show ¬ G w3.heap.size from fun e => by have := HLT.out _ e; have := HB3.out.size; omega)
        obtain ⟨b4, hb4e⟩ : ∃ b4, w3.heap.size = b4 := ⟨_, rfl⟩
        rw [hb4e] at he4 HNG4
        obtain ⟨x0, x1, x2, xf⟩ := threeC he4
        have HB4 := Lib.hid (HB3.out.trans (hb4.mono HB3.out.size))
        have HD4 := Lib.hid (hd3.next hb4)
        have HE4 := Lib.hid he4; have HBB := Lib.hid hb4e
        clear hb3 hd3 h1 h2 h3 HCO q0 q1 q2 q3 q4 q5 hb4 he4 hb4e
        go_upto_region 9 with fail
        rw [← hw4, HBB.out]
        clear hw4 d0 d1 d2 c0 c1 cf
        have hap := append_drw HD4.out p.n X (by omega)
        rw [HXL.out] at hap
        have HAP := Lib.hid hap
        clear hap
        go_wp2_with fail
        refine HAP.out.mono ?_
        rintro e w5 ⟨rfl, hd5, ht5⟩
        have HF := Lib.hid (LogPost.of (w0 := w) HH.out (Heap.Touch.ofBelow HB4.out) ⟨rfl, hd5, ht5⟩)
        clear hd5 ht5 HAP
        go_wp2_with fail
        go_ret
        exact HF.out
      · rw [if_neg (fun e => hz2 e.2)]
        have hzz : (0 : Int) < (T.size : Nat) := by omega
        have hzz2 : ¬ size < (T.size : Int) + (X.size : Int) := by omega
        clear h hz hz2
        go_enter Tryz.func47, Tryz.ntmps47
        go_upto_region 1 with fail
        rw [← hw1, HBX.out]
        clear hw1
        go_wp2_with fail
        refine (HRE.out _).mono ?_
        rintro e w2 ⟨rfl, hb2⟩
        have he2 : w2.heap[bx]? = _ := (hb2.block bx (heap_lt HE1.out)).trans HE1.out
        clear q0 q1 q2 q3 q4 q5
        obtain ⟨q0, q1, q2, q3, q4, q5⟩ := sixC he2
        have HB2 := Lib.hid (HB1.out.trans (hb2.mono HB1.out.size)); have HE2 := Lib.hid he2
        clear hb2 he2 HRE
        go_wp2_with fail
        refine (HCO.out _).mono ?_
        rintro e w3 ⟨rfl, hb3⟩
        have HB3 := Lib.hid (HB2.out.trans (hb3.mono HB2.out.size))
        have hd3 := HH.out.next HB3.out
        obtain ⟨v, h1, h2, h3⟩ := hd3.mem
        rw [HN.out] at h2
        obtain ⟨g, off, vc, rfl⟩ : ∃ g off vc, v = .slice (some ⟨g, off, none⟩) n vc := by
          rcases h2.2 with ⟨_, e0⟩ | ⟨g, off, cap, cur, e, _⟩
          · omega
          · exact ⟨g, off, cap, e⟩
        obtain ⟨c0, c1, cf⟩ := drawCells h1
        obtain ⟨d0, d1, d2⟩ := cells_pull h2 (n - 1) p HGE.out (by omega)
        rw [← HT.out] at d2
        obtain ⟨w4, hw4⟩ : ∃ w4, w4 = w3.alloc (.cells #[.int .i64 p.n, .int .i64 (p.sure : Nat), .string T] 101) := ⟨_, rfl⟩
        have hb4 : Below w3.heap.size w3 w4 := by rw [hw4]; exact (Below.refl _ _).alloc (Nat.le_refl _) _
        have he4 : w4.heap[w3.heap.size]? = some (.cells #[.int .i64 p.n, .int .i64 (p.sure : Nat), .string T] 101 (0, 0)) := by rw [hw4]; exact heap_alloc_new w3 _
        have HNG4 := Lib.hid (show ¬ G w3.heap.size from fun e => by have := HLT.out _ e; have := HB3.out.size; omega)
        obtain ⟨b4, hb4e⟩ : ∃ b4, w3.heap.size = b4 := ⟨_, rfl⟩
        rw [hb4e] at he4 HNG4
        obtain ⟨x0, x1, x2, xf⟩ := threeC he4
        have HB4 := Lib.hid (HB3.out.trans (hb4.mono HB3.out.size))
        have HD4 := Lib.hid (hd3.next hb4)
        have HE4 := Lib.hid he4; have HBB := Lib.hid hb4e
        clear hb3 hd3 h1 h2 h3 HCO q0 q1 q2 q3 q4 q5 hb4 he4 hb4e
        go_upto_region 9 with fail
        rw [← hw4, HBB.out]
        clear hw4 d0 d1 d2 c0 c1 cf
        have hap := append_drw HD4.out p.n X (by omega)
        rw [HXL.out] at hap
        have HAP := Lib.hid hap
        clear hap
        go_wp2_with fail
        refine HAP.out.mono ?_
        rintro e w5 ⟨rfl, hd5, ht5⟩
        have HF := Lib.hid (LogPost.of (w0 := w) HH.out (Heap.Touch.ofBelow HB4.out) ⟨rfl, hd5, ht5⟩)
        clear hd5 ht5 HAP
        go_wp2_with fail
        go_ret
        exact HF.out
      · rw [if_pos ⟨hz, hz2⟩]
        have hzz : (0 : Int) < (T.size : Nat) := by omega
        have hzz2 : size < (T.size : Int) + (X.size : Int) := by omega
        clear h hz hz2
        go_enter Tryz.func47, Tryz.ntmps47
        go_upto_region 1 with fail
        rw [← hw1, HBX.out]
        clear hw1
        go_wp2_with fail
        refine (HRE.out _).mono ?_
        rintro e w2 ⟨rfl, hb2⟩
        have he2 : w2.heap[bx]? = _ := (hb2.block bx (heap_lt HE1.out)).trans HE1.out
        clear q0 q1 q2 q3 q4 q5
        obtain ⟨q0, q1, q2, q3, q4, q5⟩ := sixC he2
        have HB2 := Lib.hid (HB1.out.trans (hb2.mono HB1.out.size)); have HE2 := Lib.hid he2
        clear hb2 he2 HRE
        go_wp2_with fail
        refine (HCO.out _).mono ?_
        rintro e w3 ⟨rfl, hb3⟩
        have HB3 := Lib.hid (HB2.out.trans (hb3.mono HB2.out.size))
        have hd3 := HH.out.next HB3.out
        obtain ⟨v, h1, h2, h3⟩ := hd3.mem
        rw [HN.out] at h2
        obtain ⟨g, off, vc, rfl⟩ : ∃ g off vc, v = .slice (some ⟨g, off, none⟩) n vc := by
          rcases h2.2 with ⟨_, e0⟩ | ⟨g, off, cap, cur, e, _⟩
          · omega
          · exact ⟨g, off, cap, e⟩
        obtain ⟨c0, c1, cf⟩ := drawCells h1
        obtain ⟨d0, d1, d2⟩ := cells_pull h2 (n - 1) p HGE.out (by omega)
        rw [← HT.out] at d2
        obtain ⟨w4, hw4⟩ : ∃ w4, w4 = w3.alloc (.cells #[.int .i64 p.n, .int .i64 (p.sure : Nat), .string T] 101) := ⟨_, rfl⟩
        have hb4 : Below w3.heap.size w3 w4 := by rw [hw4]; exact (Below.refl _ _).alloc (Nat.le_refl _) _
        have he4 : w4.heap[w3.heap.size]? = some (.cells #[.int .i64 p.n, .int .i64 (p.sure : Nat), .string T] 101 (0, 0)) := by rw [hw4]; exact heap_alloc_new w3 _
        have HNG4 := Lib.hid (show ¬ G w3.heap.size from fun e => by have := HLT.out _ e; have := HB3.out.size; omega)
        obtain ⟨b4, hb4e⟩ : ∃ b4, w3.heap.size = b4 := ⟨_, rfl⟩
        rw [hb4e] at he4 HNG4
        obtain ⟨x0, x1, x2, xf⟩ := threeC he4
        have HB4 := Lib.hid (HB3.out.trans (hb4.mono HB3.out.size))
        have HD4 := Lib.hid (hd3.next hb4)
        have HE4 := Lib.hid he4; have HBB := Lib.hid hb4e
        clear hb3 hd3 h1 h2 h3 HCO q0 q1 q2 q3 q4 q5 hb4 he4 hb4e
        go_upto_region 9 with fail
        rw [← hw4, HBB.out]
        clear hw4 d0 d1 d2 c0 c1 cf
        have HSY := Lib.hid (sync_drw HD4.out p.n)
        go_wp2_with fail
        refine HSY.out.mono ?_
        rintro e w5 ⟨rfl, hd5, ht5⟩
        have he5 : w5.heap[b4]? = _ := (ht5.block b4 (heap_lt HE4.out) HNG4.out).trans HE4.out
        clear x0 x1 x2 xf
        obtain ⟨x0, x1, x2, xf⟩ := threeC he5
        have hap := append_drw hd5 (p.n + 1) X (by omega)
        rw [HXL.out] at hap
        have HAP := Lib.hid hap
        have HT5 := Lib.hid ((Heap.Touch.ofBelow HB4.out).after ht5)
        clear hap hd5 ht5 he5 HSY
        go_wp2_with fail
        refine HAP.out.mono ?_
        rintro e w6 ⟨rfl, hd6, ht6⟩
        have HF := Lib.hid (LogPost.of (w0 := w) HH.out HT5.out ⟨rfl, hd6, ht6⟩)
        clear hd6 ht6 HAP HT5
        go_wp2_with fail
        go_ret
        exact HF.out
  · have hlo : logD room size A r = (A, recErr r) := by unfold logD; rw [if_pos her]
    rw [hlo]
    generalize recErr r = C at *
    have hC : ¬ (C : Int) = 0 := by omega
    clear h hf hp hrv hrc hss hb1 he1 hbx her hlo
    go_enter Tryz.func47, Tryz.ntmps47
    go_upto_region 1 with fail
    rw [← hw1, HBX.out]
    clear hw1
    go_wp2_with fail
    refine (HRE.out _).mono ?_
    rintro e w2 ⟨rfl, hb2⟩
    have HB2 := Lib.hid (HB1.out.trans (hb2.mono HB1.out.size))
    clear hb2 HRE
    go_wp2_with fail
    go_ret
    exact ⟨rfl, (HH.out.next HB2.out).mono (fun k hk => .inl hk) (fun k hk => hk.elim (HH.out.newG k) fun e => Nat.le_trans HH.out.below.size e), Heap.Touch.ofBelow HB2.out⟩
end
end Go.Proofs.YtbgchhgdlceceaaGreatDoor.Log

namespace Go.Proofs.YtbgchhgdlceceaaGreatDoor.Log
open Go.RowKit Heap Dsk Drw
open Subj (ML)
open Rec (Rc recErr recA rcOf codedL refRecord_any coded_any)
open Sto (RecsAt Fits parts sixC recV)

section
variable {W w : World} {G : Nat → Prop} {E : Nat} {room size : Int} {A : List FileP}

theorem total_one (q : FileP) : total [q] = q.text.length := by simp [total]

/-- A disk of one block. -/
theorem right_one {room : Int} {A : List FileP} {q : FileP} (h : RightD room (A ++ [q])) (p : FileP) (hn : p.n = q.n) (ht : p.text = q.text) (hs : p.sure = p.text.length) : RightD room [p] := by
  have hq := h.num q (by simp)
  have hf := h.fits
  have hl := le_total (A := A ++ [q]) (p := q) (by simp)
  refine ⟨List.pairwise_singleton _ _, by simp, ?_, h.small, fun x hx => ?_, fun x hx => ?_⟩
  · rw [total_one, ht]; omega
  · simp at hx; subst hx; omega
  · simp at hx; subst hx; rw [hn]; exact hq

set_option maxHeartbeats 4000000 in
set_option maxRecDepth 100000 in
theorem rewritten_drw (hD : DrawAt W G E room A w) (hlt : ∀ k, G k → k < w.heap.size) {v : Value} {rs : List Rc} (hl : RecsAt w v rs) (hn : rs.length ≤ 100000) (hf : ∀ r ∈ rs, Fits r) :
    Calls Tryz.prog 53 #[.pointer (some ⟨E, 0, none⟩), .int .i64 size, v] w (LogPost W G E room w (rewD room size A rs)) := by
  obtain ⟨n, hnL⟩ : ∃ n, rs.length = n := ⟨_, rfl⟩
  have HN := Lib.hid hnL
  obtain ⟨ao, cap, rfl, ha⟩ := hl
  have HL := Lib.hid (show RecsAt w (.slice ao rs.length cap) rs from ⟨ao, cap, rfl, ha⟩); have HF := Lib.hid hf
  have HDD := Lib.hid hD; have HLT := Lib.hid hlt
  rw [hnL] at hn ⊢
  have h0 := Lib.hid (show R1 w rs 0 ByteArray.empty w from ⟨rfl, rfl, Below.refl _ _⟩)
  clear ha hf hnL hD hlt
  go_enter Tryz.func53, Tryz.ntmps53
  go_wp2_with fail
  go_loopw [7, 8] (fun t i wr => ∃ (k : Nat) (T : ByteArray), k ≤ n ∧ i = .int .i64 k ∧ t = .string T ∧ Hid (R1 w rs k T wr)) (fun _ i _ => n - (intOf i).toNat)
  case atStart => exact ⟨0, _, Nat.zero_le _, rfl, rfl, h0⟩
  case round =>
    obtain ⟨k, T, hk, rfl, rfl, HR⟩ := hrel
    clear h0
    obtain ⟨he0, hT, hbw⟩ := HR.out
    have hTs : T.size = (textsL (rs.take k)).length := by rw [← hT]; show T.data.size = _; simp
    have hTl := textsL_len he0
    have hTl2 : T.size ≤ 1037 * 100000 := by
      rw [hTs]
      have : (rs.take k).length ≤ k := by simp; omega
      omega
    clear hTs hTl
    by_cases hlt : k < n
    · have hltz : (k : Int) < n := by omega
      obtain ⟨p, hp⟩ : ∃ p, rs[k]? = some p := ⟨_, List.getElem?_eq_getElem (by rw [HN.out]; exact hlt)⟩
      obtain ⟨hx1, hx2⟩ := errL_take hp he0
      have hlr := HL.out.below hbw (Nat.le_refl _)
      obtain ⟨ao', cap', hv, ha⟩ := hlr
      simp only [Value.slice.injEq, true_and] at hv
      obtain ⟨rfl, rfl⟩ := hv
      obtain ⟨g, off, rfl, hcs⟩ := ha (fun e => by rw [e] at hp; simp at hp)
      obtain ⟨m0, m1, m2, m3, m4, m5⟩ := hcs k p hp
      have hfp := HF.out p (List.mem_of_getElem? hp)
      have htx := textsL_take hp
      obtain ⟨s, h, d, hpp⟩ := parts p
      have hrc := hpp.rc
      rw [hpp.s1] at m3
      rw [hpp.h1] at m4
      rw [hpp.d1] at m5
      have hss : s.size ≤ 1048576 ∧ h.size ≤ 1048576 ∧ d.size ≤ 1048576 := by
        rw [hpp.s3, hpp.h3, hpp.d3]; exact ⟨hfp.s, hfp.h, hfp.d⟩
      have hre := refRecord_any p.kind p.seq p.time s h d wr hss.1 hss.2.1 hss.2.2
      rw [hrc] at hre
      have HRE := Lib.hid hre
      unfold recA at HRE
      have HBW := Lib.hid hbw
      by_cases her : recErr p = 0
      · have hz := Rec.recErr_sizes her
        have HCO := Lib.hid (fun w : World => (by have := coded_any p.kind p.seq p.time s h d w (by omega) (by omega) (by have := hz.2.2.2.1; unfold Rec.far at this; omega) (by have := hz.2.2.2.2.2.1; unfold Rec.far at this; omega) hss.1 hss.2.1 hss.2.2; rw [hrc] at this; exact this : Calls Tryz.prog 115 #[.agg (recA p.kind p.seq p.time s h d)] w fun e w' => e = .returned (.string ⟨(codedL p).toArray⟩) ∧ Below w.heap.size w w'))
        have hcl := codedL_len her
        obtain ⟨X, hX⟩ : ∃ X : ByteArray, (⟨(codedL p).toArray⟩ : ByteArray) = X := ⟨_, rfl⟩
        have hXs : X.size = (codedL p).length := by rw [← hX]; show (codedL p).toArray.size = _; simp
        have hTE : (T ++ X).data.toList = textsL (rs.take (k + 1)) := by rw [htx, ← hT, ← hX]; simp
        rw [hX] at HCO
        rw [← hXs] at hcl
        unfold recA at HCO
        have hsum : ¬ 9223372036854775807 < T.size + X.size := by omega
        have HTE := Lib.hid hTE; have HE1 := Lib.hid (hx1.trans her)
        have hcells : ∀ w', Below wr.heap.size wr w' → w'.cell? ⟨g, off + k * 6, none⟩ = some (.int .i64 p.kind) ∧ w'.cell? ⟨g, off + k * 6 + 1, none⟩ = some (.int .i64 p.seq) ∧ w'.cell? ⟨g, off + k * 6 + 2, none⟩ = some (.int .i64 p.time) ∧ w'.cell? ⟨g, off + k * 6 + 3, none⟩ = some (.string s) ∧ w'.cell? ⟨g, off + k * 6 + 4, none⟩ = some (.string h) ∧ w'.cell? ⟨g, off + k * 6 + 5, none⟩ = some (.string d) := fun w' hb => by
          have hg : g < wr.heap.size := World.block_lt_of_cell? wr _ m0
          have hblk := hb.block g hg
          exact ⟨(World.cell?_of_block (a := ⟨g, off + k * 6, none⟩) hblk).trans m0, (World.cell?_of_block (a := ⟨g, off + k * 6 + 1, none⟩) hblk).trans m1, (World.cell?_of_block (a := ⟨g, off + k * 6 + 2, none⟩) hblk).trans m2, (World.cell?_of_block (a := ⟨g, off + k * 6 + 3, none⟩) hblk).trans m3, (World.cell?_of_block (a := ⟨g, off + k * 6 + 4, none⟩) hblk).trans m4, (World.cell?_of_block (a := ⟨g, off + k * 6 + 5, none⟩) hblk).trans m5⟩
        have HCELLS := Lib.hid hcells
        rw [her] at HRE
        clear hp hx1 hx2 ha hcs hfp htx hpp hrc hss hre her hX hXs hTE he0 hT hbw HR hz hcells
        go_wp2_with fail
        refine HRE.out.mono ?_
        rintro e w3 ⟨rfl, hb3⟩
        clear m0 m1 m2 m3 m4 m5
        obtain ⟨m0, m1, m2, m3, m4, m5⟩ := HCELLS.out w3 hb3
        have HB3 := Lib.hid (HBW.out.trans (hb3.mono HBW.out.size))
        clear hb3 HRE
        go_wp2_with fail
        refine (HCO.out _).mono ?_
        rintro e w4 ⟨rfl, hb4⟩
        have HNX := Lib.hid (show R1 w rs (k + 1) (T ++ X) w4 from ⟨HE1.out, HTE.out, HB3.out.trans (hb4.mono HB3.out.size)⟩)
        clear hb4 HCO m0 m1 m2 m3 m4 m5
        go_wp2_with fail
        exact ⟨⟨k + 1, T ++ X, by omega, by go_num, rfl, HNX⟩, by simp [intOf]; omega⟩
      · have hrw : rewD room size A rs = (A, recErr p) := by
          unfold rewD
          rw [if_pos (by rw [hx2 her]; exact her), hx2 her]
        rw [hrw]
        generalize recErr p = C at *
        have hC : ¬ (C : Int) = 0 := by omega
        clear hp hx1 hx2 ha hcs hfp htx hpp hrc hss hre her he0 hT hbw HR hrw
        go_wp2_with fail
        refine HRE.out.mono ?_
        rintro e w4 ⟨rfl, hb4⟩
        have HB4 := Lib.hid (HBW.out.trans (hb4.mono HBW.out.size))
        clear hb4 HRE m0 m1 m2 m3 m4 m5
        go_wp2_with fail
        go_ret
        exact ⟨rfl, (HDD.out.next HB4.out).mono (fun k hk => .inl hk) (fun k hk => hk.elim (HDD.out.newG k) fun e => Nat.le_trans HDD.out.below.size e), Heap.Touch.ofBelow HB4.out⟩
    · have hltz : ¬ (k : Int) < n := by omega
      obtain rfl : k = n := by omega
      rw [List.take_of_length_le (by rw [HN.out]; exact Nat.le_refl _)] at he0 hT
      have hTs : T.size = (textsL rs).length := by rw [← hT]; show T.data.size = _; simp
      have HE0 := Lib.hid he0; have HT := Lib.hid hT; have HBW := Lib.hid hbw; have HTS := Lib.hid hTs
      clear he0 hT HR hbw hTs
      by_cases hfull : 1 < rs.length ∧ size < (textsL rs).length
      · have hf1 : (1 : Int) < (k : Nat) := by have := hfull.1; rw [HN.out] at this; omega
        have hf2 : size < (T.size : Nat) := by rw [HTS.out]; exact hfull.2
        have hrw : rewD room size A rs = (A, 8) := by unfold rewD; rw [if_neg (by rw [HE0.out]; simp), if_pos hfull]
        have HRW := Lib.hid hrw
        clear hfull hrw
        go_wp2_with fail
        go_ret
        rw [HRW.out]
        exact ⟨rfl, (HDD.out.next HBW.out).mono (fun k hk => .inl hk) (fun k hk => hk.elim (HDD.out.newG k) fun e => Nat.le_trans HDD.out.below.size e), Heap.Touch.ofBelow HBW.out⟩
      · have hff : ¬ (1 : Int) < (k : Nat) ∨ ((1 : Int) < (k : Nat) ∧ ¬ size < (T.size : Nat)) := by
          rw [HTS.out]
          rw [HN.out] at hfull
          omega
        have hrw : rewD room size A rs = if (appD room A ((lastD A).1 + 1) (textsL rs)).2 ≠ 0 then (A, (appD room A ((lastD A).1 + 1) (textsL rs)).2) else ([⟨(lastD A).1 + 1, textsL rs, (textsL rs).length⟩], 0) := by
          unfold rewD; rw [if_neg (by rw [HE0.out]; simp), if_neg hfull]
        have HRW := Lib.hid hrw
        have HTT := Lib.hid (show (⟨(textsL rs).toArray⟩ : ByteArray) = T by rw [← HT.out])
        clear hfull hrw
        have hd1 := HDD.out.next HBW.out
        obtain ⟨v1, h1, h2, h3⟩ := hd1.mem
        obtain ⟨c0, c1, cf⟩ := drawCells h1
        obtain ⟨L, hL⟩ : ∃ L, A.length = L := ⟨_, rfl⟩
        have hL20 : L ≤ 20 := by rw [← hL]; exact HDD.out.right.few
        rw [hL] at h2
        obtain ⟨va, vc, rfl⟩ := h2.slice
        have hra := rew_app (room := room) (A := A) (T := textsL rs) HDD.out.right.sorted
        have HRA0 := Lib.hid fun h => (hra h).1
        cases hla : A.getLast? with
        | none =>
          have hld : (lastD A).1 + 1 = 0 := by unfold lastD; rw [hla]; rfl
          have hA0 := last_none hla
          have hL0 : L = 0 := by rw [← hL, hA0]; rfl
          subst hL0
          have HRA := HRA0
          rw [hld] at HRA
          have HLD := Lib.hid hld
          have HDW := Lib.hid hd1
          have HBX := HBW
          clear h1 h2 h3 hL hd1 hra hla hld hA0 HRA0
          go_upto_region 9 with fail
          go_cut [41] from 33 to 41 (fun s41 wx => s41 = .bool false ∧ wr = wx)
          case first =>
            rcases hff with h1 | ⟨h1, h2⟩
            · go_wp2_with fail
              go_meet
              exact ⟨rfl, rfl⟩
            · go_wp2_with fail
              go_meet
              exact ⟨rfl, rfl⟩
          case rest =>
          obtain ⟨rfl, rfl⟩ := hcut
          clear hff
          have hap := append_drw HDW.out 0 T (by omega)
          rw [HT.out] at hap
          have HAP := Lib.hid hap
          clear hap
          go_wp2_with fail
          refine HAP.out.mono ?_
          rintro e w3 ⟨rfl, hd3, ht3⟩
          have HT3 := Lib.hid ((Heap.Touch.ofBelow HBX.out).after ht3)
          by_cases hok : (appD room A 0 (textsL rs)).2 = 0
          · have hrw := HRW.out
            rw [HLD.out] at hrw
            rw [if_neg (by show ¬ (appD room A 0 (textsL rs)).2 ≠ 0; simp [hok])] at hrw
            have hap1 := HRA.out hok
            rw [hap1] at hd3
            rw [hok]
            obtain ⟨v3, h1, h2, h3⟩ := hd3.mem
            obtain ⟨e0, e1, ef⟩ := drawCells h1
            have hE3 := heap_lt h1
            obtain ⟨w4, hw4⟩ : ∃ w4, w4 = (w3.setCell ⟨E, 1, none⟩ (.slice (some ⟨w3.heap.size, 0, none⟩) 1 1)).alloc (.cells #[.int .i64 0, .int .i64 (T.size : Nat), .string T] 101) := ⟨_, rfl⟩
            have hHE := HDD.out.gE
            have HF := Lib.hid (show LogPost W G E room w ([⟨0, textsL rs, (textsL rs).length⟩], 0) (.returned (.int .i64 ((0 : Nat) : Int))) w4 from by
              have htS : Heap.Touch (fun k => k = E) w3 (w3.setCell ⟨E, 1, none⟩ (.slice (some ⟨w3.heap.size, 0, none⟩) 1 1)) := Heap.Touch.setCell (F := fun k => k = E) (p := ⟨E, 1, none⟩) (Heap.Touch.refl _ w3) (.inl rfl) _
              have hES := heap_setCell_same w3 E 1 _ _ (.slice (some ⟨w3.heap.size, 0, none⟩) 1 1) h1
              have hzS : (w3.setCell ⟨E, 1, none⟩ (.slice (some ⟨w3.heap.size, 0, none⟩) 1 1)).heap.size = w3.heap.size := by simp [World.setCell]
              have hE4 : w4.heap[E]? = some (.cells #[.int .i64 room, .slice (some ⟨w3.heap.size, 0, none⟩) 1 1] 84 (0, 0)) := by
                rw [hw4, Below.heap_alloc _ _ _ (by rw [hzS]; exact hE3), hES]; rfl
              have hB4 : w4.heap[w3.heap.size]? = some (.cells #[.int .i64 0, .int .i64 (T.size : Nat), .string T] 101 (0, 0)) := by
                have := heap_alloc_new (w3.setCell ⟨E, 1, none⟩ (.slice (some ⟨w3.heap.size, 0, none⟩) 1 1)) (.cells #[.int .i64 0, .int .i64 (T.size : Nat), .string T] 101)
                rw [hzS] at this
                rw [hw4]; exact this
              have ht4 : Heap.Touch (fun k => k = E) w3 w4 := by
                rw [hw4]
                exact htS.alloc _
              have htt : Heap.Touch G w w4 := HT3.out.after (ht4.mono fun k _ e => by subst e; exact hHE)
              have hsz3 := HT3.out.size
              have hWn := HDD.out.below
              refine ⟨rfl, ⟨right_one hd3.right _ rfl rfl rfl, hWn.trans (htt.below hWn.size HDD.out.newG), fun k hk => hk.elim (HDD.out.newG k) fun e => Nat.le_trans hWn.size e, .inl hHE, _, hE4, ?_, fun k hk => ?_⟩, htt⟩
              · refine ⟨rfl, .inr ⟨w3.heap.size, 0, 1, _, rfl, hB4, Nat.le_refl _, by decide, by simp, ?_⟩⟩
                simp [plsV, cells, HTS.out, HTT.out]
              · simp [own, Value.ownBlock] at hk
                exact .inr (by omega))
            have HRW2 := Lib.hid hrw
            clear hd3 ht3 HAP hap1 h1 h2 h3 hrw hHE hok
            go_wp2_with fail
            rw [← hw4]
            go_ret
            rw [HRW2.out]
            exact HF.out
          · have hrw := HRW.out
            rw [HLD.out] at hrw
            rw [if_pos (by exact hok)] at hrw
            have hfa := app_fail hok
            rw [hfa] at hd3
            have HF := Lib.hid (show LogPost W G E room w (A, (appD room A 0 (textsL rs)).2) (.returned (.int .i64 ((appD room A 0 (textsL rs)).2 : Nat))) w3 from LogPost.of (w0 := w) HDD.out (Heap.Touch.ofBelow HBX.out) ⟨rfl, hd3, ht3⟩)
            have HRW2 := Lib.hid hrw
            clear hd3 ht3 HAP hfa hrw
            generalize (appD room A 0 (textsL rs)).2 = C at *
            have hC : ¬ (C : Int) = 0 := by omega
            go_wp2_with fail
            go_ret
            rw [HRW2.out]
            exact HF.out
        | some p =>
          obtain ⟨hmem, hpos, hget⟩ := last_some hla
          have hpn := HDD.out.right.num p hmem
          rw [hL] at hpos hget
          obtain ⟨g, off, rfl⟩ : ∃ g off, va = some ⟨g, off, none⟩ := by
            rcases h2.2 with ⟨_, e0⟩ | ⟨g, off, cap, cur, e, _⟩
            · omega
            · simp only [Value.slice.injEq] at e; exact ⟨g, off, e.1⟩
          obtain ⟨d0, d1, d2⟩ := cells_pull h2 (L - 1) p hget (by omega)
          have hnz : ¬ (L : Int) = 0 := by omega
          have hlz : (0 : Int) < (L : Nat) := by omega
          have hwp : IntKind.i64.wrap (p.n + 1) = p.n + 1 := IntWalk.i64_in _ (by omega)
          have hwl : IntKind.i64.wrap ((L : Int) - 1) = (L : Int) - 1 := IntWalk.i64_in _ (by omega)
          have hld : (lastD A).1 + 1 = p.n + 1 := by unfold lastD; rw [hla]
          have HRA := HRA0
          rw [hld] at HRA
          have HLD := Lib.hid hld
          have HDW0 := Lib.hid hd1
          clear h1 h2 h3 hL hd1 hra hla hld hmem hget d1 d2 HRA0
          go_upto_region 9 with fail
          go_cut [41] from 33 to 41 (fun s41 wx => s41 = .bool false ∧ wr = wx)
          case first =>
            rcases hff with h1 | ⟨h1, h2⟩
            · go_wp2_with fail
              go_meet
              exact ⟨rfl, rfl⟩
            · go_wp2_with fail
              go_meet
              exact ⟨rfl, rfl⟩
          case rest =>
          obtain ⟨rfl, rfl⟩ := hcut
          clear hff
          go_wp2_with fail
          go_quiet (fail)
          have HBX := Lib.hid (below_drewN HBW.out nq)
          have HDW := Lib.hid (HDW0.out.next (below_drewN (Below.refl _ _) nq))
          clear c0 c1 cf d0 hwp hwl
          have hap := append_drw HDW.out (p.n + 1) T (by omega)
          rw [HT.out] at hap
          have HAP := Lib.hid hap
          clear hap
          go_wp2_with fail
          refine HAP.out.mono ?_
          rintro e w3 ⟨rfl, hd3, ht3⟩
          have HT3 := Lib.hid ((Heap.Touch.ofBelow HBX.out).after ht3)
          by_cases hok : (appD room A (p.n + 1) (textsL rs)).2 = 0
          · have hrw := HRW.out
            rw [HLD.out] at hrw
            rw [if_neg (by show ¬ (appD room A (p.n + 1) (textsL rs)).2 ≠ 0; simp [hok])] at hrw
            have hap1 := HRA.out hok
            rw [hap1] at hd3
            rw [hok]
            obtain ⟨v3, h1, h2, h3⟩ := hd3.mem
            obtain ⟨e0, e1, ef⟩ := drawCells h1
            have hE3 := heap_lt h1
            obtain ⟨w4, hw4⟩ : ∃ w4, w4 = (w3.setCell ⟨E, 1, none⟩ (.slice (some ⟨w3.heap.size, 0, none⟩) 1 1)).alloc (.cells #[.int .i64 (p.n + 1), .int .i64 (T.size : Nat), .string T] 101) := ⟨_, rfl⟩
            have hHE := HDD.out.gE
            have HF := Lib.hid (show LogPost W G E room w ([⟨p.n + 1, textsL rs, (textsL rs).length⟩], 0) (.returned (.int .i64 ((0 : Nat) : Int))) w4 from by
              have htS : Heap.Touch (fun k => k = E) w3 (w3.setCell ⟨E, 1, none⟩ (.slice (some ⟨w3.heap.size, 0, none⟩) 1 1)) := Heap.Touch.setCell (F := fun k => k = E) (p := ⟨E, 1, none⟩) (Heap.Touch.refl _ w3) (.inl rfl) _
              have hES := heap_setCell_same w3 E 1 _ _ (.slice (some ⟨w3.heap.size, 0, none⟩) 1 1) h1
              have hzS : (w3.setCell ⟨E, 1, none⟩ (.slice (some ⟨w3.heap.size, 0, none⟩) 1 1)).heap.size = w3.heap.size := by simp [World.setCell]
              have hE4 : w4.heap[E]? = some (.cells #[.int .i64 room, .slice (some ⟨w3.heap.size, 0, none⟩) 1 1] 84 (0, 0)) := by
                rw [hw4, Below.heap_alloc _ _ _ (by rw [hzS]; exact hE3), hES]; rfl
              have hB4 : w4.heap[w3.heap.size]? = some (.cells #[.int .i64 (p.n + 1), .int .i64 (T.size : Nat), .string T] 101 (0, 0)) := by
                have := heap_alloc_new (w3.setCell ⟨E, 1, none⟩ (.slice (some ⟨w3.heap.size, 0, none⟩) 1 1)) (.cells #[.int .i64 (p.n + 1), .int .i64 (T.size : Nat), .string T] 101)
                rw [hzS] at this
                rw [hw4]; exact this
              have ht4 : Heap.Touch (fun k => k = E) w3 w4 := by
                rw [hw4]
                exact htS.alloc _
              have htt : Heap.Touch G w w4 := HT3.out.after (ht4.mono fun k _ e => by subst e; exact hHE)
              have hsz3 := HT3.out.size
              have hWn := HDD.out.below
              refine ⟨rfl, ⟨right_one hd3.right _ rfl rfl rfl, hWn.trans (htt.below hWn.size HDD.out.newG), fun k hk => hk.elim (HDD.out.newG k) fun e => Nat.le_trans hWn.size e, .inl hHE, _, hE4, ?_, fun k hk => ?_⟩, htt⟩
              · refine ⟨rfl, .inr ⟨w3.heap.size, 0, 1, _, rfl, hB4, Nat.le_refl _, by decide, by simp, ?_⟩⟩
                simp [plsV, cells, HTS.out, HTT.out]
              · simp [own, Value.ownBlock] at hk
                exact .inr (by omega))
            have HRW2 := Lib.hid hrw
            clear hd3 ht3 HAP hap1 h1 h2 h3 hrw hHE hok
            go_wp2_with fail
            rw [← hw4]
            go_ret
            rw [HRW2.out]
            exact HF.out
          · have hrw := HRW.out
            rw [HLD.out] at hrw
            rw [if_pos (by exact hok)] at hrw
            have hfa := app_fail hok
            rw [hfa] at hd3
            have HF := Lib.hid (show LogPost W G E room w (A, (appD room A (p.n + 1) (textsL rs)).2) (.returned (.int .i64 ((appD room A (p.n + 1) (textsL rs)).2 : Nat))) w3 from LogPost.of (w0 := w) HDD.out (Heap.Touch.ofBelow HBX.out) ⟨rfl, hd3, ht3⟩)
            have HRW2 := Lib.hid hrw
            clear hd3 ht3 HAP hfa hrw
            generalize (appD room A (p.n + 1) (textsL rs)).2 = C at *
            have hC : ¬ (C : Int) = 0 := by omega
            go_wp2_with fail
            go_ret
            rw [HRW2.out]
            exact HF.out
end
end Go.Proofs.YtbgchhgdlceceaaGreatDoor.Log
