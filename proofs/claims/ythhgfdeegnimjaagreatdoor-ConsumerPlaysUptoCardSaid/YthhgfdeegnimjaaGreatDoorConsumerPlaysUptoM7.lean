/- Parts of the proof, joined: Package subject, walked: both, Overlap, Covers.; slices.Insert of one element of 2 cells, walked. -/
import Derived.Test.YthhgfdeegnimjaaGreatDoorConsumerPlaysUptoM2
import Derived.Test.YthhgfdeegnimjaaGreatDoorConsumerPlaysUptoM5
import Derived.Deep.QuietTactic
import Derived.BigQuiet
import Derived.Test.YthhgfdeegnimjaaGreatDoorChecked
import Derived.Lib.AppendZerosOnto
import Derived.Lib.Overlaps
import Derived.Laws.CopyRow
import Derived.Shelf.Spec.SlicesInsert
import Derived.Deep.RegionLaw
namespace Go.Proofs.YthhgfdeegnimjaaGreatDoor.Subj
open Go.RowKit

theorem overlap_step (f g : List Tok) (k : Nat) (hf : k < f.length) (hg : k < g.length) : overlap (f.drop k) (g.drop k) =
    if (f.getD k [] == [62] || g.getD k [] == [62]) = true then true else (f.getD k [] == g.getD k [] || f.getD k [] == [42] || g.getD k [] == [42]) && overlap (f.drop (k + 1)) (g.drop (k + 1)) := by
  have h1 : f.drop k = f.getD k [] :: f.drop (k + 1) := by
    rw [List.drop_eq_getElem_cons hf]; simp [List.getD, hf]
  have h2 : g.drop k = g.getD k [] :: g.drop (k + 1) := by
    rw [List.drop_eq_getElem_cons hg]; simp [List.getD, hg]
  rw [h1, h2]
  rfl

theorem overlap_end (f g : List Tok) (k : Nat) (hf : k ≤ f.length) (hg : k ≤ g.length) (h : k = f.length ∨ k = g.length) : overlap (f.drop k) (g.drop k) = decide (f.length = g.length) := by
  rcases h with rfl | rfl
  · rw [List.drop_length]
    simp only [overlap]
    rw [Bool.eq_iff_iff]
    simp
    omega
  · rw [List.drop_length]
    cases hq : f.drop g.length with
    | nil =>
      simp only [overlap]
      have := congrArg List.length hq
      simp at this
      simp; omega
    | cons x xs =>
      simp only [overlap]
      have := congrArg List.length hq
      simp at this
      simp; omega

/-! ### both -/

def pairErr (f g : List UInt8) : Nat := if err true f ≠ 0 then err true f else err true g

def BothPost (w : World) (lf lg : List Tok) (er : Nat) (e : Ending) (w' : World) : Prop :=
  Below w.heap.size w w' ∧ ((er = 0 ∧ ∃ g1 g2, e = .returned (.tuple #[.slice (some ⟨g1, 0, none⟩) lf.length lf.length, .slice (some ⟨g2, 0, none⟩) lg.length lg.length, .int .i64 0]) ∧ StrsAt w' g1 0 lf ∧ StrsAt w' g2 0 lg) ∨
    (er ≠ 0 ∧ e = .returned (.tuple #[.slice none 0 0, .slice none 0 0, .int .i64 er])))

set_option maxRecDepth 100000 in
theorem both_any (f g : ByteArray) (w : World) (hf : f.size ≤ 1048576) (hg : g.size ≤ 1048576) (hm : ML w) :
    Calls Tryz.prog 265 #[.string f, .string g] w (BothPost w (pieces f.data.toList) (pieces g.data.toList) (pairErr f.data.toList g.data.toList)) := by
  have h1 := split_any f true w hf hm
  have h2 := fun w hm => split_any g true w hg hm
  obtain ⟨r, hr⟩ : ∃ r, pairErr f.data.toList g.data.toList = r := ⟨_, rfl⟩
  rw [hr]
  unfold pairErr at hr
  have H1 := Lib.hid h1; have H2 := Lib.hid h2; have HR := Lib.hid hr
  clear h1 h2 hr
  generalize err true f.data.toList = e1 at *
  generalize err true g.data.toList = e2 at *
  generalize pieces f.data.toList = lf at *
  generalize pieces g.data.toList = lg at *
  go_enter Tryz.func265, Tryz.ntmps265
  go_wp2_with fail
  refine H1.out.mono ?_
  rintro e w1 ⟨hb, ⟨rfl, rfl, hst⟩ | ⟨h0, rfl⟩⟩
  · have HST := Lib.hid hst; clear hst
    have hm1 := Lib.hid (hm.below hb)
    go_wp2_with fail
    refine (H2.out _ hm1.out).mono ?_
    rintro e w2 ⟨hb2, ⟨rfl, rfl, hst2⟩ | ⟨h0, rfl⟩⟩
    · have hstf := HST.out.below hb2
      have HSF := Lib.hid hstf; have HS2 := Lib.hid hst2; clear hstf hst2
      have hbb := hb.trans (hb2.mono hb.size)
      have hr : r = 0 := by rw [← HR.out]; simp
      have HRR := Lib.hid hr; clear hr
      go_wp2
      go_ret3
      exact ⟨hbb, .inl ⟨HRR.out, _, _, rfl, HSF.out, HS2.out⟩⟩
    · have h0' : ((e2 : Int) == 0) = false := by simp; omega
      have hbb := hb.trans (hb2.mono hb.size)
      have hr : r = e2 := by rw [← HR.out]; simp
      have HRR := Lib.hid hr; have H0 := Lib.hid h0
      clear hr h0
      go_wp2
      go_ret3
      exact ⟨hbb, .inr ⟨by rw [HRR.out]; exact H0.out, by rw [HRR.out]; rfl⟩⟩
  · have h0' : ((e1 : Int) == 0) = false := by simp; omega
    have hr : r = e1 := by rw [← HR.out]; simp [h0]
    have HRR := Lib.hid hr; have H0 := Lib.hid h0
    clear hr h0
    go_wp2
    go_ret3
    exact ⟨hb, .inr ⟨by rw [HRR.out]; exact H0.out, by rw [HRR.out]; rfl⟩⟩

/-- What Overlap answers. -/
def overlapR (f g : List UInt8) : Bool × Nat := if pairErr f g ≠ 0 then (false, pairErr f g) else (overlap (pieces f) (pieces g), 0)
set_option maxRecDepth 100000 in
theorem overlap_any (f g : ByteArray) (w : World) (hf : f.size ≤ 1048576) (hg : g.size ≤ 1048576) (hm : ML w) :
    Calls Tryz.prog 201 #[.string f, .string g] w fun e w' => e = .returned (beV (overlapR f.data.toList g.data.toList)) ∧ Below w.heap.size w w' := by
  have h1 := both_any f g w hf hg hm
  have hl1 := pieces_size f hf
  have hl2 := pieces_size g hg
  obtain ⟨r, hr⟩ : ∃ r, overlapR f.data.toList g.data.toList = r := ⟨_, rfl⟩
  rw [hr]
  unfold overlapR at hr
  have H1 := Lib.hid h1; have HR := Lib.hid hr
  clear h1 hr
  generalize pairErr f.data.toList g.data.toList = er at *
  generalize pieces f.data.toList = lf at *
  generalize pieces g.data.toList = lg at *
  go_enter Tryz.func201, Tryz.ntmps201
  go_wp2_with fail
  refine H1.out.mono ?_
  rintro e w' ⟨hb, ⟨rfl, g1, g2, rfl, hs1, hs2⟩ | ⟨h0, rfl⟩⟩
  · have hr : r = (overlap lf lg, 0) := by rw [← HR.out]; simp
    obtain ⟨x, hx⟩ : ∃ x, overlap lf lg = x := ⟨_, rfl⟩
    rw [hx] at hr
    subst hr
    have HF := Lib.hid hs1; have HG := Lib.hid hs2
    obtain ⟨n, hn⟩ : ∃ n, lf.length = n := ⟨_, rfl⟩
    obtain ⟨m, hm'⟩ : ∃ m, lg.length = m := ⟨_, rfl⟩
    rw [hn] at hl1; rw [hm'] at hl2
    rw [hn, hm']
    have HX := Lib.hid hx; have HN := Lib.hid hn; have HM := Lib.hid hm'
    clear hs1 hs2 hx hn hm'
    go_wp2
    go_loopw [9] (fun i wr => ∃ k : Nat, k ≤ n ∧ k ≤ m ∧ i = .int .i64 k ∧ Hid (overlap (lf.drop k) (lg.drop k) = x) ∧ Hid (StrsAt wr g1 0 lf) ∧ Hid (StrsAt wr g2 0 lg) ∧ Below w.heap.size w wr) (fun i _ => n - (intOf i).toNat)
    case atStart => exact ⟨0, Nat.zero_le _, Nat.zero_le _, rfl, HX, HF, HG, hb⟩
    case round =>
      clear HF HG hb
      obtain ⟨k, hk, hkm, rfl, HK, HF, HG, hb⟩ := hrel
      by_cases c1 : k = n
      · have hend := overlap_end lf lg k (by rw [HN.out]; exact hk) (by rw [HM.out]; exact hkm) (.inl (by rw [HN.out]; exact c1))
        rw [HK.out, HN.out, HM.out] at hend
        have HE := Lib.hid hend; clear hend
        have d1 : ((k : Int) == (n : Int)) = true := by simp [c1]
        clear c1
        go_wp2
        go_ret2
        refine ⟨?_, hb⟩
        rw [HE.out]
        show Ending.returned (.tuple #[.bool _, _]) = Ending.returned (.tuple #[.bool _, _])
        rw [show ((n : Int) == (m : Int)) = decide (n = m) by rw [Bool.eq_iff_iff]; simp; omega]; rfl
      · have d1 : ((k : Int) == (n : Int)) = false := by simp; omega
        have hkn : k < n := by omega
        clear c1
        by_cases c2 : k = m
        · have hend := overlap_end lf lg k (by rw [HN.out]; exact hk) (by rw [HM.out]; exact hkm) (.inr (by rw [HM.out]; exact c2))
          rw [HK.out, HN.out, HM.out] at hend
          have HE := Lib.hid hend; clear hend
          have d2 : ((k : Int) == (m : Int)) = true := by simp [c2]
          clear c2
          go_wp2
          go_ret2
          refine ⟨?_, hb⟩
          rw [HE.out]
          show Ending.returned (.tuple #[.bool _, _]) = Ending.returned (.tuple #[.bool _, _])
          rw [show ((n : Int) == (m : Int)) = decide (n = m) by rw [Bool.eq_iff_iff]; simp; omega]; rfl
        · have d2 : ((k : Int) == (m : Int)) = false := by simp; omega
          have hkm' : k < m := by omega
          clear c2
          have hstep := overlap_step lf lg k (by rw [HN.out]; exact hkn) (by rw [HM.out]; exact hkm')
          rw [HK.out] at hstep
          have hc1 := HF.out k (by rw [HN.out]; exact hkn)
          have hc2 := HG.out k (by rw [HM.out]; exact hkm')
          rw [Nat.zero_add] at hc1 hc2
          have l1 := strAt_toList lf k
          have l2 := strAt_toList lg k
          generalize strAt lf k = p at *
          generalize strAt lg k = q at *
          rw [← l1, ← l2] at hstep
          clear l1 l2
          have HS := Lib.hid hstep; clear hstep
          have hnext : ∀ d, overlap (List.drop (k + 1) lf) (List.drop (k + 1) lg) = x → ∃ k' : Nat, k' ≤ n ∧ k' ≤ m ∧ Value.int .i64 ((k : Int) + 1) = .int .i64 k' ∧ Hid (overlap (lf.drop k') (lg.drop k') = x) ∧ Hid (StrsAt (World.drewN wr d) g1 0 lf) ∧ Hid (StrsAt (World.drewN wr d) g2 0 lg) ∧ Below w.heap.size w (World.drewN wr d) := fun d h => ⟨k + 1, by omega, by omega, by go_num, h, HF.out, HG.out, below_drewN hb d⟩
          have HX2 := Lib.hid hnext; clear hnext
          by_cases x1 : p.toList = [62]
          · have bx1 : (p.toList == [62]) = true := by simp [x1]
            clear x1
            have B := HS.out
            simp only [bx1, Bool.true_or, if_true] at B
            have HB := Lib.hid B; clear B
            go_wp2
            go_ret2
            exact ⟨by rw [HB.out]; rfl, hb⟩
          · have bx1 : (p.toList == [62]) = false := by simp [x1]
            clear x1
            by_cases x2 : q.toList = [62]
            · have bx2 : (q.toList == [62]) = true := by simp [x2]
              clear x2
              have B := HS.out
              simp only [bx1, bx2, Bool.or_true, if_true] at B
              have HB := Lib.hid B; clear B
              go_wp2
              go_ret2
              exact ⟨by rw [HB.out]; rfl, hb⟩
            · have bx2 : (q.toList == [62]) = false := by simp [x2]
              clear x2
              by_cases x3 : p.toList = q.toList
              · have bx3 : (p.toList == q.toList) = true := by simp [x3]
                clear x3
                have B := HS.out
                simp only [bx1, bx2, bx3, Bool.true_or, Bool.or_false, Bool.false_eq_true, if_false, Bool.true_and] at B
                have HB := Lib.hid B.symm; clear B
                go_wp2
                go_quiet (fail)
                go_wp2
                exact ⟨HX2.out _ HB.out, by simp [intOf]; omega⟩
              · have bx3 : (p.toList == q.toList) = false := by simp [x3]
                clear x3
                by_cases x4 : p.toList = [42]
                · have bx4 : (p.toList == [42]) = true := by simp [x4]
                  clear x4
                  have B := HS.out
                  simp only [bx1, bx2, bx3, bx4, Bool.true_or, Bool.or_true, Bool.or_false, Bool.false_eq_true, if_false, Bool.true_and] at B
                  have HB := Lib.hid B.symm; clear B
                  go_wp2
                  go_quiet (fail)
                  go_wp2
                  exact ⟨HX2.out _ HB.out, by simp [intOf]; omega⟩
                · have bx4 : (p.toList == [42]) = false := by simp [x4]
                  clear x4
                  by_cases x5 : q.toList = [42]
                  · have bx5 : (q.toList == [42]) = true := by simp [x5]
                    clear x5
                    have B := HS.out
                    simp only [bx1, bx2, bx3, bx4, bx5, Bool.or_true, Bool.or_false, Bool.false_eq_true, if_false, Bool.true_and] at B
                    have HB := Lib.hid B.symm; clear B
                    go_wp2
                    go_quiet (fail)
                    go_wp2
                    exact ⟨HX2.out _ HB.out, by simp [intOf]; omega⟩
                  · have bx5 : (q.toList == [42]) = false := by simp [x5]
                    clear x5
                    have B := HS.out
                    simp only [bx1, bx2, bx3, bx4, bx5, Bool.or_false, Bool.false_eq_true, if_false, Bool.false_and] at B
                    have HB := Lib.hid B; clear B
                    go_wp2
                    go_quiet (fail)
                    go_wp2
                    go_ret2
                    exact ⟨by rw [HB.out]; rfl, below_drewN hb _⟩
  · have h0' : ((er : Int) == 0) = false := by simp; omega
    have hr : r = (false, er) := by rw [← HR.out]; simp [h0]
    have HRR := Lib.hid hr
    clear hr h0
    go_wp2
    go_ret2
    exact ⟨by rw [HRR.out]; rfl, hb⟩

end Go.Proofs.YthhgfdeegnimjaaGreatDoor.Subj

namespace Go.Proofs.YthhgfdeegnimjaaGreatDoor.Shf.Ins
open Go.RowKit Heap

/-- 'copy' into a row of elements of so many cells each. -/
theorem run_copyN {P : Program} (w : World) (dT sT ty elem : TypeId) (size g o dLen dCap : Nat) (a : Addr) (sLen sCap : Nat) (cur : Array Value) (t : TypeId) (cs : List Value) (m : Nat)
    (hu : P.underlying dT = some (.slice elem)) (hs : (P.info? elem).map (·.size) = some size)
    (hg : w.heap[g]? = some (.cells cur t (0, 0))) (hm : Nat.min sLen dLen = m) (hn : cs.length = m * size)
    (hsrc : ∀ j v, cs[j]? = some v → w.cell? (a.add j) = some v) (hfit : o + cs.length ≤ cur.size) (h1 : ∀ v ∈ cs, v.oneCell' = true) :
    (Builtin.copy_ #[dT, sT] ty #[.slice (some ⟨g, o, none⟩) dLen dCap, .slice (some a) sLen sCap]).run P w =
      .ok (goInt m) (w.setRow g (cur.toList.take o ++ cs ++ cur.toList.drop (o + cs.length)).toArray) := by
  have hl := run_loadCells_list (P := P) w a cs hsrc
  have hst := run_storeCells_at P g o t cs 0 cur w hg (by simpa using hfit) h1
  cases hq : P.info? elem with
  | none => simp [hq] at hs
  | some i =>
    have hi : i.size = size := by simpa [hq] using hs
    rw [hn] at hl hst
    simp [Builtin.copy_, run_underlying hu, Builtin.lenOf, Builtin.firstCells, sizeOf, typeInfo, hq, hi, hm, hl, hst, hn]

theorem shift_list {P X1 X2 R N : List Value} {A : List Value} (hA : A.length = P.length + X1.length + N.length) (hAt : A.take (P.length + X1.length) = P ++ X1) :
    (A ++ X2 ++ R).take (P.length + X1.length) ++ N ++ (A ++ X2 ++ R).drop (P.length + X1.length + N.length) = P ++ (X1 ++ N ++ X2) ++ R := by
  rw [List.append_assoc A, List.take_append, hAt, List.drop_append, ← hA, List.drop_length, Nat.sub_self, List.drop_zero]
  rw [show P.length + X1.length - A.length = 0 by omega, List.take_zero]
  simp

theorem setRow_other (w : World) (g k : Nat) (cs : Array Value) (h : k ≠ g) : (w.setRow g cs).heap[k]? = w.heap[k]? := by
  simp only [World.setRow, Array.getElem?_modify]
  rw [if_neg (fun e => h e.symm)]

theorem touch_setRow {F : Nat → Prop} {a w : World} (h : Heap.Touch F a w) {g : Nat} (hg : F g) (cs : Array Value) : Heap.Touch F a (w.setRow g cs) :=
  ⟨h.os, h.tape, h.output, by simp [World.setRow]; exact h.size, fun k hk hn => by rw [setRow_other _ _ _ _ (fun e => hn (by rw [e]; exact hg))]; exact h.block k hk hn⟩

/-- The array behind an insertion in place. -/
theorem room_list {cur N X1 X2 : List Value} {off i n cap : Nat} (hi : i < n) (hroom : n + 1 ≤ cap) (hN : N.length = 2) (h3 : off + cap * 2 ≤ cur.length) (hx : (cur.drop off).take (n * 2) = X1 ++ X2) (h1 : X1.length = i * 2) (h2 : X2.length = (n - i) * 2) :
    let c1 := cur.take (off + (i + 1) * 2) ++ X2 ++ cur.drop (off + (i + 1) * 2 + (n - i) * 2)
    let c2 := c1.take (off + i * 2) ++ N ++ c1.drop (off + i * 2 + 2)
    (c2.drop off).take ((n + 1) * 2) = X1 ++ N ++ X2 ∧ c2.length = cur.length ∧ c1.length = cur.length := by
  have hP : (cur.take off).length = off := by rw [List.length_take]; omega
  have hX1 : (cur.take (off + (i + 1) * 2)).take (off + i * 2) = cur.take off ++ X1 := by
    rw [List.take_take, show min (off + i * 2) (off + (i + 1) * 2) = off + i * 2 by omega]
    have e1 : X1 = (X1 ++ X2).take (i * 2) := by rw [← h1]; exact (List.take_left).symm
    have this : X1 = (cur.drop off).take (i * 2) := by
      rw [e1, ← hx, List.take_take, show min (i * 2) (n * 2) = i * 2 by omega]
    rw [this, List.take_add]
  have hA : (cur.take (off + (i + 1) * 2)).length = (cur.take off).length + X1.length + N.length := by rw [hP, h1, hN, List.length_take]; omega
  have hs := shift_list (X2 := X2) (R := cur.drop (off + (i + 1) * 2 + (n - i) * 2)) (N := N) hA (by rw [hP, h1]; exact hX1)
  rw [hP, h1, hN] at hs
  intro c1 c2
  have e2 : c2 = cur.take off ++ (X1 ++ N ++ X2) ++ cur.drop (off + (i + 1) * 2 + (n - i) * 2) := hs
  have hl : (X1 ++ N ++ X2).length = (n + 1) * 2 := by simp only [List.length_append, h1, h2, hN]; omega
  refine ⟨?_, ?_, ?_⟩
  · rw [e2, List.append_assoc, List.drop_append, hP, Nat.sub_self, List.drop_zero, List.drop_of_length_le (by omega), List.nil_append, List.take_append, hl, Nat.sub_self, List.take_zero, List.append_nil, List.take_of_length_le (by omega)]
  · rw [e2]
    simp only [List.length_append, hP, List.length_drop] at hl ⊢
    omega
  · show (cur.take (off + (i + 1) * 2) ++ X2 ++ cur.drop (off + (i + 1) * 2 + (n - i) * 2)).length = _
    simp only [List.length_append, List.length_take, List.length_drop, h2]
    omega

/-- The new array. -/
theorem grow_list {row N X1 X2 : List Value} {i n G : Nat} (hi : i < n) (hG : n + 1 ≤ G) (hN : N.length = 2) (hr : row.length = G * 2) (hx : row.take (i * 2) = X1) (h1 : X1.length = i * 2) (h2 : X2.length = (n - i) * 2) :
    let c1 := row.take (i * 2) ++ N ++ row.drop (i * 2 + 2)
    let c2 := c1.take ((i + 1) * 2) ++ X2 ++ c1.drop ((i + 1) * 2 + (n - i) * 2)
    c2.take ((n + 1) * 2) = X1 ++ N ++ X2 ∧ c2.length = G * 2 ∧ c1.length = G * 2 := by
  intro c1 c2
  have e1 : c1.take ((i + 1) * 2) = X1 ++ N := by
    show (row.take (i * 2) ++ N ++ row.drop (i * 2 + 2)).take ((i + 1) * 2) = _
    rw [hx]
    have : (X1 ++ N).length = (i + 1) * 2 := by rw [List.length_append, h1, hN]; omega
    rw [← this]; exact List.take_left
  have l1 : c1.length = G * 2 := by
    show (row.take (i * 2) ++ N ++ row.drop (i * 2 + 2)).length = _
    rw [hx]
    simp only [List.length_append, List.length_drop, h1, hN, hr]; omega
  refine ⟨?_, ?_, l1⟩
  · show (c1.take ((i + 1) * 2) ++ X2 ++ c1.drop ((i + 1) * 2 + (n - i) * 2)).take ((n + 1) * 2) = _
    rw [e1]
    have : (X1 ++ N ++ X2).length = (n + 1) * 2 := by simp only [List.length_append, h1, h2, hN]; omega
    rw [← this]; exact List.take_left
  · show (c1.take ((i + 1) * 2) ++ X2 ++ c1.drop ((i + 1) * 2 + (n - i) * 2)).length = _
    rw [e1]
    simp only [List.length_append, List.length_drop, h1, h2, hN, l1]; omega

theorem info_el : (Tryz.prog.info? 183).map (fun i => (i.zero, i.size, i.bytes)) = some (some (Value.agg #[.string ⟨#[]⟩, .int .i64 0]), 2, 24) := by kernel_rfl

/-- What is behind it all. -/
def InsPost (w : World) (v : Value) (n i : Nat) (xs N : List Value) (e : Ending) (w' : World) : Prop :=
  ∃ v', e = .returned v' ∧ Row w' 183 2 v' (n + 1) (xs.take (i * 2) ++ N ++ xs.drop (i * 2)) ∧ Heap.Touch (own v) w w' ∧ ∀ k, own v' k → own v k ∨ w.heap.size ≤ k

section
variable {w : World} {n i vb : Nat} {xs N : List Value}

set_option maxHeartbeats 2000000 in
set_option maxRecDepth 100000 in
/-- At the end. -/
theorem insert_end (v : Value) (hn : n ≤ 200000) (hrow : Row w 183 2 v n xs) (hN : N.length = 2) (hone : ∀ u ∈ N, u.oneCell' = true) (hvb : w.heap[vb]? = some (.cells N.toArray 183 (0, 0))) :
    Calls Tryz.prog 263 #[v, .int .i64 n, .slice (some ⟨vb, 0, none⟩) 1 1] w (InsPost w v n n xs N) := by
  have HR := Lib.hid hrow
  have hnews : ∀ j u, N[j]? = some u → w.cell? ((⟨vb, 0, none⟩ : Addr).add j) = some u := fun j u hj => by
    rw [Addr.add_lit, cell_of_row w vb (0 + j) _ _ _ hvb, Nat.zero_add, List.getElem?_toArray]; exact hj
  have hN1 : N.length = 1 * 2 := hN
  have HE := Lib.hid (show xs.take (n * 2) ++ N ++ xs.drop (n * 2) = xs ++ N from by
    have := hrow.1
    rw [List.take_of_length_le (by omega), List.drop_of_length_le (by omega), List.append_nil])
  unfold InsPost
  rw [HE.out]
  have HNW := Lib.hid hnews; have HO := Lib.hid hone; have HN1 := Lib.hid hN1
  clear hnews hone hN hN1
  obtain ⟨i0, hi, hz0, hz1, hz2⟩ := info_parts info_el
  rcases hrow.2 with ⟨rfl, rfl⟩ | ⟨g, off, cap, cur, rfl, hg, h1, h2, _⟩
  · clear hrow hvb
    go_enter Tryz.func263, Tryz.ntmps263
    go_wp2_with (at_builtin; refine Heap.wpList_append_row _ rfl (.tmp 23) (.tmp 24) 178 rfl 183 i0 _ 2 24 Tryz.underlying178 hi hz0 hz1 hz2 rfl (by decide) _ 0 _ rfl HR.out ⟨vb, 0, none⟩ 1 1 N rfl HN1.out HNW.out HO.out (by unfold maxLen; omega) (by omega) ?_)
    intro v2 w3 r3 t3 o3
    have HF := Lib.hid (⟨r3, t3, o3⟩ : Row w3 183 2 v2 (0 + 1) (xs ++ N) ∧ Heap.Touch (own (.slice none 0 0)) w w3 ∧ ∀ k, own v2 k → own (.slice none 0 0) k ∨ w.heap.size ≤ k)
    clear r3 t3 o3
    go_wp2
    go_ret
    exact ⟨_, rfl, HF.out⟩
  · clear hrow hvb hg
    have hnc : (n : Int) ≤ (n : Int) := Int.le_refl _
    go_enter Tryz.func263, Tryz.ntmps263
    go_wp2_with (at_builtin; refine Heap.wpList_append_row _ rfl (.tmp 23) (.tmp 24) 178 rfl 183 i0 _ 2 24 Tryz.underlying178 hi hz0 hz1 hz2 rfl (by decide) _ n _ rfl HR.out ⟨vb, 0, none⟩ 1 1 N rfl HN1.out HNW.out HO.out (by unfold maxLen; omega) (by omega) ?_)
    all_goals
      intro v2 w3 r3 t3 o3
      have HF := Lib.hid (⟨r3, t3, o3⟩ : Row w3 183 2 v2 (n + 1) (xs ++ N) ∧ Heap.Touch (own (.slice (some ⟨g, off, none⟩) n cap)) w w3 ∧ ∀ k, own v2 k → own (.slice (some ⟨g, off, none⟩) n cap) k ∨ w.heap.size ≤ k)
      clear r3 t3 o3
      go_wp2
      go_ret
      exact ⟨_, rfl, HF.out⟩

set_option maxHeartbeats 4000000 in
set_option maxRecDepth 100000 in
theorem insert_room (g off cap : Nat) (hn : n ≤ 200000) (hi : i < n) (hroom : n + 1 ≤ cap) (hrow : Row w 183 2 (.slice (some ⟨g, off, none⟩) n cap) n xs) (hones : ∀ u ∈ xs, u.oneCell' = true) (hN : N.length = 2) (hone : ∀ u ∈ N, u.oneCell' = true) (hvb : w.heap[vb]? = some (.cells N.toArray 183 (0, 0))) (hne : vb ≠ g) :
    Calls Tryz.prog 263 #[.slice (some ⟨g, off, none⟩) n cap, .int .i64 i, .slice (some ⟨vb, 0, none⟩) 1 1] w (InsPost w (.slice (some ⟨g, off, none⟩) n cap) n i xs N) := by
  have hrow2 := hrow.2
  have hxl := hrow.1
  rcases hrow2 with ⟨h2, _⟩ | ⟨g', off', cap', cur, hv, hg, h1, h2, h3, h4⟩
  · cases h2
  simp only [Value.slice.injEq, Option.some.injEq, Addr.mk.injEq] at hv
  obtain ⟨⟨rfl, rfl, _⟩, _, rfl⟩ := hv
  have hX : xs = xs.take (i * 2) ++ xs.drop (i * 2) := (List.take_append_drop _ _).symm
  have hX1 : (xs.take (i * 2)).length = i * 2 := by rw [List.length_take, hxl]; omega
  have hX2 : (xs.drop (i * 2)).length = (n - i) * 2 := by rw [List.length_drop, hxl, Nat.sub_mul]
  have hlist := room_list (N := N) hi hroom hN (by rw [Array.length_toList]; exact h3) (h4.trans hX) hX1 hX2
  obtain ⟨C1, hC1⟩ : ∃ C1 : Array Value, C1 = (cur.toList.take (off + (i + 1) * 2) ++ xs.drop (i * 2) ++ cur.toList.drop (off + (i + 1) * 2 + (n - i) * 2)).toArray := ⟨_, rfl⟩
  obtain ⟨C2, hC2⟩ : ∃ C2 : Array Value, C2 = (C1.toList.take (off + i * 2) ++ N ++ C1.toList.drop (off + i * 2 + 2)).toArray := ⟨_, rfl⟩
  have hc1s : C1.size = cur.size := by rw [hC1, List.size_toArray, hlist.2.2, Array.length_toList]
  have hc2 : (C2.toList.drop off).take ((n + 1) * 2) = xs.take (i * 2) ++ N ++ xs.drop (i * 2) ∧ C2.size = cur.size := by
    rw [hC2, hC1]
    exact ⟨hlist.1, by rw [List.size_toArray, hlist.2.1, Array.length_toList]⟩
  have hcn : ∀ j u, N[j]? = some u → w.cell? ((⟨vb, 0, none⟩ : Addr).add j) = some u := fun j u hj => by
    rw [Addr.add_lit, cell_of_row w vb (0 + j) _ _ _ hvb, Nat.zero_add, List.getElem?_toArray]; exact hj
  have hov : ∀ lb cb, (callFunc 319 #[.slice (some ⟨vb, 0, none⟩) 1 1, .slice (some ⟨g, off + (i + 1) * 2, none⟩) lb cb]).run Tryz.prog w = .ok (.value (.bool false)) w := fun lb cb => by
    have hsz : cur.size ≠ 0 := by omega
    rw [run_callFunc_extern Tryz.func319 (by kernel_rfl) (by kernel_rfl) (by kernel_rfl) (e := Extern.SlicesOverlaps.overlaps #[178, 178] #[4]) (by kernel_rfl),
      Lib.run_overlaps_apart w 178 4 183 Tryz.underlying178 2 Tryz.sizeOf183 ⟨vb, 0, none⟩ ⟨g, off + (i + 1) * 2, none⟩ 1 1 lb cb hne 183 183 2 cur.size (by simp [World.shape?, hvb, hN]) (by simp [World.shape?, hg]) hsz (frozen_of_row w vb 0 _ _ hvb) (frozen_of_row w vb 2 _ _ hvb)]
    rfl
  have hcp1 : ∀ ty dc sc, (Builtin.copy_ #[178, 178] ty #[.slice (some ⟨g, off + (i + 1) * 2, none⟩) (n - i) dc, .slice (some ⟨g, off + i * 2, none⟩) (n + 1 - i) sc]).run Tryz.prog w.drew = .ok (goInt ((n - i : Nat) : Int)) (w.drew.setRow g C1) := fun ty dc sc => by
    have h := run_copyN w.drew 178 178 ty 183 2 g (off + (i + 1) * 2) (n - i) dc ⟨g, off + i * 2, none⟩ (n + 1 - i) sc cur 183 (xs.drop (i * 2)) (n - i) Tryz.underlying178 (by kernel_rfl) hg (by simp only [Nat.min_def]; split <;> omega) hX2
      (fun j v hj => by
        rw [List.getElem?_drop] at hj
        rw [Addr.add_lit]
        have hjl := (List.getElem?_eq_some_iff.1 hj).1
        rw [hxl] at hjl
        have := (hrow.cell (i * 2 + j) (by omega)).1
        rw [← Nat.add_assoc] at this
        exact this.trans hj) (by rw [hX2]; omega) (fun v hv => hones v (List.mem_of_mem_drop hv))
    rw [hX2] at h
    rw [hC1]
    exact h
  have hg1 : (w.drew.setRow g C1).heap[g]? = some (.cells C1 183 (0, 0)) := setRow_heap w.drew g cur C1 _ (0, 0) hg
  have hcp2 : ∀ ty dc, (Builtin.copy_ #[178, 178] ty #[.slice (some ⟨g, off + i * 2, none⟩) (n + 1 - i) dc, .slice (some ⟨vb, 0, none⟩) 1 1]).run Tryz.prog (w.drew.setRow g C1) = .ok (goInt 1) ((w.drew.setRow g C1).setRow g C2) := fun ty dc => by
    have h := run_copyN (w.drew.setRow g C1) 178 178 ty 183 2 g (off + i * 2) (n + 1 - i) dc ⟨vb, 0, none⟩ 1 1 C1 183 N 1 Tryz.underlying178 (by kernel_rfl) hg1 (by simp only [Nat.min_def]; split <;> omega) hN
      (fun j v hj => by
        have hvb1 : (w.drew.setRow g C1).heap[vb]? = some (.cells N.toArray 183 (0, 0)) := (setRow_other _ _ _ _ hne).trans hvb
        rw [Addr.add_lit, cell_of_row _ vb (0 + j) _ _ _ hvb1, Nat.zero_add, List.getElem?_toArray]; exact hj) (by rw [hc1s, hN]; omega) hone
    rw [hN] at h
    rw [hC2]
    exact h
  have hend : Row ((w.drew.setRow g C1).setRow g C2) 183 2 (.slice (some ⟨g, off, none⟩) (n + 1) cap) (n + 1) (xs.take (i * 2) ++ N ++ xs.drop (i * 2)) ∧ Heap.Touch (own (.slice (some ⟨g, off, none⟩) n cap)) w ((w.drew.setRow g C1).setRow g C2) := by
    refine ⟨⟨by simp only [List.length_append, hX1, hX2, hN]; omega, .inr ⟨g, off, cap, C2, rfl, setRow_heap _ g C1 C2 _ (0, 0) hg1, hroom, h2, by rw [hc2.2]; exact h3, hc2.1⟩⟩, touch_setRow (touch_setRow (Heap.Touch.refl _ w).drew (by simp [own, Value.ownBlock]) _) (by simp [own, Value.ownBlock]) _⟩
  have HEND := Lib.hid hend
  have hz2 : ¬ ((i : Int) = (n : Int)) := by omega
  have hw1 : IntKind.i64.wrap ((i : Int) + 1) = (i : Int) + 1 := IntWalk.i64_in _ (by omega)
  have hw2 : IntKind.i64.wrap ((n : Int) + 1) = (n : Int) + 1 := IntWalk.i64_in _ (by omega)
  have hb1 : (0 : Int) ≤ (i : Int) + 1 := by omega
  have hin : i ≤ n := by omega
  have htn : ((i : Int) + 1).toNat = i + 1 := by omega
  have htn2 : ((n : Int) + 1).toNat = n + 1 := by omega
  have hb2 : ¬ (cap = i + 1) := by omega
  have hb3 : (i : Int) ≤ (n : Int) + 1 := by omega
  have hb3' : (i : Int) + 1 ≤ (n : Int) + 1 := by omega
  have hb4 : ¬ (cap = i) := by omega
  have hb5 : (n : Int) + 1 ≤ cap := by omega
  clear hX hX1 hX2 hones hone hlist hC1 hC2 hc1s hc2 hg1 hend h1 h3 h4 hg hrow hvb hxl hcn hN
  skip
  go_enter Tryz.func263, Tryz.ntmps263
  go_wp2_with (simp only [hov])
  go_region_law ((refine step_copy_runI rfl _ _ 178 178 rfl _ _ (by simp [Act.eval, Act.put]) (by simp [Act.eval, Act.put]) (hcp1 _ _ _) ?_))
  go_wp2_with (at_builtin; refine wpList_copy_runI _ rfl _ _ 178 178 rfl _ _ rfl rfl (hcp2 _ _) ?_)
  go_ret
  exact ⟨_, rfl, HEND.out.1, HEND.out.2, fun k hk => .inl hk⟩

set_option maxHeartbeats 4000000 in
set_option maxRecDepth 100000 in
theorem insert_grow (g off cap : Nat) (hn : n ≤ 200000) (hi : i < n) (hroom : cap < n + 1) (hrow : Row w 183 2 (.slice (some ⟨g, off, none⟩) n cap) n xs) (hones : ∀ u ∈ xs, u.oneCell' = true) (hN : N.length = 2) (hone : ∀ u ∈ N, u.oneCell' = true) (hvb : w.heap[vb]? = some (.cells N.toArray 183 (0, 0))) :
    Calls Tryz.prog 263 #[.slice (some ⟨g, off, none⟩) n cap, .int .i64 i, .slice (some ⟨vb, 0, none⟩) 1 1] w (InsPost w (.slice (some ⟨g, off, none⟩) n cap) n i xs N) := by
  obtain ⟨hncap, hcapm⟩ := hrow.cap_le
  have hxl := hrow.1
  have hX1 : (xs.take (i * 2)).length = i * 2 := by rw [List.length_take, hxl]; omega
  have hX2 : (xs.drop (i * 2)).length = (n - i) * 2 := by rw [List.length_drop, hxl, Nat.sub_mul]
  have hcellR : ∀ j v, xs[j]? = some v → w.cell? ⟨g, off + j, none⟩ = some v := fun j v hj => by
    have hjl := (List.getElem?_eq_some_iff.1 hj).1
    rw [hxl] at hjl
    exact (hrow.cell j (by omega)).1.trans hj
  obtain ⟨i0, hi0, hz0, hzs, hzb⟩ := info_parts info_el
  have hglt : g < w.heap.size := by
    have := hrow.lt g (by simp [own, Value.ownBlock]); exact this
  have hvlt : vb < w.heap.size := heap_lt hvb
  have hkk : (n : Int) + 1 - (i : Int) = ((n + 1 - i : Nat) : Int) := by omega
  have hik : i + (n + 1 - i) = n + 1 := by omega
  have hold : (Builtin.firstCells i0.size i (.slice (some ⟨g, off, none⟩) i cap)).run Tryz.prog w.drew = .ok (xs.take (i * 2)).toArray w.drew := by
    rw [hzs]
    exact run_firstCells_some w.drew 2 i ⟨g, off, none⟩ i cap _ hX1 (fun j v hj => by
      rw [Addr.add_lit]
      rw [List.getElem?_take] at hj
      split at hj
      · exact hcellR j v hj
      · cases hj)
  obtain ⟨G, hG⟩ : ∃ G, G = grownCap w (n + 1) cap 183 := ⟨_, rfl⟩
  obtain ⟨ROW, hROW⟩ : ∃ ROW : Array Value, ROW = (xs.take (i * 2)).toArray ++ Builtin.zeroCells (Value.agg #[.string ⟨#[]⟩, .int .i64 0]).cells (n + 1 - i) ++ Builtin.zeroCells (Value.agg #[.string ⟨#[]⟩, .int .i64 0]).cells (G - (n + 1)) := ⟨_, rfl⟩
  obtain ⟨W1, hW1⟩ : ∃ W1, W1 = w.drew.alloc (.cells ROW 183) := ⟨_, rfl⟩
  have hrz : ∀ ty, (Builtin.append_ #[178, 3] ty #[.slice (some ⟨g, off, none⟩) i cap, .int .i64 ((n : Int) + 1 - (i : Int))]).run Tryz.prog w = .ok (.slice (some ⟨w.heap.size, 0, none⟩) (n + 1) G) W1 := fun ty => by
    have h := Lib.run_append_grow_zeros w 178 3 ty 183 i0 _ .i64 .i64 Tryz.underlying178 Tryz.underlying3 hi0 hz0 (some ⟨g, off, none⟩) i cap _ hold (n + 1 - i) (by omega) (by omega) (by omega) (by omega) (by rw [hzb]; omega) (by rw [hzb, hik]; exact growslice_fits hroom (by omega))
    rw [hik] at h
    rw [hkk, hW1, hROW, hG]
    exact h
  have hGn : n + 1 ≤ G := by rw [hG]; exact grownCap_ge w _ _ _
  have hGm : G ≤ maxLen := by rw [hG]; exact grownCap_le_maxLen w (n + 1) cap 183 (by unfold maxLen; omega)
  have hRl : ROW.toList.length = G * 2 := by
    rw [hROW]
    simp [Builtin.zeroCells, Value.cells, hxl]
    omega
  have hRt : ROW.toList.take (i * 2) = xs.take (i * 2) := by
    rw [hROW]
    simp only [Array.toList_append]
    rw [List.append_assoc, List.take_append, hX1, Nat.sub_self, List.take_zero, List.append_nil, List.take_of_length_le (by rw [hX1]; omega)]
  have hheap : W1.heap = w.heap.push (.cells ROW 183) := by rw [hW1]; rfl
  have hN1 : W1.heap[w.heap.size]? = some (.cells ROW 183 (0, 0)) := by rw [hheap, Array.getElem?_push_size]
  have hold1 : ∀ k, k < w.heap.size → W1.heap[k]? = w.heap[k]? := fun k hk => by rw [hheap, Array.getElem?_push_lt hk, Array.getElem?_eq_getElem hk]
  have ht1 : Heap.Touch (fun _ => False) w W1 := by rw [hW1]; exact ((Heap.Touch.refl _ w).drew).alloc _
  have hlist := grow_list (N := N) hi hGn hN hRl hRt hX1 hX2
  obtain ⟨C1, hC1⟩ : ∃ C1 : Array Value, C1 = (ROW.toList.take (i * 2) ++ N ++ ROW.toList.drop (i * 2 + 2)).toArray := ⟨_, rfl⟩
  obtain ⟨C2, hC2⟩ : ∃ C2 : Array Value, C2 = (C1.toList.take ((i + 1) * 2) ++ xs.drop (i * 2) ++ C1.toList.drop ((i + 1) * 2 + (n - i) * 2)).toArray := ⟨_, rfl⟩
  have hc1s : C1.size = G * 2 := by rw [hC1, List.size_toArray]; exact hlist.2.2
  have hc2 : C2.toList.take ((n + 1) * 2) = xs.take (i * 2) ++ N ++ xs.drop (i * 2) ∧ C2.size = G * 2 := by
    rw [hC2, hC1]
    exact ⟨hlist.1, by rw [List.size_toArray]; exact hlist.2.1⟩
  have hcpA : ∀ ty dc, (Builtin.copy_ #[178, 178] ty #[.slice (some ⟨w.heap.size, i * 2, none⟩) (n + 1 - i) dc, .slice (some ⟨vb, 0, none⟩) 1 1]).run Tryz.prog W1 = .ok (goInt 1) (W1.setRow w.heap.size C1) := fun ty dc => by
    have h := run_copyN W1 178 178 ty 183 2 w.heap.size (i * 2) (n + 1 - i) dc ⟨vb, 0, none⟩ 1 1 ROW 183 N 1 Tryz.underlying178 (by kernel_rfl) hN1 (by simp only [Nat.min_def]; split <;> omega) hN
      (fun j v hj => by
        rw [Addr.add_lit, cell_of_row _ vb (0 + j) _ _ _ ((hold1 vb hvlt).trans hvb), Nat.zero_add, List.getElem?_toArray]; exact hj) (by rw [← Array.length_toList, hRl, hN]; omega) hone
    rw [hN] at h
    rw [hC1]
    exact h
  have hg1 : (W1.setRow w.heap.size C1).heap[w.heap.size]? = some (.cells C1 183 (0, 0)) := setRow_heap W1 _ ROW C1 _ (0, 0) hN1
  have hcpB : ∀ ty dc sc, (Builtin.copy_ #[178, 178] ty #[.slice (some ⟨w.heap.size, (i + 1) * 2, none⟩) (n - i) dc, .slice (some ⟨g, off + i * 2, none⟩) (n - i) sc]).run Tryz.prog (W1.setRow w.heap.size C1).drew = .ok (goInt ((n - i : Nat) : Int)) ((W1.setRow w.heap.size C1).drew.setRow w.heap.size C2) := fun ty dc sc => by
    have h := run_copyN (W1.setRow w.heap.size C1).drew 178 178 ty 183 2 w.heap.size ((i + 1) * 2) (n - i) dc ⟨g, off + i * 2, none⟩ (n - i) sc C1 183 (xs.drop (i * 2)) (n - i) Tryz.underlying178 (by kernel_rfl) hg1 (by simp) hX2
      (fun j v hj => by
        rw [List.getElem?_drop] at hj
        rw [Addr.add_lit]
        have h9 := hcellR (i * 2 + j) v hj
        rw [← Nat.add_assoc] at h9
        show (W1.setRow w.heap.size C1).cell? _ = _
        rw [World.cell?_of_block (a := ⟨g, off + i * 2 + j, none⟩) ((setRow_other W1 w.heap.size g C1 (by omega)).trans (hold1 g hglt))]
        exact h9) (by rw [hX2, hc1s]; omega) (fun v hv => hones v (List.mem_of_mem_drop hv))
    rw [hX2] at h
    rw [hC2]
    exact h
  have hend : Row ((W1.setRow w.heap.size C1).drew.setRow w.heap.size C2) 183 2 (.slice (some ⟨w.heap.size, 0, none⟩) (n + 1) G) (n + 1) (xs.take (i * 2) ++ N ++ xs.drop (i * 2)) ∧ Heap.Touch (own (.slice (some ⟨g, off, none⟩) n cap)) w ((W1.setRow w.heap.size C1).drew.setRow w.heap.size C2) := by
    refine ⟨⟨by simp only [List.length_append, hX1, hX2, hN]; omega, .inr ⟨w.heap.size, 0, G, C2, rfl, setRow_heap _ _ C1 C2 _ (0, 0) hg1, hGn, hGm, by rw [hc2.2]; omega, by rw [List.drop_zero]; exact hc2.1⟩⟩, ?_⟩
    have h5 : Heap.Touch (fun k => k = w.heap.size) w ((W1.setRow w.heap.size C1).drew.setRow w.heap.size C2) := touch_setRow (F := fun k => k = w.heap.size) (touch_setRow (F := fun k => k = w.heap.size) (ht1.mono fun _ _ h => h.elim) rfl C1).drew rfl C2
    exact h5.mono fun k hk e => by omega
  have HEND := Lib.hid hend
  have hz2 : ¬ ((i : Int) = (n : Int)) := by omega
  have hw1 : IntKind.i64.wrap ((i : Int) + 1) = (i : Int) + 1 := IntWalk.i64_in _ (by omega)
  have hw2 : IntKind.i64.wrap ((n : Int) + 1) = (n : Int) + 1 := IntWalk.i64_in _ (by omega)
  have hw3 : IntKind.i64.wrap ((n : Int) + 1 - (i : Int)) = (n : Int) + 1 - (i : Int) := IntWalk.i64_in _ (by omega)
  have hb1 : (0 : Int) ≤ (i : Int) + 1 := by omega
  have hin : i ≤ n := by omega
  have htn : ((i : Int) + 1).toNat = i + 1 := by omega
  have hb3 : (i : Int) ≤ (n : Int) + 1 := by omega
  have hb3' : (i : Int) + 1 ≤ (n : Int) + 1 := by omega
  have hb4 : ¬ (cap = i) := by omega
  have hb5 : (cap : Int) < (n : Int) + 1 := by omega
  have hb6 : ¬ (G = i) := by omega
  have hb7 : ¬ (G = i + 1) := by omega
  clear hX1 hX2 hones hone hlist hC1 hC2 hc1s hc2 hg1 hend hrow hvb hold hROW hW1 hG hRl hRt hheap hN1 hold1 ht1 hkk hik hcellR hxl hN
  skip
  go_enter Tryz.func263, Tryz.ntmps263
  go_wp2_with (first
    | (at_builtin; refine Lib.wpList_append_run _ rfl _ _ _ _ rfl _ _ rfl rfl _ _ (hrz _) ?_)
    | (at_builtin; refine wpList_copy_runI _ rfl _ _ 178 178 rfl _ _ rfl rfl (hcpA _ _) ?_))
  go_region_law ((refine step_copy_runI rfl _ _ 178 178 rfl _ _ (by simp [Act.eval, Act.put]) (by simp [Act.eval, Act.put]) (hcpB _ _ _) ?_))
  go_wp2
  go_ret
  exact ⟨_, rfl, HEND.out.1, HEND.out.2, fun k hk => .inr (by simp [own, Value.ownBlock] at hk; omega)⟩

/-- In whatever place. -/
theorem insert_any (v : Value) (hn : n ≤ 200000) (hi : i ≤ n) (hrow : Row w 183 2 v n xs) (hones : ∀ u ∈ xs, u.oneCell' = true) (hN : N.length = 2) (hone : ∀ u ∈ N, u.oneCell' = true) (hvb : w.heap[vb]? = some (.cells N.toArray 183 (0, 0))) (hne : ¬ own v vb) :
    Calls Tryz.prog 263 #[v, .int .i64 i, .slice (some ⟨vb, 0, none⟩) 1 1] w (InsPost w v n i xs N) := by
  by_cases he : i = n
  · subst he
    exact insert_end v hn hrow hN hone hvb
  · rcases hrow.2 with ⟨rfl, h0⟩ | ⟨g, off, cap, cur, rfl, _⟩
    · omega
    · by_cases hr : n + 1 ≤ cap
      · exact insert_room g off cap hn (by omega) hr hrow hones hN hone hvb (fun e => hne (by rw [e]; simp [own, Value.ownBlock]))
      · exact insert_grow g off cap hn (by omega) (by omega) hrow hones hN hone hvb
end
end Go.Proofs.YthhgfdeegnimjaaGreatDoor.Shf.Ins
