/- Parts of the proof, joined: slices.Insert of one element of 2 cells, walked.; Rows of records: a row of the program's, its cells; a record as a value; slices.Equal of records; note.; rillref.Subject, Filter, walked; and these and subject's as calls that keep. -/
import Derived.Test.YtapmhpnkpjgefaaDoorConsumerRulesUptoM4
import Derived.Test.YtapmhpnkpjgefaaDoorConsumerRulesUptoM6
import Derived.Test.YtapmhpnkpjgefaaDoorConsumerRulesUptoM14
import Derived.Test.YtapmhpnkpjgefaaDoorConsumerRulesUptoM15
import Derived.Test.YtapmhpnkpjgefaaDoorChecked
import Derived.Lib.AppendZerosOnto
import Derived.Lib.Overlaps
import Derived.Laws.CopyRow
import Derived.Shelf.Spec.SlicesInsert
import Derived.Deep.RegionLaw
import Derived.Deep.QuietTactic
import Derived.BigQuiet
import Derived.Laws.StructEq
import Derived.BigRegion
import Derived.Lib.SliceRun
namespace Go.Proofs.YtapmhpnkpjgefaaDoor.Shf.Ins
open Go.RowKit Heap

/-- 'copy' into a row of elements of so many cells each. -/
theorem run_copyN {P : Program} (w : World) (dT sT ty elem : TypeId) (size g o dLen dCap : Nat) (a : Addr) (sLen sCap : Nat) (cur : Array Value) (t : TypeId) (cs : List Value) (m : Nat)
    (hu : P.underlying dT = some (.slice elem)) (hs : (P.info? elem).map (·.size) = some size)
    (hg : w.heap[g]? = some (.cells cur t (0, 0))) (hm : Nat.min sLen dLen = m) (hn : cs.length = m * size)
    (hsrc : ∀ j v, cs[j]? = some v → w.cell? (a.add j) = some v) (hfit : o + cs.length ≤ cur.size) (h1 : ∀ v ∈ cs, v.oneCell' = true) :
    (Builtin.copy_ #[dT, sT] ty #[.slice (some ⟨g, o, none⟩) dLen dCap, .slice (some a) sLen sCap]).run P w =
      .ok (goInt m) (w.setRow g (cur.toList.take o ++ cs ++ cur.toList.drop (o + cs.length)).toArray) := by
  have hl := run_loadCells_list (P := P) w a cs hsrc
  have hst := run_storeCells_at P g o t cs 0 cur w hg (by simpa using hfit) h1
  cases hq : P.info? elem with
  | none => simp [hq] at hs
  | some i =>
    have hi : i.size = size := by simpa [hq] using hs
    rw [hn] at hl hst
    simp [Builtin.copy_, run_underlying hu, Builtin.lenOf, Builtin.firstCells, sizeOf, typeInfo, hq, hi, hm, hl, hst, hn]

theorem shift_list {P X1 X2 R N : List Value} {A : List Value} (hA : A.length = P.length + X1.length + N.length) (hAt : A.take (P.length + X1.length) = P ++ X1) :
    (A ++ X2 ++ R).take (P.length + X1.length) ++ N ++ (A ++ X2 ++ R).drop (P.length + X1.length + N.length) = P ++ (X1 ++ N ++ X2) ++ R := by
  rw [List.append_assoc A, List.take_append, hAt, List.drop_append, ← hA, List.drop_length, Nat.sub_self, List.drop_zero]
  rw [show P.length + X1.length - A.length = 0 by omega, List.take_zero]
  simp

theorem setRow_other (w : World) (g k : Nat) (cs : Array Value) (h : k ≠ g) : (w.setRow g cs).heap[k]? = w.heap[k]? := by
  simp only [World.setRow, Array.getElem?_modify]
  rw [if_neg (fun e => h e.symm)]

theorem touch_setRow {F : Nat → Prop} {a w : World} (h : Heap.Touch F a w) {g : Nat} (hg : F g) (cs : Array Value) : Heap.Touch F a (w.setRow g cs) :=
  ⟨h.os, h.tape, h.output, by simp [World.setRow]; exact h.size, fun k hk hn => by rw [setRow_other _ _ _ _ (fun e => hn (by rw [e]; exact hg))]; exact h.block k hk hn⟩

/-- The array behind an insertion in place. -/
theorem room_list {cur N X1 X2 : List Value} {off i n cap : Nat} (hi : i < n) (hroom : n + 1 ≤ cap) (hN : N.length = 2) (h3 : off + cap * 2 ≤ cur.length) (hx : (cur.drop off).take (n * 2) = X1 ++ X2) (h1 : X1.length = i * 2) (h2 : X2.length = (n - i) * 2) :
    let c1 := cur.take (off + (i + 1) * 2) ++ X2 ++ cur.drop (off + (i + 1) * 2 + (n - i) * 2)
    let c2 := c1.take (off + i * 2) ++ N ++ c1.drop (off + i * 2 + 2)
    (c2.drop off).take ((n + 1) * 2) = X1 ++ N ++ X2 ∧ c2.length = cur.length ∧ c1.length = cur.length := by
  have hP : (cur.take off).length = off := by rw [List.length_take]; omega
  have hX1 : (cur.take (off + (i + 1) * 2)).take (off + i * 2) = cur.take off ++ X1 := by
    rw [List.take_take, show min (off + i * 2) (off + (i + 1) * 2) = off + i * 2 by omega]
    have e1 : X1 = (X1 ++ X2).take (i * 2) := by rw [← h1]; exact (List.take_left).symm
    have this : X1 = (cur.drop off).take (i * 2) := by
      rw [e1, ← hx, List.take_take, show min (i * 2) (n * 2) = i * 2 by omega]
    rw [this, List.take_add]
  have hA : (cur.take (off + (i + 1) * 2)).length = (cur.take off).length + X1.length + N.length := by rw [hP, h1, hN, List.length_take]; omega
  have hs := shift_list (X2 := X2) (R := cur.drop (off + (i + 1) * 2 + (n - i) * 2)) (N := N) hA (by rw [hP, h1]; exact hX1)
  rw [hP, h1, hN] at hs
  intro c1 c2
  have e2 : c2 = cur.take off ++ (X1 ++ N ++ X2) ++ cur.drop (off + (i + 1) * 2 + (n - i) * 2) := hs
  have hl : (X1 ++ N ++ X2).length = (n + 1) * 2 := by simp only [List.length_append, h1, h2, hN]; omega
  refine ⟨?_, ?_, ?_⟩
  · rw [e2, List.append_assoc, List.drop_append, hP, Nat.sub_self, List.drop_zero, List.drop_of_length_le (by omega), List.nil_append, List.take_append, hl, Nat.sub_self, List.take_zero, List.append_nil, List.take_of_length_le (by omega)]
  · rw [e2]
    simp only [List.length_append, hP, List.length_drop] at hl ⊢
    omega
  · show (cur.take (off + (i + 1) * 2) ++ X2 ++ cur.drop (off + (i + 1) * 2 + (n - i) * 2)).length = _
    simp only [List.length_append, List.length_take, List.length_drop, h2]
    omega

/-- The new array. -/
theorem grow_list {row N X1 X2 : List Value} {i n G : Nat} (hi : i < n) (hG : n + 1 ≤ G) (hN : N.length = 2) (hr : row.length = G * 2) (hx : row.take (i * 2) = X1) (h1 : X1.length = i * 2) (h2 : X2.length = (n - i) * 2) :
    let c1 := row.take (i * 2) ++ N ++ row.drop (i * 2 + 2)
    let c2 := c1.take ((i + 1) * 2) ++ X2 ++ c1.drop ((i + 1) * 2 + (n - i) * 2)
    c2.take ((n + 1) * 2) = X1 ++ N ++ X2 ∧ c2.length = G * 2 ∧ c1.length = G * 2 := by
  intro c1 c2
  have e1 : c1.take ((i + 1) * 2) = X1 ++ N := by
    show (row.take (i * 2) ++ N ++ row.drop (i * 2 + 2)).take ((i + 1) * 2) = _
    rw [hx]
    have : (X1 ++ N).length = (i + 1) * 2 := by rw [List.length_append, h1, hN]; omega
    rw [← this]; exact List.take_left
  have l1 : c1.length = G * 2 := by
    show (row.take (i * 2) ++ N ++ row.drop (i * 2 + 2)).length = _
    rw [hx]
    simp only [List.length_append, List.length_drop, h1, hN, hr]; omega
  refine ⟨?_, ?_, l1⟩
  · show (c1.take ((i + 1) * 2) ++ X2 ++ c1.drop ((i + 1) * 2 + (n - i) * 2)).take ((n + 1) * 2) = _
    rw [e1]
    have : (X1 ++ N ++ X2).length = (n + 1) * 2 := by simp only [List.length_append, h1, h2, hN]; omega
    rw [← this]; exact List.take_left
  · show (c1.take ((i + 1) * 2) ++ X2 ++ c1.drop ((i + 1) * 2 + (n - i) * 2)).length = _
    rw [e1]
    simp only [List.length_append, List.length_drop, h1, h2, hN, l1]; omega

section
variable {w : World} {n i vb : Nat} {xs N : List Value}
end
end Go.Proofs.YtapmhpnkpjgefaaDoor.Shf.Ins

namespace Go.Proofs.YtapmhpnkpjgefaaDoor.Sto
open Go.RowKit Heap
open Subj (ML)
open Rec (Rc recErr far recA rcOf)

def recC (r : Rc) : List Value := [.int .i64 r.kind, .int .i64 r.seq, .int .i64 r.time, .string ⟨r.subj.toArray⟩, .string ⟨r.head.toArray⟩, .string ⟨r.data.toArray⟩]
def recsV (L : List Rc) : List Value := L.flatMap recC

theorem recsV_cons (r : Rc) (L : List Rc) : recsV (r :: L) = recC r ++ recsV L := rfl
theorem recsV_append (a b : List Rc) : recsV (a ++ b) = recsV a ++ recsV b := by simp [recsV]
theorem recsV_one (L : List Rc) : ∀ u ∈ recsV L, u.oneCell' = true := by
  intro u hu
  obtain ⟨e, _, h⟩ := List.mem_flatMap.1 hu
  simp only [recC, List.mem_cons, List.not_mem_nil, or_false] at h
  rcases h with rfl | rfl | rfl | rfl | rfl | rfl <;> rfl
theorem recsV_take (A : List Rc) (k : Nat) : (recsV A).take (k * 6) = recsV (A.take k) := by
  induction A generalizing k with
  | nil => simp [recsV]
  | cons a r ih =>
    cases k with
    | zero => simp [recsV]
    | succ k =>
      have hl : (recC a).length = 6 := rfl
      rw [recsV_cons, List.take_append, hl, show (k + 1) * 6 - 6 = k * 6 by omega, ih, List.take_of_length_le (by rw [hl]; omega)]
      rfl
theorem recsV_drop (A : List Rc) (k : Nat) : (recsV A).drop (k * 6) = recsV (A.drop k) := by
  induction A generalizing k with
  | nil => simp [recsV]
  | cons a r ih =>
    cases k with
    | zero => simp [recsV]
    | succ k =>
      have hl : (recC a).length = 6 := rfl
      rw [recsV_cons, List.drop_append, hl, show (k + 1) * 6 - 6 = k * 6 by omega, ih, List.drop_of_length_le (by rw [hl]; omega)]
      rfl
theorem recsV_at (l : List Rc) (k : Nat) (p : Rc) (h : l[k]? = some p) (i : Nat) (hi : i < 6) : (recsV l)[k * 6 + i]? = (recC p)[i]? := by
  induction l generalizing k with
  | nil => simp at h
  | cons q l ih =>
    rw [recsV_cons]
    cases k with
    | zero =>
      simp at h; subst h
      rw [List.getElem?_append_left (by simp [recC]; omega)]
      simp
    | succ k =>
      rw [List.getElem?_append_right (by simp [recC]; omega)]
      rw [show (k + 1) * 6 + i - (recC q).length = k * 6 + i by simp [recC]; omega]
      exact ih k (by simpa using h)

/-- A record's cells in a row of records. -/
theorem cells_rec {w : World} {g off n cap : Nat} {l : List Rc} (h : Row w 42 6 (.slice (some ⟨g, off, none⟩) n cap) n (recsV l)) (k : Nat) (p : Rc) (hp : l[k]? = some p) (hk : k < n) :
    w.cell? ⟨g, off + k * 6, none⟩ = some (.int .i64 p.kind) ∧ w.cell? ⟨g, off + k * 6 + 1, none⟩ = some (.int .i64 p.seq) ∧ w.cell? ⟨g, off + k * 6 + 2, none⟩ = some (.int .i64 p.time) ∧
      w.cell? ⟨g, off + k * 6 + 3, none⟩ = some (.string ⟨p.subj.toArray⟩) ∧ w.cell? ⟨g, off + k * 6 + 4, none⟩ = some (.string ⟨p.head.toArray⟩) ∧ w.cell? ⟨g, off + k * 6 + 5, none⟩ = some (.string ⟨p.data.toArray⟩) := by
  have e : ∀ i, i < 6 → w.cell? ⟨g, off + k * 6 + i, none⟩ = (recC p)[i]? := fun i hi => by
    rw [show off + k * 6 + i = off + (k * 6 + i) by omega, (h.cell (k * 6 + i) (by omega)).1, recsV_at l k p hp i hi]
  exact ⟨e 0 (by omega), e 1 (by omega), e 2 (by omega), e 3 (by omega), e 4 (by omega), e 5 (by omega)⟩

/-- A record as a value, of six parts that are told apart. -/
structure Parts (r : Rc) (s h d : ByteArray) : Prop where
  s1 : (⟨r.subj.toArray⟩ : ByteArray) = s
  h1 : (⟨r.head.toArray⟩ : ByteArray) = h
  d1 : (⟨r.data.toArray⟩ : ByteArray) = d
  s2 : s.data.toList = r.subj
  h2 : h.data.toList = r.head
  d2 : d.data.toList = r.data
  s3 : s.size = r.subj.length
  h3 : h.size = r.head.length
  d3 : d.size = r.data.length

theorem parts (r : Rc) : ∃ s h d, Parts r s h d := ⟨_, _, _, rfl, rfl, rfl, by simp, by simp, by simp, by show r.subj.toArray.size = _; simp, by show r.head.toArray.size = _; simp, by show r.data.toArray.size = _; simp⟩

theorem Parts.rc {r : Rc} {s h d : ByteArray} (p : Parts r s h d) : rcOf r.kind r.seq r.time s h d = r := by
  unfold rcOf
  rw [p.s2, p.h2, p.d2]

/-- A record as a value. -/
def recV (r : Rc) : Value := .agg #[.int .i64 r.kind, .int .i64 r.seq, .int .i64 r.time, .string ⟨r.subj.toArray⟩, .string ⟨r.head.toArray⟩, .string ⟨r.data.toArray⟩]

/-- A record of texts that are not too long. -/
structure Fits (r : Rc) : Prop where
  s : r.subj.length ≤ 1048576
  h : r.head.length ≤ 1048576
  d : r.data.length ≤ 1048576

theorem sixC {bx : Nat} {a0 a1 a2 a3 a4 a5 : Value} {t : TypeId} {w : World} (h : w.heap[bx]? = some (.cells #[a0, a1, a2, a3, a4, a5] t (0, 0))) :
    w.cell? ⟨bx, 0, none⟩ = some a0 ∧ w.cell? ⟨bx, 1, none⟩ = some a1 ∧ w.cell? ⟨bx, 2, none⟩ = some a2 ∧ w.cell? ⟨bx, 3, none⟩ = some a3 ∧ w.cell? ⟨bx, 4, none⟩ = some a4 ∧ w.cell? ⟨bx, 5, none⟩ = some a5 := by
  refine ⟨?_, ?_, ?_, ?_, ?_, ?_⟩
  · rw [cell_of_row w bx 0 _ _ _ h]; rfl
  · rw [cell_of_row w bx 1 _ _ _ h]; rfl
  · rw [cell_of_row w bx 2 _ _ _ h]; rfl
  · rw [cell_of_row w bx 3 _ _ _ h]; rfl
  · rw [cell_of_row w bx 4 _ _ _ h]; rfl
  · rw [cell_of_row w bx 5 _ _ _ h]; rfl

theorem info_rec : (Tryd.prog.info? 42).map (fun i => (i.zero, i.size, i.bytes)) = some (some (Value.agg #[.int .i64 0, .int .i64 0, .int .i64 0, .string ⟨#[]⟩, .string ⟨#[]⟩, .string ⟨#[]⟩]), 6, 72) := by kernel_rfl

theorem news_rec (w : World) (a0 a1 a2 a3 a4 a5 : Value) (t : TypeId) : ∀ j u, ([a0, a1, a2, a3, a4, a5] : List Value)[j]? = some u → (w.alloc (.cells #[a0, a1, a2, a3, a4, a5] t)).cell? ((⟨w.heap.size, 0, none⟩ : Addr).add j) = some u := fun j u hj => by
  rw [Addr.add_lit, cell_of_row _ w.heap.size (0 + j) _ _ _ (heap_alloc_new w _), Nat.zero_add]
  rcases j with _ | _ | _ | _ | _ | _ | j
  · simpa using hj
  · simpa using hj
  · simpa using hj
  · simpa using hj
  · simpa using hj
  · simpa using hj
  · simp at hj

/-- Records side by side somewhere. -/
def RecsAt (w : World) (v : Value) (l : List Rc) : Prop := ∃ ao cap, v = .slice ao l.length cap ∧ (l ≠ [] → ∃ g off, ao = some ⟨g, off, none⟩ ∧ ∀ i p, l[i]? = some p →
  w.cell? ⟨g, off + i * 6, none⟩ = some (.int .i64 p.kind) ∧ w.cell? ⟨g, off + i * 6 + 1, none⟩ = some (.int .i64 p.seq) ∧ w.cell? ⟨g, off + i * 6 + 2, none⟩ = some (.int .i64 p.time) ∧
      w.cell? ⟨g, off + i * 6 + 3, none⟩ = some (.string ⟨p.subj.toArray⟩) ∧ w.cell? ⟨g, off + i * 6 + 4, none⟩ = some (.string ⟨p.head.toArray⟩) ∧ w.cell? ⟨g, off + i * 6 + 5, none⟩ = some (.string ⟨p.data.toArray⟩))

theorem row_recs {w : World} {v : Value} {l : List Rc} (h : Row w 42 6 v l.length (recsV l)) : RecsAt w v l := by
  have h0 := h
  rcases h.2 with ⟨rfl, e⟩ | ⟨g, off, cap, cur, rfl, hg, hle, _⟩
  · exact ⟨none, 0, by rw [e], fun hne => absurd (List.eq_nil_of_length_eq_zero e) hne⟩
  · exact ⟨_, cap, rfl, fun _ => ⟨g, off, rfl, fun i p hp => cells_rec h0 i p hp (List.getElem?_eq_some_iff.1 hp).1⟩⟩

theorem RecsAt.below {w w' : World} {v : Value} {l : List Rc} {n : Nat} (h : RecsAt w v l) (hb : Below n w w') (hn : w.heap.size ≤ n) : RecsAt w' v l := by
  obtain ⟨ao, cap, rfl, ha⟩ := h
  refine ⟨ao, cap, rfl, fun hne => ?_⟩
  obtain ⟨g, off, rfl, hc⟩ := ha hne
  refine ⟨g, off, rfl, fun i p hp => ?_⟩
  obtain ⟨c0, c1, c2, c3, c4, c5⟩ := hc i p hp
  have hg : g < w.heap.size := World.block_lt_of_cell? w _ c0
  have hblk := hb.block g (by omega)
  exact ⟨(World.cell?_of_block (a := ⟨g, off + i * 6, none⟩) hblk).trans c0, (World.cell?_of_block (a := ⟨g, off + i * 6 + 1, none⟩) hblk).trans c1, (World.cell?_of_block (a := ⟨g, off + i * 6 + 2, none⟩) hblk).trans c2, (World.cell?_of_block (a := ⟨g, off + i * 6 + 3, none⟩) hblk).trans c3, (World.cell?_of_block (a := ⟨g, off + i * 6 + 4, none⟩) hblk).trans c4, (World.cell?_of_block (a := ⟨g, off + i * 6 + 5, none⟩) hblk).trans c5⟩

theorem RecsAt.touch {w w' : World} {v : Value} {l : List Rc} {F : Nat → Prop} (h : RecsAt w v l) (ht : Heap.Touch F w w') (hn : ∀ k, own v k → ¬ F k) : RecsAt w' v l := by
  obtain ⟨ao, cap, rfl, ha⟩ := h
  refine ⟨ao, cap, rfl, fun hne => ?_⟩
  obtain ⟨g, off, rfl, hc⟩ := ha hne
  refine ⟨g, off, rfl, fun i p hp => ?_⟩
  obtain ⟨c0, c1, c2, c3, c4, c5⟩ := hc i p hp
  have hg : g < w.heap.size := World.block_lt_of_cell? w _ c0
  have hblk := ht.block g hg (hn g (by simp [own, Value.ownBlock]))
  exact ⟨(World.cell?_of_block (a := ⟨g, off + i * 6, none⟩) hblk).trans c0, (World.cell?_of_block (a := ⟨g, off + i * 6 + 1, none⟩) hblk).trans c1, (World.cell?_of_block (a := ⟨g, off + i * 6 + 2, none⟩) hblk).trans c2, (World.cell?_of_block (a := ⟨g, off + i * 6 + 3, none⟩) hblk).trans c3, (World.cell?_of_block (a := ⟨g, off + i * 6 + 4, none⟩) hblk).trans c4, (World.cell?_of_block (a := ⟨g, off + i * 6 + 5, none⟩) hblk).trans c5⟩

section
variable {w : World}
end

theorem res_rec {fn : Func} (hf : fn.results = #[.cell 2 42]) (tmps : Array Value) (w : World) (R : Nat) {a0 a1 a2 a3 a4 a5 : Value}
    (h2 : tmps.getD 2 undef = .pointer (some ⟨R, 0, none⟩)) (hR : w.heap[R]? = some (.cells #[a0, a1, a2, a3, a4, a5] 42 (0, 0))) :
    (results fn tmps).run Tryd.prog w = .ok (.agg #[a0, a1, a2, a3, a4, a5]) w := by
  obtain ⟨z0, z1, z2, z3, z4, z5⟩ := sixC hR
  simp only [Array.getD_eq_getD_getElem?] at h2
  simp [results, hf, go_sem, h2, z0, z1, z2, z3, z4, z5]

theorem set6 {w : World} {R : Nat} {b0 b1 b2 b3 b4 b5 : Value} {t : TypeId} (a0 a1 a2 a3 a4 a5 : Value) (hR : w.heap[R]? = some (.cells #[b0, b1, b2, b3, b4, b5] t (0, 0))) :
    ((((((w.setCell ⟨R, 0, none⟩ a0).setCell ⟨R, 1, none⟩ a1).setCell ⟨R, 2, none⟩ a2).setCell ⟨R, 3, none⟩ a3).setCell ⟨R, 4, none⟩ a4).setCell ⟨R, 5, none⟩ a5).heap[R]? = some (.cells #[a0, a1, a2, a3, a4, a5] t (0, 0)) := by
  have h1 := heap_setCell_same w R 0 _ _ a0 hR
  have h2 := heap_setCell_same _ R 1 _ _ a1 h1
  have h3 := heap_setCell_same _ R 2 _ _ a2 h2
  have h4 := heap_setCell_same _ R 3 _ _ a3 h3
  have h5 := heap_setCell_same _ R 4 _ _ a4 h4
  exact heap_setCell_same _ R 5 _ _ a5 h5

def noteR (q : Int) : Rc := ⟨1, q, 0, [97, 46, 98], [], [120]⟩

section
variable {w : World}

set_option maxRecDepth 100000 in
theorem note_any (q : Int) : Calls Tryd.prog 13 #[.int .i64 q] w fun e w' => e = .returned (recV (noteR q)) ∧ Below w.heap.size w w' := by
  show Calls Tryd.prog _ _ w fun e w' => e = .returned (.agg #[.int .i64 1, .int .i64 q, .int .i64 0, .string ⟨#[97, 46, 98]⟩, .string ⟨#[]⟩, .string ⟨#[120]⟩]) ∧ Below w.heap.size w w'
  go_enter Tryd.func13, Tryd.ntmps13
  go_wp2_with fail
  refine bodyPost_ret (v := .agg #[.int .i64 1, .int .i64 q, .int .i64 0, .string ⟨#[97, 46, 98]⟩, .string ⟨#[]⟩, .string ⟨#[120]⟩]) (res_rec Tryd.results13 _ _ w.heap.size rfl (heap_alloc_new w _)) rfl ?_
  exact ⟨rfl, (Below.refl _ _).alloc (Nat.le_refl _) _⟩
end

end Go.Proofs.YtapmhpnkpjgefaaDoor.Sto

namespace Go.Proofs.YtapmhpnkpjgefaaDoor.Subj
open Go.RowKit

/-- A call that returns a number and keeps. -/
def IntRet (w0 : World) (n : Nat) (e : Ending) (w' : World) : Prop := e = .returned (.int .i64 n) ∧ Inv w0 w'

theorem filterN_inv {w0 : World} (s : ByteArray) (hs : s.size ≤ 1048576) (w : World) (h : Inv w0 w) : Calls Tryd.prog 37 #[.string s] w (IntRet w0 (err true s.data.toList)) :=
  (filter_any s w hs h.1).mono fun _ _ ⟨a, b⟩ => ⟨a, h.step b⟩
end Go.Proofs.YtapmhpnkpjgefaaDoor.Subj
