/- Parts of the proof, joined: Package record's Check and the reference's Record, walked.; Rows of records: a row of the program's, its cells; a record as a value; slices.Equal of records; note.; A store in memory: an index, a list of records, their bytes, the last number.; A number's place among a store's records: slices.BinarySearchFunc, walked. -/
import Derived.Test.YtbgchhgdlceceaaGreatDoorPlansOwnUptoM14
import Derived.Laws.StructEq
import Derived.BigRegion
import Derived.Lib.SliceRun
namespace Go.Proofs.YtbgchhgdlceceaaGreatDoor.Rec
open Go.RowKit Subj Pack Crc

/-- A record's cells, as values; as lists. -/
def recA (k q t : Int) (s h d : ByteArray) : Array Value := #[.int .i64 k, .int .i64 q, .int .i64 t, .string s, .string h, .string d]
def rcOf (k q t : Int) (s h d : ByteArray) : Rc := ⟨k, q, t, s.data.toList, h.data.toList, d.data.toList⟩

theorem ml_alloc {w : World} (h : ML w) (o : Obj) : ML (w.alloc o) := h.below ((Below.refl _ _).alloc (Nat.le_refl _) _)

theorem empty_iff (s : ByteArray) : s.data.toList = [] ↔ s.toList = [] := by rw [ByteArray.toList_eq]

set_option maxHeartbeats 4000000 in
set_option maxRecDepth 100000 in
theorem check_any (k q t : Int) (s h d : ByteArray) (w : World) (hs : s.size ≤ 1048576) (hh : h.size ≤ 1048576) (hd : d.size ≤ 1048576) (hm : ML w) :
    Calls Tryz.prog 143 #[.agg (recA k q t s h d)] w fun e w' => e = .returned (.int .i64 (recErr (rcOf k q t s h d))) ∧ Below w.heap.size w w' := by
  obtain ⟨er, her⟩ : ∃ er, recErr (rcOf k q t s h d) = er := ⟨_, rfl⟩
  rw [her]
  unfold recErr rcOf far at her
  simp only [Array.length_toList, ByteArray.size_data, empty_iff] at her
  have HS := Lib.hid fun w hm => subject_any s w hs hm
  have HF := Lib.hid fun w hm => filter_any s w hs hm
  have hm1 := ml_alloc hm (.cells (recA k q t s h d) 33)
  have HM := Lib.hid hm1
  have hb := (Below.refl w.heap.size w).alloc (Nat.le_refl _) (.cells (recA k q t s h d) 33)
  have HB := Lib.hid hb
  generalize err true s.data.toList = e1 at *
  generalize err false s.data.toList = e2 at *
  have HE := Lib.hid her
  clear her hm1 hm hb
  unfold recA at *
  go_enter Tryz.func143, Tryz.ntmps143
  go_wp2_with (first
    | (go_at_call 184; refine (HS.out _ HM.out).mono ?_; rintro e w' ⟨rfl, hb'⟩; obtain ⟨hcc, hff⟩ := bcell hb'; have hbb := HB.out.trans (hb'.mono HB.out.size); clear hb')
    | (go_at_call 156; refine (HF.out _ HM.out).mono ?_; rintro e w' ⟨rfl, hb'⟩; obtain ⟨hcc, hff⟩ := bcell hb'; have hbb := HB.out.trans (hb'.mono HB.out.size); clear hb'))
  all_goals
    go_ret
    refine ⟨ret_int ?_, by first | exact HB.out | assumption⟩
    rw [← HE.out]
    clear HE HS HF HM HB
    simp only [beq_iff_eq, beq_eq_false_iff_ne, bne_iff_ne, bne_eq_false_iff_eq, List.isEmpty_iff, Bool.not_eq_true', Bool.not_eq_false', ne_eq, Int.natCast_eq_zero] at *
    repeat' split
    all_goals first | rfl | omega | (simp_all; done) | (exfalso; simp_all; omega)

end Go.Proofs.YtbgchhgdlceceaaGreatDoor.Rec

namespace Go.Proofs.YtbgchhgdlceceaaGreatDoor.Sto
open Go.RowKit Heap
open Subj (ML)
open Rec (Rc recErr far recA rcOf)

def recC (r : Rc) : List Value := [.int .i64 r.kind, .int .i64 r.seq, .int .i64 r.time, .string ⟨r.subj.toArray⟩, .string ⟨r.head.toArray⟩, .string ⟨r.data.toArray⟩]
def recsV (L : List Rc) : List Value := L.flatMap recC

theorem recsV_cons (r : Rc) (L : List Rc) : recsV (r :: L) = recC r ++ recsV L := rfl
theorem recsV_append (a b : List Rc) : recsV (a ++ b) = recsV a ++ recsV b := by simp [recsV]
theorem recsV_one (L : List Rc) : ∀ u ∈ recsV L, u.oneCell' = true := by
  intro u hu
  obtain ⟨e, _, h⟩ := List.mem_flatMap.1 hu
  simp only [recC, List.mem_cons, List.not_mem_nil, or_false] at h
  rcases h with rfl | rfl | rfl | rfl | rfl | rfl <;> rfl
theorem recsV_at (l : List Rc) (k : Nat) (p : Rc) (h : l[k]? = some p) (i : Nat) (hi : i < 6) : (recsV l)[k * 6 + i]? = (recC p)[i]? := by
  induction l generalizing k with
  | nil => simp at h
  | cons q l ih =>
    rw [recsV_cons]
    cases k with
    | zero =>
      simp at h; subst h
      rw [List.getElem?_append_left (by simp [recC]; omega)]
      simp
    | succ k =>
      rw [List.getElem?_append_right (by simp [recC]; omega)]
      rw [show (k + 1) * 6 + i - (recC q).length = k * 6 + i by simp [recC]; omega]
      exact ih k (by simpa using h)

/-- A record's cells in a row of records. -/
theorem cells_rec {w : World} {g off n cap : Nat} {l : List Rc} (h : Row w 33 6 (.slice (some ⟨g, off, none⟩) n cap) n (recsV l)) (k : Nat) (p : Rc) (hp : l[k]? = some p) (hk : k < n) :
    w.cell? ⟨g, off + k * 6, none⟩ = some (.int .i64 p.kind) ∧ w.cell? ⟨g, off + k * 6 + 1, none⟩ = some (.int .i64 p.seq) ∧ w.cell? ⟨g, off + k * 6 + 2, none⟩ = some (.int .i64 p.time) ∧
      w.cell? ⟨g, off + k * 6 + 3, none⟩ = some (.string ⟨p.subj.toArray⟩) ∧ w.cell? ⟨g, off + k * 6 + 4, none⟩ = some (.string ⟨p.head.toArray⟩) ∧ w.cell? ⟨g, off + k * 6 + 5, none⟩ = some (.string ⟨p.data.toArray⟩) := by
  have e : ∀ i, i < 6 → w.cell? ⟨g, off + k * 6 + i, none⟩ = (recC p)[i]? := fun i hi => by
    rw [show off + k * 6 + i = off + (k * 6 + i) by omega, (h.cell (k * 6 + i) (by omega)).1, recsV_at l k p hp i hi]
  exact ⟨e 0 (by omega), e 1 (by omega), e 2 (by omega), e 3 (by omega), e 4 (by omega), e 5 (by omega)⟩

/-- A record as a value, of six parts that are told apart. -/
structure Parts (r : Rc) (s h d : ByteArray) : Prop where
  s1 : (⟨r.subj.toArray⟩ : ByteArray) = s
  h1 : (⟨r.head.toArray⟩ : ByteArray) = h
  d1 : (⟨r.data.toArray⟩ : ByteArray) = d
  s2 : s.data.toList = r.subj
  h2 : h.data.toList = r.head
  d2 : d.data.toList = r.data
  s3 : s.size = r.subj.length
  h3 : h.size = r.head.length
  d3 : d.size = r.data.length

theorem parts (r : Rc) : ∃ s h d, Parts r s h d := ⟨_, _, _, rfl, rfl, rfl, by simp, by simp, by simp, by show r.subj.toArray.size = _; simp, by show r.head.toArray.size = _; simp, by show r.data.toArray.size = _; simp⟩

/-- A record as a value. -/
def recV (r : Rc) : Value := .agg #[.int .i64 r.kind, .int .i64 r.seq, .int .i64 r.time, .string ⟨r.subj.toArray⟩, .string ⟨r.head.toArray⟩, .string ⟨r.data.toArray⟩]

/-- A record of texts that are not too long. -/
structure Fits (r : Rc) : Prop where
  s : r.subj.length ≤ 1048576
  h : r.head.length ≤ 1048576
  d : r.data.length ≤ 1048576

theorem sixC {bx : Nat} {a0 a1 a2 a3 a4 a5 : Value} {t : TypeId} {w : World} (h : w.heap[bx]? = some (.cells #[a0, a1, a2, a3, a4, a5] t (0, 0))) :
    w.cell? ⟨bx, 0, none⟩ = some a0 ∧ w.cell? ⟨bx, 1, none⟩ = some a1 ∧ w.cell? ⟨bx, 2, none⟩ = some a2 ∧ w.cell? ⟨bx, 3, none⟩ = some a3 ∧ w.cell? ⟨bx, 4, none⟩ = some a4 ∧ w.cell? ⟨bx, 5, none⟩ = some a5 := by
  refine ⟨?_, ?_, ?_, ?_, ?_, ?_⟩
  · rw [cell_of_row w bx 0 _ _ _ h]; rfl
  · rw [cell_of_row w bx 1 _ _ _ h]; rfl
  · rw [cell_of_row w bx 2 _ _ _ h]; rfl
  · rw [cell_of_row w bx 3 _ _ _ h]; rfl
  · rw [cell_of_row w bx 4 _ _ _ h]; rfl
  · rw [cell_of_row w bx 5 _ _ _ h]; rfl

theorem info_rec : (Tryz.prog.info? 33).map (fun i => (i.zero, i.size, i.bytes)) = some (some (Value.agg #[.int .i64 0, .int .i64 0, .int .i64 0, .string ⟨#[]⟩, .string ⟨#[]⟩, .string ⟨#[]⟩]), 6, 72) := by kernel_rfl

theorem news_rec (w : World) (a0 a1 a2 a3 a4 a5 : Value) (t : TypeId) : ∀ j u, ([a0, a1, a2, a3, a4, a5] : List Value)[j]? = some u → (w.alloc (.cells #[a0, a1, a2, a3, a4, a5] t)).cell? ((⟨w.heap.size, 0, none⟩ : Addr).add j) = some u := fun j u hj => by
  rw [Addr.add_lit, cell_of_row _ w.heap.size (0 + j) _ _ _ (heap_alloc_new w _), Nat.zero_add]
  rcases j with _ | _ | _ | _ | _ | _ | j
  · simpa using hj
  · simpa using hj
  · simpa using hj
  · simpa using hj
  · simpa using hj
  · simpa using hj
  · simp at hj

/-- Records side by side somewhere. -/
def RecsAt (w : World) (v : Value) (l : List Rc) : Prop := ∃ ao cap, v = .slice ao l.length cap ∧ (l ≠ [] → ∃ g off, ao = some ⟨g, off, none⟩ ∧ ∀ i p, l[i]? = some p →
  w.cell? ⟨g, off + i * 6, none⟩ = some (.int .i64 p.kind) ∧ w.cell? ⟨g, off + i * 6 + 1, none⟩ = some (.int .i64 p.seq) ∧ w.cell? ⟨g, off + i * 6 + 2, none⟩ = some (.int .i64 p.time) ∧
      w.cell? ⟨g, off + i * 6 + 3, none⟩ = some (.string ⟨p.subj.toArray⟩) ∧ w.cell? ⟨g, off + i * 6 + 4, none⟩ = some (.string ⟨p.head.toArray⟩) ∧ w.cell? ⟨g, off + i * 6 + 5, none⟩ = some (.string ⟨p.data.toArray⟩))

theorem row_recs {w : World} {v : Value} {l : List Rc} (h : Row w 33 6 v l.length (recsV l)) : RecsAt w v l := by
  have h0 := h
  rcases h.2 with ⟨rfl, e⟩ | ⟨g, off, cap, cur, rfl, hg, hle, _⟩
  · exact ⟨none, 0, by rw [e], fun hne => absurd (List.eq_nil_of_length_eq_zero e) hne⟩
  · exact ⟨_, cap, rfl, fun _ => ⟨g, off, rfl, fun i p hp => cells_rec h0 i p hp (List.getElem?_eq_some_iff.1 hp).1⟩⟩

theorem RecsAt.below {w w' : World} {v : Value} {l : List Rc} {n : Nat} (h : RecsAt w v l) (hb : Below n w w') (hn : w.heap.size ≤ n) : RecsAt w' v l := by
  obtain ⟨ao, cap, rfl, ha⟩ := h
  refine ⟨ao, cap, rfl, fun hne => ?_⟩
  obtain ⟨g, off, rfl, hc⟩ := ha hne
  refine ⟨g, off, rfl, fun i p hp => ?_⟩
  obtain ⟨c0, c1, c2, c3, c4, c5⟩ := hc i p hp
  have hg : g < w.heap.size := World.block_lt_of_cell? w _ c0
  have hblk := hb.block g (by omega)
  exact ⟨(World.cell?_of_block (a := ⟨g, off + i * 6, none⟩) hblk).trans c0, (World.cell?_of_block (a := ⟨g, off + i * 6 + 1, none⟩) hblk).trans c1, (World.cell?_of_block (a := ⟨g, off + i * 6 + 2, none⟩) hblk).trans c2, (World.cell?_of_block (a := ⟨g, off + i * 6 + 3, none⟩) hblk).trans c3, (World.cell?_of_block (a := ⟨g, off + i * 6 + 4, none⟩) hblk).trans c4, (World.cell?_of_block (a := ⟨g, off + i * 6 + 5, none⟩) hblk).trans c5⟩

theorem RecsAt.touch {w w' : World} {v : Value} {l : List Rc} {F : Nat → Prop} (h : RecsAt w v l) (ht : Heap.Touch F w w') (hn : ∀ k, own v k → ¬ F k) : RecsAt w' v l := by
  obtain ⟨ao, cap, rfl, ha⟩ := h
  refine ⟨ao, cap, rfl, fun hne => ?_⟩
  obtain ⟨g, off, rfl, hc⟩ := ha hne
  refine ⟨g, off, rfl, fun i p hp => ?_⟩
  obtain ⟨c0, c1, c2, c3, c4, c5⟩ := hc i p hp
  have hg : g < w.heap.size := World.block_lt_of_cell? w _ c0
  have hblk := ht.block g hg (hn g (by simp [own, Value.ownBlock]))
  exact ⟨(World.cell?_of_block (a := ⟨g, off + i * 6, none⟩) hblk).trans c0, (World.cell?_of_block (a := ⟨g, off + i * 6 + 1, none⟩) hblk).trans c1, (World.cell?_of_block (a := ⟨g, off + i * 6 + 2, none⟩) hblk).trans c2, (World.cell?_of_block (a := ⟨g, off + i * 6 + 3, none⟩) hblk).trans c3, (World.cell?_of_block (a := ⟨g, off + i * 6 + 4, none⟩) hblk).trans c4, (World.cell?_of_block (a := ⟨g, off + i * 6 + 5, none⟩) hblk).trans c5⟩

section
variable {w : World}

end

theorem set6 {w : World} {R : Nat} {b0 b1 b2 b3 b4 b5 : Value} {t : TypeId} (a0 a1 a2 a3 a4 a5 : Value) (hR : w.heap[R]? = some (.cells #[b0, b1, b2, b3, b4, b5] t (0, 0))) :
    ((((((w.setCell ⟨R, 0, none⟩ a0).setCell ⟨R, 1, none⟩ a1).setCell ⟨R, 2, none⟩ a2).setCell ⟨R, 3, none⟩ a3).setCell ⟨R, 4, none⟩ a4).setCell ⟨R, 5, none⟩ a5).heap[R]? = some (.cells #[a0, a1, a2, a3, a4, a5] t (0, 0)) := by
  have h1 := heap_setCell_same w R 0 _ _ a0 hR
  have h2 := heap_setCell_same _ R 1 _ _ a1 h1
  have h3 := heap_setCell_same _ R 2 _ _ a2 h2
  have h4 := heap_setCell_same _ R 3 _ _ a3 h3
  have h5 := heap_setCell_same _ R 4 _ _ a4 h4
  exact heap_setCell_same _ R 5 _ _ a5 h5

section
variable {w : World}
end

end Go.Proofs.YtbgchhgdlceceaaGreatDoor.Sto

namespace Go.Proofs.YtbgchhgdlceceaaGreatDoor.Sto
open Go.RowKit Heap
open Subj (Tok ML pieces takes)
open Rec (Rc recErr far recA rcOf)
open Idx (Ents ptrV)
open Shf (XAt NextX SortedE)

/-- A store in memory. -/
structure SAt (W : World) (M : Nat → Prop) (x N : Nat) (I : Ents) (D : Nat) (v : Value) (L : List Rc) (bt last : Int) (w : World) : Prop where
  idx : XAt W M x N I w
  cell : w.heap[D]? = some (.cells #[v, ptrV x, .int .i64 bt, .int .i64 last] 144 (0, 0))
  row : Row w 33 6 v L.length (recsV L)
  mD : ¬ M D
  oldD : W.heap.size ≤ D
  vM : ∀ k, own v k → ¬ M k ∧ W.heap.size ≤ k

theorem fourS {D : Nat} {a0 a1 a2 a3 : Value} {t : TypeId} {w : World} (h : w.heap[D]? = some (.cells #[a0, a1, a2, a3] t (0, 0))) :
    w.cell? ⟨D, 0, none⟩ = some a0 ∧ w.cell? ⟨D, 1, none⟩ = some a1 ∧ w.cell? ⟨D, 2, none⟩ = some a2 ∧ w.cell? ⟨D, 3, none⟩ = some a3 ∧ ∀ j, w.frozen? ⟨D, j, none⟩ = false := by
  refine ⟨?_, ?_, ?_, ?_, fun j => frozen_of_row w D j _ _ h⟩
  · rw [cell_of_row w D 0 _ _ _ h]; rfl
  · rw [cell_of_row w D 1 _ _ _ h]; rfl
  · rw [cell_of_row w D 2 _ _ _ h]; rfl
  · rw [cell_of_row w D 3 _ _ _ h]; rfl

theorem ne_rec {D n : Nat} {w : World} {v a0 a1 a2 a3 : Value} {xs : List Value} (h : w.heap[D]? = some (.cells #[a0, a1, a2, a3] 144 (0, 0))) (hr : Row w 33 6 v n xs) : ¬ own v D := fun ho => by
  rcases hr.2 with ⟨rfl, _⟩ | ⟨g, off, cap, cur, rfl, hg, _⟩
  · simp [own, Value.ownBlock] at ho
  · simp [own, Value.ownBlock] at ho
    subst ho
    rw [h] at hg
    simp at hg

section
variable {W w w1 : World} {M : Nat → Prop} {x N N' D : Nat} {I I' : Ents} {v v' : Value} {L L' : List Rc} {bt last bt' last' : Int}

theorem SAt.lt (h : SAt W M x N I D v L bt last w) : D < w.heap.size := heap_lt h.cell
theorem SAt.ne (h : SAt W M x N I D v L bt last w) : ¬ own v D := ne_rec h.cell h.row

/-- All but the index is turned. -/
theorem SAt.turn (h : SAt W M x N I D v L bt last w) (ht : Heap.Touch (fun k => own v k ∨ k = D) w w1) (hc : w1.heap[D]? = some (.cells #[v', ptrV x, .int .i64 bt', .int .i64 last'] 144 (0, 0)))
    (hr : Row w1 33 6 v' L'.length (recsV L')) (ho : ∀ k, own v' k → own v k ∨ w.heap.size ≤ k) : SAt W M x N I D v' L' bt' last' w1 := by
  have hb := h.idx.below
  refine ⟨h.idx.kept (hb.trans (ht.below hb.size fun k hk => ?_)) ht.size (ht.same fun k hm hk => ?_), hc, hr, h.mD, h.oldD, fun k hk => ?_⟩
  · rcases hk with hk | rfl
    · exact (h.vM k hk).2
    · exact h.oldD
  · rcases hk with hk | rfl
    · exact (h.vM k hk).1 hm
    · exact h.mD hm
  · rcases ho k hk with e | e
    · exact h.vM k e
    · exact ⟨fun hm => by have := h.idx.bM hm; omega, Nat.le_trans hb.size e⟩

theorem SAt.next (h : SAt W M x N I D v L bt last w) (hb : Below w.heap.size w w1) : SAt W M x N I D v L bt last w1 :=
  h.turn (Heap.Touch.ofBelow hb) ((hb.block D h.lt).trans h.cell) (h.row.kept fun k _ hk => hb.block k hk) fun _ hk => .inl hk

/-- The index has been called. -/
theorem SAt.call (h : SAt W M x N I D v L bt last w) (hn : NextX W M x N' w I' w1) : ∃ M', SAt W M' x N' I' D v L bt last w1 ∧ ∀ k, M' k → M k ∨ w.heap.size ≤ k := by
  obtain ⟨⟨M', hX, hM⟩, ht⟩ := hn
  refine ⟨M', ⟨hX, (ht.block D h.lt h.mD).trans h.cell, h.row.kept fun k hk hlt => ht.block k hlt (h.vM k hk).1, fun hk => ?_, h.oldD, fun k hk => ⟨fun hm => ?_, (h.vM k hk).2⟩⟩, hM⟩
  · rcases hM D hk with e | e
    · exact h.mD e
    · have := h.lt; omega
  · rcases hM k hm with e | e
    · exact (h.vM k hk).1 e
    · have := h.row.lt k hk; omega
end
end Go.Proofs.YtbgchhgdlceceaaGreatDoor.Sto

namespace Go.Proofs.YtbgchhgdlceceaaGreatDoor.Sto
open Go.RowKit Heap
open Subj (Tok ML pieces takes)
open Rec (Rc recErr far recA rcOf)
open Idx (Ents ptrV)
open Shf (XAt NextX)

/-- The comparison. -/
def cmpR (q : Int) (r : Rc) : Int := IntKind.i64.wrap (r.seq - q)

/-- Where a search ends. -/
structure Found (L : List Rc) (q : Int) (i : Nat) (fd : Bool) : Prop where
  le : i ≤ L.length
  yes : fd = true → ∃ r, L[i]? = some r ∧ cmpR q r = 0
  no : fd = false → ∀ r, L[i]? = some r → cmpR q r ≠ 0
  sides : (∀ (j k : Nat) (a b : Rc), j < k → L[j]? = some a → L[k]? = some b → cmpR q a < cmpR q b) → (∀ r ∈ L.take i, cmpR q r < 0) ∧ ∀ r ∈ L.drop i, 0 ≤ cmpR q r

section
variable {w : World}

variable {W : World} {M : Nat → Prop} {x N D : Nat} {I : Ents} {v : Value} {L : List Rc} {bt last : Int}

end
end Go.Proofs.YtbgchhgdlceceaaGreatDoor.Sto
