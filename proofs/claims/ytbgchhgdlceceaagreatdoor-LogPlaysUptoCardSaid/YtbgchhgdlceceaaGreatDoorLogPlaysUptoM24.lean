/- Parts of the proof, joined: LogPlays: a log on a disk, the reference's disk, the records told so far: in memory. -/
import Derived.Test.YtbgchhgdlceceaaGreatDoorLogPlaysUptoM23
namespace Go.Proofs.YtbgchhgdlceceaaGreatDoor.Log
open Go.RowKit Heap Dsk Drw
open Subj (ML)
open Rec (Rc recErr recA rcOf codedL decL)
open Sto (recsV recsV_append RecsAt Fits parts sixC recV row_recs)

structure Lq (W : World) (F Gx : Nat → Prop) (D E g : Nat) (room size : Int) (A B : List FileP) (all : List Rc) (va : Value) (N : Nat) (w : World) : Prop where
  disk : DiskAt W F D room A w
  drawer : DrawAt W Gx E room B w
  log : LogAt D g size w
  row : Row w 33 6 va all.length (recsV all)
  bF : ∀ k, F k → k < w.heap.size
  bG : ∀ k, Gx k → k < w.heap.size
  apart : ∀ k, F k → ¬ Gx k
  gF : ¬ F g
  gG : ¬ Gx g
  oldg : W.heap.size ≤ g
  own_ : ∀ k, own va k → ¬ F k ∧ ¬ Gx k ∧ k ≠ g ∧ W.heap.size ≤ k
  fits : ∀ r ∈ all, Fits r
  len : all.length ≤ N
  sz : 1 ≤ size ∧ size ≤ 4096

section
variable {W w w1 : World} {F Gx : Nat → Prop} {D E g : Nat} {room size : Int} {A B A1 B1 : List FileP} {all : List Rc} {va : Value} {N : Nat}

theorem Lq.ltg (h : Lq W F Gx D E g room size A B all va N w) : g < w.heap.size := heap_lt (show w.heap[g]? = _ from h.log)

theorem Lq.next (h : Lq W F Gx D E g room size A B all va N w) (hb : Below w.heap.size w w1) : Lq W F Gx D E g room size A B all va N w1 :=
  { h with
    disk := DiskAt.low h.disk hb
    drawer := h.drawer.next hb
    log := h.log.below hb
    row := h.row.kept fun k _ hk => hb.block k hk
    bF := fun k hk => Nat.lt_of_lt_of_le (h.bF k hk) hb.size
    bG := fun k hk => Nat.lt_of_lt_of_le (h.bG k hk) hb.size }

theorem Lq.dsk (h : Lq W F Gx D E g room size A B all va N w) (hd : DiskAt W (Grow F w) D room A1 w1) (ht : Heap.Touch F w w1) : Lq W (fun k => Grow F w k ∧ k < w1.heap.size) Gx D E g room size A1 B all va N w1 :=
  { h with
    disk := hd.shrink
    drawer := h.drawer.kept (h.drawer.below.trans (ht.below h.drawer.below.size h.disk.newF)) fun k hk hlt => ht.block k hlt fun e => h.apart k e hk
    log := h.log.touch ht h.gF
    row := h.row.kept fun k hk hlt => ht.block k hlt (h.own_ k hk).1
    bF := fun k hk => hk.2
    bG := fun k hk => Nat.lt_of_lt_of_le (h.bG k hk) ht.size
    apart := fun k hk e => by
      rcases hk.1 with x | x
      · exact h.apart k x e
      · have := h.bG k e; omega
    gF := fun e => by
      rcases e.1 with x | x
      · exact h.gF x
      · have := h.ltg; omega
    own_ := fun k hk => ⟨fun e => by
      rcases e.1 with x | x
      · exact (h.own_ k hk).1 x
      · have := h.row.lt k hk; omega, (h.own_ k hk).2⟩ }

theorem Lq.drw (h : Lq W F Gx D E g room size A B all va N w) (hd : DrawAt W (Dsk.Grow Gx w) E room B1 w1) (ht : Heap.Touch Gx w w1) : Lq W F (fun k => Dsk.Grow Gx w k ∧ k < w1.heap.size) D E g room size A B1 all va N w1 :=
  { h with
    disk := h.disk.kept (ht.below h.disk.below.size h.drawer.newG) fun k hk hlt => ht.block k hlt (h.apart k hk)
    drawer := Vlt.DrawAt.shrink hd
    log := h.log.touch ht h.gG
    row := h.row.kept fun k hk hlt => ht.block k hlt (h.own_ k hk).2.1
    bF := fun k hk => Nat.lt_of_lt_of_le (h.bF k hk) ht.size
    bG := fun k hk => hk.2
    apart := fun k hk e => by
      rcases e.1 with x | x
      · exact h.apart k hk x
      · have := h.bF k hk; omega
    gG := fun e => by
      rcases e.1 with x | x
      · exact h.gG x
      · have := h.ltg; omega
    own_ := fun k hk => ⟨(h.own_ k hk).1, fun e => by
      rcases e.1 with x | x
      · exact (h.own_ k hk).2.1 x
      · have := h.row.lt k hk; omega, (h.own_ k hk).2.2⟩ }

/-- The list of records is turned, or another one. -/
theorem Lq.list {all' : List Rc} {v' : Value} {M : Nat} (h : Lq W F Gx D E g room size A B all va N w) (hb : Heap.Touch (own va) w w1) (hr : Row w1 33 6 v' all'.length (recsV all')) (ho : ∀ k, own v' k → own va k ∨ w.heap.size ≤ k) (hf : ∀ r ∈ all', Fits r) (hl : all'.length ≤ M) : Lq W F Gx D E g room size A B all' v' M w1 :=
  { h with
    disk := h.disk.kept (hb.below h.disk.below.size fun k hk => (h.own_ k hk).2.2.2) fun k hk hlt => hb.block k hlt fun e => (h.own_ k e).1 hk
    drawer := h.drawer.kept (h.drawer.below.trans (hb.below h.drawer.below.size fun k hk => (h.own_ k hk).2.2.2)) fun k hk hlt => hb.block k hlt fun e => (h.own_ k e).2.1 hk
    log := h.log.touch hb fun e => (h.own_ g e).2.2.1 rfl
    row := hr
    bF := fun k hk => Nat.lt_of_lt_of_le (h.bF k hk) hb.size
    bG := fun k hk => Nat.lt_of_lt_of_le (h.bG k hk) hb.size
    own_ := fun k hk => by
      rcases ho k hk with e | e
      · exact h.own_ k e
      · have h1 := h.disk.below.size
        have h2 := h.ltg
        exact ⟨fun x => by have := h.bF k x; omega, fun x => by have := h.bG k x; omega, by omega, by omega⟩
    fits := hf
    len := hl }

/-- The disks alone, side by side, with a log and a list of records that are new. -/
theorem Lq.of {w0 : World} {all' : List Rc} {v' : Value} (h : Pair W F Gx D E room A B w) (hg : LogAt D g size w) (hgF : ¬ F g) (hgG : ¬ Gx g) (hog : W.heap.size ≤ g) (hr : Row w 33 6 v' all'.length (recsV all')) (ho : ∀ k, own v' k → ¬ F k ∧ ¬ Gx k ∧ W.heap.size ≤ k) (hf : ∀ r ∈ all', Fits r) (hl : all'.length ≤ N) (hs : 1 ≤ size ∧ size ≤ 4096) :
    Lq W F Gx D E g room size A B all' v' N w :=
  ⟨h.disk, h.drawer, hg, hr, h.bF, h.bG, h.apart, hgF, hgG, hog, fun k hk => ⟨(ho k hk).1, (ho k hk).2.1, fun e => by
    subst e
    have h3 : w.heap[k]? = _ := hg
    rcases hr.2 with ⟨e2, _⟩ | ⟨g', off, cap, cur, e2, hg', _⟩
    · rw [e2] at hk; simp [own, Value.ownBlock] at hk
    · rw [e2] at hk
      simp [own, Value.ownBlock] at hk
      rw [← hk, hg'] at h3
      simp at h3, (ho k hk).2.2⟩, hf, hl, hs⟩

theorem Lq.pair (h : Lq W F Gx D E g room size A B all va N w) : Pair W F Gx D E room A B w := ⟨h.disk, h.drawer, h.bF, h.bG, h.apart⟩

theorem scanF_ok : ∀ (f : Nat) (s : List UInt8), ∀ r ∈ (scanF f s).1, recErr r = 0
  | 0, _, r, h => by cases h
  | f + 1, s, r, h => by
    unfold scanF at h
    split at h
    · cases h
    · split at h
      · cases h
      · rename_i h1 h2
        rcases List.mem_cons.1 h with rfl | h
        · exact (Rec.decL_one (s := s) (r := (decL s).1) (n := (decL s).2.1) (Prod.ext rfl (Prod.ext rfl (by simpa using h2)))).1
        · exact scanF_ok f _ r h

theorem openD_ok : ∀ (A : List FileP), ∀ r ∈ (openD A).1, recErr r = 0
  | [], r, h => by cases h
  | p :: l, r, h => by
    unfold openD at h
    split at h
    · exact scanF_ok _ _ r h
    · rcases List.mem_append.1 h with h | h
      · exact scanF_ok _ _ r h
      · exact openD_ok l r h

theorem pair_stay {F : Nat → Prop} (h : Pair W F Gx D E room A B w) (hd : DiskAt W F D room A1 w1) (ht : Heap.Touch F w w1) : Pair W F Gx D E room A1 B w1 :=
  ⟨hd, h.drawer.kept (h.drawer.below.trans (ht.below h.drawer.below.size h.disk.newF)) fun k hk hlt => ht.block k hlt fun e => h.apart k e hk, fun k hk => Nat.lt_of_lt_of_le (h.bF k hk) ht.size, fun k hk => Nat.lt_of_lt_of_le (h.bG k hk) ht.size, h.apart⟩

theorem openD_len {room : Int} {A : List FileP} (h : RightD room A) : (openD A).1.length ≤ 65536 := by
  rw [openD_all]
  exact outB_len h _

/-- Both have been opened. -/
theorem Lq.opened {w3 w4 : World} {v : Value} {e : Ending} (hP : Pair W F Gx D E room A A w) (hd3 : DiskAt W F D room (openD A).2 w3) (hg3 : LogAt D g size w3) (hgl : w.heap.size ≤ g) (hr3 : Row w3 33 6 v (openD A).1.length (recsV (openD A).1)) (ho3 : ∀ k, own v k → w.heap.size ≤ k) (ht3 : Heap.Touch F w w3)
    (hop : OpenedPost W Gx E room w3 A e w4) (hs : 1 ≤ size ∧ size ≤ 4096) (hN : 65536 ≤ N) :
    ∃ v2 G2, e = .returned v2 ∧ Lq W F G2 D E g room size (openD A).2 (openD A).2 (openD A).1 v2 N w4 ∧ Row w4 33 6 v (openD A).1.length (recsV (openD A).1) := by
  obtain ⟨v2, G', rfl, hd4, hG', hr4, ho4, ht4⟩ := hop
  have z3 := ht3.size; have z4 := ht4.size
  have zg := heap_lt (show w3.heap[g]? = _ from hg3)
  have zW := hP.disk.below.size
  have hGx : ∀ k, w.heap.size ≤ k → ¬ Gx k := fun k hk e => by have := hP.bG k e; omega
  have hnG : ∀ k, G' k → Gx k ∨ w3.heap.size ≤ k := hG'
  have hdk : DiskAt W F D room (openD A).2 w4 := hd3.kept (ht4.below (by omega) hP.drawer.newG) fun k hk hlt => ht4.block k hlt (hP.apart k hk)
  refine ⟨v2, fun k => G' k ∧ k < w4.heap.size, rfl, Lq.of (w0 := w) ⟨hdk, Vlt.DrawAt.shrink hd4, fun k hk => by have := hP.bF k hk; omega, fun k hk => hk.2, fun k hk e => ?_⟩ (hg3.touch ht4 (hGx g hgl)) (fun e => by have := hP.bF g e; omega) (fun e => ?_) (by omega) hr4 (fun k hk => ⟨fun e => ?_, fun e => (ho4 k hk).2 e.1, by have := (ho4 k hk).1; omega⟩) (fun r hr => Vlt.fits_ok (openD_ok A r hr)) (Nat.le_trans (openD_len hP.disk.right) hN) hs, hr3.kept fun k hk hlt => ht4.block k hlt (hGx k (ho3 k hk))⟩
  · rcases hnG k e.1 with x | x
    · exact hP.apart k hk x
    · have := hP.bF k hk; omega
  · rcases hnG g e.1 with x | x
    · exact hGx g hgl x
    · omega
  · have := (ho4 k hk).1
    have := hP.bF k e
    omega
end
end Go.Proofs.YtbgchhgdlceceaaGreatDoor.Log
