/- Parts of the proof, joined: The reference's index: Put.; (*rillref.Shelf).Find, walked; two slices of entries compared (slices.Equal).; The reference's chest: Subjects, walked.; A store and the reference's chest side by side in memory.; The first paper for which a predicate holds: slices.IndexFunc, walked.; The disk's small calls: Used, Read, Sync.; The disk's Cut, Remove and Append. -/
import Derived.Test.YthhgfdeegnimjaaGreatDoorConsumerPlaysUptoM2
import Derived.Test.YthhgfdeegnimjaaGreatDoorConsumerPlaysUptoM5
import Derived.Test.YthhgfdeegnimjaaGreatDoorConsumerPlaysUptoM6
import Derived.Test.YthhgfdeegnimjaaGreatDoorConsumerPlaysUptoM7
import Derived.Test.YthhgfdeegnimjaaGreatDoorConsumerPlaysUptoM10
import Derived.Test.YthhgfdeegnimjaaGreatDoorConsumerPlaysUptoM19
import Derived.Test.YthhgfdeegnimjaaGreatDoorConsumerPlaysUptoM22
import Derived.Test.YthhgfdeegnimjaaGreatDoorConsumerPlaysUptoM23
import Derived.Test.YthhgfdeegnimjaaGreatDoorConsumerPlaysUptoM32
import Derived.Laws.StructEq
import Derived.Test.YthhgfdeegnimjaaGreatDoorProg
import Derived.Shelf.SlicesQ.Load
import Derived.Deep.LoopGhost
import Derived.Lib.SlBy
import Derived.RegionTactic
namespace Go.Proofs.YthhgfdeegnimjaaGreatDoor.Shf
open Go.RowKit Heap Idx
open Subj (Tok ML pieces Strs strAt StrsAt)

section
variable {W w : World} {G : Nat → Prop} {E : Nat} {A : Ents}

end
end Go.Proofs.YthhgfdeegnimjaaGreatDoor.Shf

namespace Go.Proofs.YthhgfdeegnimjaaGreatDoor.Shf
open Go.RowKit Heap Idx
open Subj (Tok ML pieces takes)

/-- What has been found so far. -/
def OutE (w wr : World) (o : Value) (L : Ents) : Prop := Row wr 183 2 o L.length (entV L) ∧ ∀ k, own o k → w.heap.size ≤ k

section
variable {W w : World} {G : Nat → Prop} {E : Nat} {A : Ents}

theorem OutE.next {w wr w' : World} {o : Value} {L : Ents} (h : OutE w wr o L) (hb : Below wr.heap.size wr w') : OutE w w' o L := ⟨h.1.kept fun k _ hk => hb.block k hk, h.2⟩

end
end Go.Proofs.YthhgfdeegnimjaaGreatDoor.Shf

namespace Go.Proofs.YthhgfdeegnimjaaGreatDoor.Sto
open Go.RowKit Heap
open Subj (Tok ML pieces takes)
open Rec (Rc recErr far)
open Idx (Ents ptrV before before_irrefl before_trans idxL idxL_cases insL_sorted)
open Shf (SortedE putL getL ShelfAt NextS)

section
variable {W w : World} {C : Nat} {L : List Rc} {last : Int} {v : Value} {I : Ents}

end
end Go.Proofs.YthhgfdeegnimjaaGreatDoor.Sto

namespace Go.Proofs.YthhgfdeegnimjaaGreatDoor.Sto
open Go.RowKit Heap
open Subj (Tok ML pieces takes)
open Rec (Rc recErr far)
open Idx (Ents ptrV)

theorem dist_sub {A B : List Rc} (h : ∀ s ∈ subjs A, s ∈ subjs B) : dist A ≤ dist B := nodup_le (nodup_subjs A) h

theorem dist_after {L : List Rc} {last : Int} {r : Rc} (h : dist L ≤ 100) : dist (after L last r).1 ≤ 100 := by
  unfold after
  split
  · rename_i h0
    have hz := try_zero h0
    show dist (leftS L r) ≤ 100
    by_cases hk : r.kind = 1
    · have h1 := (hz.2.1 hk).2.2
      have e : leftS L r = L ++ [r] := by unfold leftS; rw [if_pos hk]
      rw [e]
      by_cases hc : cntR L r.subj = 0
      · have h2 : dist (L ++ [r]) ≤ (r.subj :: subjs L).length := nodup_le (nodup_subjs _) fun s hs => by
          obtain ⟨x, hx, hxs⟩ := mem_subjs.1 hs
          rcases List.mem_append.1 hx with hx | hx
          · exact List.mem_cons.2 (.inr (mem_subjs.2 ⟨x, hx, hxs⟩))
          · simp at hx; subst hx; exact List.mem_cons.2 (.inl hxs.symm)
        have h3 : dist L ≠ 100 := h1.resolve_left fun h => h hc
        rw [List.length_cons] at h2
        unfold dist at h h2 h3 ⊢
        omega
      · refine Nat.le_trans (dist_sub fun s hs => ?_) h
        obtain ⟨x, hx, hxs⟩ := mem_subjs.1 hs
        rcases List.mem_append.1 hx with hx | hx
        · exact mem_subjs.2 ⟨x, hx, hxs⟩
        · simp at hx; subst hx; rw [← hxs]; exact mem_subjs.2 (cnt_ne.1 hc)
    · refine Nat.le_trans (dist_sub fun s hs => ?_) h
      obtain ⟨x, hx, hxs⟩ := mem_subjs.1 hs
      refine mem_subjs.2 ⟨x, ?_, hxs⟩
      unfold leftS at hx
      rw [if_neg hk] at hx
      split at hx
      · exact (List.mem_filter.1 hx).1
      · split at hx
        · exact (List.mem_filter.1 hx).1
        · exact hx
  · exact h

/-- A store at D, a chest at C. -/
structure BothAt (W : World) (F : Nat → Prop) (D B C : Nat) (v : Value) (L : List Rc) (last : Int) (L2 : List Rc) (last2 : Int) (w : World) : Prop where
  st : StoreAt W F D B L last w
  ch : ChAt W C v L2 last2 w
  fC : ¬ F C
  fv : ∀ k, own v k → ¬ F k

section
variable {W w w1 : World} {F : Nat → Prop} {D B B' C : Nat} {v : Value} {L L2 L' : List Rc} {last last2 last' : Int}

theorem BothAt.next (h : BothAt W F D B C v L last L2 last2 w) (hb : Below w.heap.size w w1) : BothAt W F D B C v L last L2 last2 w1 := ⟨h.st.next hb, h.ch.next hb, h.fC, h.fv⟩

theorem ChAt.touch (h : ChAt W C v L last w) (ht : Heap.Touch F w w1) (hF : ∀ k, F k → W.heap.size ≤ k) (fC : ¬ F C) (fv : ∀ k, own v k → ¬ F k) : ChAt W C v L last w1 :=
  ⟨(ht.block C (heap_lt h.cell) fC).trans h.cell, h.row.kept fun k hk hlt => ht.block k hlt (fv k hk), h.old, h.mine, h.below.trans (ht.below h.below.size hF)⟩

theorem BothAt.store (h : BothAt W F D B C v L last L2 last2 w) (hn : NextSt W F D B' w L' last' w1) : ∃ F', BothAt W F' D B' C v L' last' L2 last2 w1 ∧ ∀ k, F' k → F k ∨ w.heap.size ≤ k := by
  obtain ⟨⟨F', hS, hF⟩, ht⟩ := hn
  refine ⟨F', ⟨hS, h.ch.touch ht h.st.newF h.fC h.fv, fun hk => ?_, fun k hk hk2 => ?_⟩, hF⟩
  · rcases hF C hk with e | e
    · exact h.fC e
    · have := heap_lt h.ch.cell; omega
  · rcases hF k hk2 with e | e
    · exact h.fv k hk e
    · have := h.ch.row.lt k hk; omega

theorem BothAt.chest (h : BothAt W F D B C v L last L2 last2 w) (hn : NextCh W C v w L' last' w1) : ∃ v', BothAt W F D B C v' L last L' last' w1 ∧ ∀ k, own v' k → own v k ∨ w.heap.size ≤ k := by
  obtain ⟨v', hC, ht, ho⟩ := hn
  refine ⟨v', ⟨h.st.kept hC.below ht.size fun k hk hlt => ht.block k hlt fun e => ?_, hC, h.fC, fun k hk hF => ?_⟩, ho⟩
  · rcases e with rfl | e
    · exact h.fC hk
    · exact h.fv k e hk
  · rcases ho k hk with e | e
    · exact h.fv k e hF
    · have := h.st.bF k hF; omega

theorem BothAt.below (h : BothAt W F D B C v L last L2 last2 w) : Below W.heap.size W w := h.ch.below
end
end Go.Proofs.YthhgfdeegnimjaaGreatDoor.Sto

namespace Go.Proofs.YthhgfdeegnimjaaGreatDoor.Drw
open Go.RowKit Heap Dsk

def cells (p : FileP) : List Value := [.int .i64 p.n, .int .i64 (p.sure : Nat), .string ⟨p.text.toArray⟩]
def plsV (l : List FileP) : List Value := l.flatMap cells
theorem plsV_at (l : List FileP) (k : Nat) (p : FileP) (h : l[k]? = some p) (i : Nat) (hi : i < 3) : (plsV l)[k * 3 + i]? = (cells p)[i]? := by
  induction l generalizing k with
  | nil => simp at h
  | cons q l ih =>
    show (cells q ++ plsV l)[k * 3 + i]? = _
    cases k with
    | zero =>
      simp at h; subst h
      rw [List.getElem?_append_left (by simp [cells]; omega)]
      simp
    | succ k =>
      rw [List.getElem?_append_right (by simp [cells]; omega)]
      rw [show (k + 1) * 3 + i - (cells q).length = k * 3 + i by simp [cells]; omega]
      exact ih k (by simpa using h)

/-- A predicate on pulls: what a call of it answers in every world that C holds of. -/
def Tells (g : Nat) (lb : Array Value) (p : FileP → Bool) (C : World → Prop) : Prop :=
  ∀ (W : World) (x : FileP), C W → Calls Tryz.prog g (#[.agg #[.int .i64 x.n, .int .i64 (x.sure : Nat), .string ⟨x.text.toArray⟩]] ++ lb) W fun e w' => e = .returned (.bool (p x)) ∧ Below W.heap.size W w'

def KeptBy (v : Value) (C : World → Prop) : Prop := ∀ W W', C W → Heap.Touch (own v) W W' → C W'

theorem cells_pull {w : World} {g off n cap : Nat} {l : List FileP} (h : Row w 277 3 (.slice (some ⟨g, off, none⟩) n cap) n (plsV l)) (k : Nat) (p : FileP) (hp : l[k]? = some p) (hk : k < n) :
    w.cell? ⟨g, off + k * 3, none⟩ = some (.int .i64 p.n) ∧ w.cell? ⟨g, off + k * 3 + 1, none⟩ = some (.int .i64 (p.sure : Nat)) ∧ w.cell? ⟨g, off + k * 3 + 2, none⟩ = some (.string ⟨p.text.toArray⟩) := by
  have e : ∀ i, i < 3 → w.cell? ⟨g, off + k * 3 + i, none⟩ = (cells p)[i]? := fun i hi => by
    rw [show off + k * 3 + i = off + (k * 3 + i) by omega, (h.cell (k * 3 + i) (by omega)).1, plsV_at l k p hp i hi]
  exact ⟨e 0 (by omega), e 1 (by omega), e 2 (by omega)⟩

set_option maxHeartbeats 2000000 in
set_option maxRecDepth 100000 in
theorem index_any (g : Nat) (lb : Array Value) (p : FileP → Bool) (C : World → Prop) (eg : ∀ args w, (callFunc g args).run Tryz.prog w = .ok (.enter g args) w)
    (v : Value) (l : List FileP) (w : World) (hrow : Row w 277 3 v l.length (plsV l)) (hl : l.length ≤ 1000) (hC : C w) (hk : KeptBy v C) (hp : Tells g lb p C)
    (r : Int) (hr : (r = -1 ∧ ∀ x ∈ l, p x = false) ∨ ∃ (k : Nat) (x : FileP), r = (k : Int) ∧ l[k]? = some x ∧ p x = true ∧ ∀ y ∈ l.take k, p y = false) :
    Calls Tryz.prog 310 #[v, .func (.func g) #[] lb] w fun e w' => e = .returned (.int .i64 r) ∧ Below w.heap.size w w' := by
  rcases hrow.2 with ⟨rfl, h0⟩ | ⟨b, off, cap, cur, rfl, hg, _⟩
  · obtain rfl : l = [] := List.eq_nil_of_length_eq_zero h0
    have : r = -1 := by
      rcases hr with h | ⟨k, x, _, h, _⟩
      · exact h.1
      · simp at h
    subst this
    clear hrow hr hp hk
    go_enter Tryz.func310, Tryz.ntmps310
    go_wp2_with fail
    go_loopw [5, 8] (fun _ i wr => i = .int .i64 0 ∧ wr = w) (fun _ _ _ => 0)
    case atStart => exact ⟨rfl, rfl⟩
    case round =>
      obtain ⟨rfl, rfl⟩ := hrel
      go_wp2
      go_ret
      exact ⟨rfl, Below.refl _ _⟩
  · have hb : b < w.heap.size := heap_lt hg
    have HR := Lib.hid hrow; have HQ := Lib.hid hr; have HP := Lib.hid hp; have HKB := Lib.hid hk; have HCC := Lib.hid hC
    clear hrow hr hp hk hC hg
    generalize hn : l.length = n at *
    have HN := Lib.hid hn
    clear hn
    go_enter Tryz.func310, Tryz.ntmps310
    go_wp2_with fail
    go_loopw [5, 8] (fun _ i wr => ∃ k : Nat, k ≤ n ∧ i = .int .i64 k ∧ Below w.heap.size w wr ∧ Hid (∀ y ∈ l.take k, p y = false)) (fun _ i _ => n - (intOf i).toNat)
    case atStart => exact ⟨0, Nat.zero_le _, rfl, Below.refl _ _, Lib.hid fun y h => by simp at h⟩
    case round =>
      obtain ⟨k, hkn, rfl, BW, A⟩ := hrel
      have BB := Lib.hid BW
      by_cases hlt : k < n
      · have hltz : (k : Int) < (n : Int) := by omega
        have hlt' : k < l.length := by rw [HN.out]; exact hlt
        obtain ⟨x, hx⟩ : ∃ x, l[k]? = some x := ⟨l[k], List.getElem?_eq_getElem hlt'⟩
        have hrow' := HR.out.kept (w' := wr) (fun j _ hj => BW.block j hj)
        obtain ⟨c0, c1, c2⟩ := cells_pull hrow' k x hx hlt
        have hcall := HP.out wr x (HKB.out w wr HCC.out (Heap.Touch.ofBelow BW))
        have X := Lib.hid hx
        clear hrow' hx BW
        cases hq : p x with
        | true =>
          rw [hq] at hcall
          have hrk : r = (k : Int) := by
            rcases HQ.out with ⟨_, h⟩ | ⟨k', x', rfl, h1, h2, h3⟩
            · have := h x (List.mem_of_getElem? X.out)
              rw [hq] at this; cases this
            · have e : k' = k := by
                rcases Nat.lt_trichotomy k' k with hlt2 | hlt2 | hlt2
                · have := A.out x' (List.mem_of_getElem? (i := k') (by rw [List.getElem?_take, if_pos hlt2]; exact h1))
                  rw [h2] at this; cases this
                · exact hlt2
                · have := h3 x (List.mem_of_getElem? (i := k) (by rw [List.getElem?_take, if_pos hlt2]; exact X.out))
                  rw [hq] at this; cases this
              rw [e]
          subst hrk
          go_wp2_with (go_at_fn g; refine hcall.mono ?_; rintro e w' ⟨rfl, hb'⟩)
          go_ret
          exact ⟨rfl, BB.out.trans (hb'.mono BB.out.size)⟩
        | false =>
          rw [hq] at hcall
          go_wp2_with (go_at_fn g; refine hcall.mono ?_; rintro e w' ⟨rfl, hb'⟩)
          refine ⟨⟨k + 1, by omega, by go_num, BB.out.trans (hb'.mono BB.out.size), Lib.hid fun y hy => ?_⟩, by simp [intOf]; omega⟩
          obtain ⟨j, hj, rfl⟩ := List.mem_iff_getElem.1 hy
          rw [List.length_take] at hj
          rw [List.getElem_take]
          by_cases e : j = k
          · subst e
            have := X.out
            rw [List.getElem?_eq_getElem hlt'] at this
            simp at this
            rw [this]; exact hq
          · exact A.out _ (List.mem_of_getElem? (i := j) (by rw [List.getElem?_take, if_pos (by omega)]; exact List.getElem?_eq_getElem (by omega)))
      · have hltz : ¬ (k : Int) < (n : Int) := by omega
        obtain rfl : k = n := by omega
        have hrk : r = -1 := by
          rcases HQ.out with ⟨h, _⟩ | ⟨k', x', rfl, h1, h2, h3⟩
          · exact h
          · have h4 := (List.getElem?_eq_some_iff.1 h1).1
            have := A.out x' (List.mem_of_getElem? (i := k') (by rw [List.getElem?_take, if_pos (by rw [← HN.out]; exact h4)]; exact h1))
            rw [h2] at this; cases this
        subst hrk
        go_wp2
        go_ret
        exact ⟨rfl, BB.out⟩

end Go.Proofs.YthhgfdeegnimjaaGreatDoor.Drw

namespace Go.Proofs.YthhgfdeegnimjaaGreatDoor.Dsk
open Go.RowKit Go.Maps Heap

theorem twoC {B : Nat} {w : World} {t : TypeId} {a0 a1 : Value} (h : w.heap[B]? = some (.cells #[a0, a1] t (0, 0))) :
    w.cell? ⟨B, 0, none⟩ = some a0 ∧ w.cell? ⟨B, 1, none⟩ = some a1 ∧ ∀ j, w.frozen? ⟨B, j, none⟩ = false := by
  refine ⟨?_, ?_, fun j => ?_⟩
  · rw [cell_of_row w B 0 _ _ _ h]; rfl
  · rw [cell_of_row w B 1 _ _ _ h]; rfl
  · exact frozen_of_row w B j _ _ h

theorem threeC {B : Nat} {w : World} {t : TypeId} {a0 a1 a2 : Value} (h : w.heap[B]? = some (.cells #[a0, a1, a2] t (0, 0))) :
    w.cell? ⟨B, 0, none⟩ = some a0 ∧ w.cell? ⟨B, 1, none⟩ = some a1 ∧ w.cell? ⟨B, 2, none⟩ = some a2 ∧ ∀ j, w.frozen? ⟨B, j, none⟩ = false := by
  refine ⟨?_, ?_, ?_, fun j => ?_⟩
  · rw [cell_of_row w B 0 _ _ _ h]; rfl
  · rw [cell_of_row w B 1 _ _ _ h]; rfl
  · rw [cell_of_row w B 2 _ _ _ h]; rfl
  · exact frozen_of_row w B j _ _ h

section
variable {W w : World} {F : Nat → Prop} {D : Nat} {room : Int} {A : List FileP}
theorem read_any (h : DiskAt W F D room A w) (n : Int) (hk : -9223372036854775808 ≤ n ∧ n ≤ 9223372036854775807) : Calls Tryz.prog 243 #[.pointer (some ⟨D, 0, none⟩), .int .i64 n] w fun e w' => e = .returned (.tuple #[.string ⟨(readD A n).1.toArray⟩, .int .i64 ((readD A n).2 : Nat)]) ∧ w = w' := by
  obtain ⟨M, β, X, hm⟩ := h.mem
  obtain ⟨c0, c1, c2, cf⟩ := threeC hm.cells
  have hown := Lib.hid hm.own
  cases hg : getF A n with
  | some p =>
    have hhas : Maps.has X (.int .i64 n) = true := by rw [hm.has, hg]; rfl
    have hat : ∀ z, X.atKey (.int .i64 n) z = .lit (.int .i64 (β p.n : Nat)) := fun z => by have := hm.at_ p (getF_n hg).2 z; rw [(getF_n hg).1] at this; rw [(getF_n hg).1]; exact this
    obtain ⟨f0, f1, ff⟩ := twoC (hm.files p (getF_n hg).2)
    have hr : readD A n = (p.text, 0) := by unfold readD; rw [hg]
    rw [hr]
    have HHAS := Lib.hid hhas; have HAT := Lib.hid hat; have HK := Lib.hid hk
    clear hm h hg hr hhas hat hk
    go_enter Tryz.func243, Tryz.ntmps243
    go_wp2_with (first | (at_lookup; refine look_hit _ rfl _ _ rfl M _ X rfl hown.out n rfl HK.out (β p.n) HHAS.out HAT.out ?_))
    go_ret2
    exact ⟨rfl, rfl⟩
  | none =>
    have hhas : Maps.has X (.int .i64 n) = false := by rw [hm.has, hg]; rfl
    have hr : readD A n = ([], 4) := by unfold readD; rw [hg]
    rw [hr]
    have HHAS := Lib.hid hhas; have HK := Lib.hid hk
    clear hm h hg hr hhas hk
    go_enter Tryz.func243, Tryz.ntmps243
    go_wp2_with (first | (at_lookup; refine look_miss _ rfl _ _ rfl M _ X rfl hown.out n rfl HK.out HHAS.out ?_))
    go_ret2
    exact ⟨rfl, rfl⟩

/-- Of whatever two cells are written the disk's others stand. -/
theorem DiskAt.next {w' : World} {G : Nat → Prop} {A' : List FileP} (h : DiskAt W F D room A w) (hr : RightD room A') (ht : Heap.Touch F w w') (hG : ∀ k, G k → W.heap.size ≤ k) (hm : ∃ M β X, DM G D M β X room A' w') : DiskAt W G D room A' w' :=
  ⟨hr, h.below.trans (ht.below h.below.size h.newF), hG, hm⟩

theorem Grow.new (h : DiskAt W F D room A w) : ∀ k, Grow F w k → W.heap.size ≤ k := by
  rintro k (hk | hk)
  · exact h.newF k hk
  · exact Nat.le_trans h.below.size hk

/-- A disk of fewer blocks is one of more. -/
theorem DiskAt.mono {G : Nat → Prop} (h : DiskAt W F D room A w) (hG : ∀ k, F k → G k) (hn : ∀ k, G k → W.heap.size ≤ k) : DiskAt W G D room A w := by
  obtain ⟨M, β, X, hm⟩ := h.mem
  exact ⟨h.right, h.below, hn, M, β, X, hm.mono hG⟩

theorem DiskAt.kept {w' : World} (h : DiskAt W F D room A w) (hb : Below W.heap.size w w') (hs : Same F w w') : DiskAt W F D room A w' := by
  obtain ⟨M, β, X, hm⟩ := h.mem
  exact ⟨h.right, h.below.trans hb, h.newF, M, β, X, hm.kept hs⟩

end
end Go.Proofs.YthhgfdeegnimjaaGreatDoor.Dsk

namespace Go.Proofs.YthhgfdeegnimjaaGreatDoor.Dsk
open Go.RowKit Go.Maps Heap

section
variable {W w : World} {F : Nat → Prop} {D : Nat} {room : Int} {A : List FileP}

/-- Both cells of a file and the sum are written. -/
theorem DiskAt.put {M : Nat} {β : Int → Nat} {X : DataW Unit} {w' : World} (h : DiskAt W F D room A w) (hm : DM F D M β X room A w) {n : Int} {p q : FileP} (hg : getF A n = some p) (hq : q.n = n) (hr : RightD room (setF A q)) (ht : Heap.Touch (fun k => k = D ∨ k = β p.n) w w')
    (hD : w'.heap[D]? = some (.cells #[.int .i64 room, .int .i64 (total (setF A q) : Nat), .map (some M)] 327 (0, 0)))
    (hB : w'.heap[β p.n]? = some (.cells #[.string ⟨q.text.toArray⟩, .int .i64 (q.sure : Nat)] 375 (0, 0))) : DiskAt W F D room (setF A q) w' ∧ Heap.Touch F w w' := by
  obtain ⟨hpn, hpm⟩ := getF_n hg
  have htF : Heap.Touch F w w' := ht.mono fun k _ e => by
    rcases e with rfl | rfl
    · exact hm.fD
    · exact hm.fF p hpm
  subst hq
  rw [hpn] at ht hB
  exact ⟨h.next hr htF h.newF ⟨M, β, X, hm.set h.right hg ht hD hB⟩, htF⟩

end
end Go.Proofs.YthhgfdeegnimjaaGreatDoor.Dsk
