/- Parts of the proof, joined: The reference's disk in memory: a room and a slice of papers.; The disk's Remove and Append.; disk.New.; The disk's List: its files' numbers, rising.; The reference's disk: Used, List, Read.; spoil: a list is overwritten, with the room behind it. gen_spoil.py writes this text.; What the walks of package record lean on.; rillref.SameTaker of two like ones, walked. -/
import Derived.Test.YthhgfdeegnimjaaGreatDoorConsumerPlaysUptoM13
import Derived.Test.YthhgfdeegnimjaaGreatDoorConsumerPlaysUptoM14
import Derived.Test.YthhgfdeegnimjaaGreatDoorConsumerPlaysUptoM21
import Derived.Test.YthhgfdeegnimjaaGreatDoorConsumerPlaysUptoM22
import Derived.Test.YthhgfdeegnimjaaGreatDoorConsumerPlaysUptoM24
import Derived.Test.YthhgfdeegnimjaaGreatDoorConsumerPlaysUptoM27
import Derived.Test.YthhgfdeegnimjaaGreatDoorConsumerPlaysUptoM28
import Derived.Test.YthhgfdeegnimjaaGreatDoorConsumerPlaysUptoM33
import Derived.Test.YthhgfdeegnimjaaGreatDoorConsumerPlaysUptoM35
import Derived.Deep.CutRange
import Derived.Deep.QuietTactic
import Derived.BigQuiet
import Derived.Deep.Cut
import Derived.Test.YthhgfdeegnimjaaGreatDoorShelf
import Derived.Maps.Ext
import Derived.Sort.OwnSortedInts
namespace Go.Proofs.YthhgfdeegnimjaaGreatDoor.Drw
open Go.RowKit Heap Dsk

/-- The drawer at block E, its papers in the blocks of G. -/
structure DrawAt (W : World) (G : Nat → Prop) (E : Nat) (room : Int) (A : List FileP) (w : World) : Prop where
  right : RightD room A
  below : Below W.heap.size W w
  newG : ∀ k, G k → W.heap.size ≤ k
  gE : G E
  mem : ∃ v, w.heap[E]? = some (.cells #[.int .i64 room, v] 74 (0, 0)) ∧ Row w 277 3 v A.length (plsV A) ∧ ∀ k, own v k → G k

namespace DrawAt
variable {W w w' : World} {G : Nat → Prop} {E : Nat} {room : Int} {A : List FileP}

theorem kept (h : DrawAt W G E room A w) (hb : Below W.heap.size W w') (hs : Same G w w') : DrawAt W G E room A w' := by
  obtain ⟨v, h1, h2, h3⟩ := h.mem
  exact ⟨h.right, hb, h.newG, h.gE, v, (hs E h.gE (heap_lt h1)).trans h1, h2.kept (fun k hk hlt => hs k (h3 k hk) hlt), h3⟩

theorem next (h : DrawAt W G E room A w) (hb : Below w.heap.size w w') : DrawAt W G E room A w' :=
  h.kept (h.below.trans (hb.mono h.below.size)) fun k _ hk => hb.block k hk

theorem mono {H : Nat → Prop} (h : DrawAt W G E room A w) (hH : ∀ k, G k → H k) (hn : ∀ k, H k → W.heap.size ≤ k) : DrawAt W H E room A w := by
  obtain ⟨v, h1, h2, h3⟩ := h.mem
  exact ⟨h.right, h.below, hn, hH _ h.gE, v, h1, h2, fun k hk => hH k (h3 k hk)⟩
end DrawAt

/-! ### at -/
/-- Where a file stands, or -1. -/
def idxF : List FileP → Int → Int
  | [], _ => -1
  | p :: r, n => if p.n = n then 0 else if idxF r n = -1 then -1 else idxF r n + 1

theorem idxF_cases : ∀ (A : List FileP) (n : Int), (idxF A n = -1 ∧ getF A n = none) ∨ ∃ (k : Nat) (p : FileP), idxF A n = (k : Int) ∧ A[k]? = some p ∧ p.n = n ∧ getF A n = some p ∧ ∀ y ∈ A.take k, y.n ≠ n
  | [], n => .inl ⟨rfl, rfl⟩
  | a :: r, n => by
    unfold idxF getF
    by_cases e : a.n = n
    · rw [if_pos e, if_pos e]
      exact .inr ⟨0, a, rfl, rfl, e, rfl, fun y h => by simp at h⟩
    · rw [if_neg e, if_neg e]
      rcases idxF_cases r n with ⟨h1, h2⟩ | ⟨k, p, h1, h2, h3, h4, h5⟩
      · rw [if_pos h1]; exact .inl ⟨rfl, h2⟩
      · rw [if_neg (by omega), h1]
        refine .inr ⟨k + 1, p, by omega, by simpa using h2, h3, h4, fun y hy => ?_⟩
        rw [List.take_succ_cons] at hy
        rcases List.mem_cons.1 hy with rfl | hy
        · exact e
        · exact h5 y hy

end Go.Proofs.YthhgfdeegnimjaaGreatDoor.Drw

namespace Go.Proofs.YthhgfdeegnimjaaGreatDoor.Dsk
open Go.RowKit Go.Maps Heap

section
variable {W w : World} {F : Nat → Prop} {D : Nat} {room : Int} {A : List FileP}

end
end Go.Proofs.YthhgfdeegnimjaaGreatDoor.Dsk

namespace Go.Proofs.YthhgfdeegnimjaaGreatDoor.Dsk
open Go.RowKit Go.Maps Heap

section
variable {W w : World}

end
end Go.Proofs.YthhgfdeegnimjaaGreatDoor.Dsk

namespace Go.Proofs.YthhgfdeegnimjaaGreatDoor.Dsk
open Go.RowKit Go.Maps Heap

/-! ### what was collected -/
def CollI (X : DataW Unit) (left : Lit → Bool) (ss : List Int) : Prop := ss.Nodup ∧ ∀ x : Int, x ∈ ss ↔ (Maps.has X (.int .i64 x) = true ∧ left (.int .i64 x) = false)

theorem CollI.start (X : DataW Unit) : CollI X (Maps.has X) [] := ⟨List.nodup_nil, fun x => by cases Maps.has X (.int .i64 x) <;> simp⟩

theorem CollI.step {X : DataW Unit} {left : Lit → Bool} {ss : List Int} (h : CollI X left ss) {x : Int} {y : DataW Unit} (hlk : left (.int .i64 x) = true) (hat : ∀ zd, X.atKey (.int .i64 x) zd = y) : CollI X (fun z => left z && !z.sameKey (.int .i64 x)) (ss ++ [x]) := by
  have hhas : Maps.has X (.int .i64 x) = true := has_true_of_atKey hat
  have hnew : x ∉ ss := fun hx => by have := ((h.2 x).1 hx).2; rw [hlk] at this; cases this
  refine ⟨List.nodup_append.2 ⟨h.1, by simp, fun a ha b hb => by simp at hb; subst hb; exact fun e => hnew (e ▸ ha)⟩, fun y => ?_⟩
  by_cases hy : y = x
  · subst hy; simp [hhas, Lit.sameKey]
  · simp [h.2 y, hy, Lit.sameKey]

theorem CollI.perm {F : Nat → Prop} {D M : Nat} {β : Int → Nat} {X : DataW Unit} {room : Int} {A : List FileP} {w : World} {left : Lit → Bool} {ss : List Int} (h : CollI X left ss) (hm : DM F D M β X room A w) (hs : Sorted A) (hl : ∀ kl, left kl = false) : ss.Perm (A.map (·.n)) := by
  refine (List.perm_ext_iff_of_nodup h.1 ?_).2 fun x => ?_
  · exact (sorted_iff.1 hs).imp fun {a b} hab e => by subst e; omega
  · rw [h.2 x, hl, hm.has]
    constructor
    · rintro ⟨h1, _⟩
      obtain ⟨p, hp⟩ := Option.isSome_iff_exists.1 h1
      obtain ⟨e, hm⟩ := getF_n hp
      exact List.mem_map.2 ⟨p, hm, e⟩
    · intro h1
      obtain ⟨p, hp, rfl⟩ := List.mem_map.1 h1
      exact ⟨by rw [getF_mem hs hp]; rfl, rfl⟩

theorem sort_perm {A : List FileP} {ss : List Int} (hs : Sorted A) (h : ss.Perm (A.map (·.n))) : (ss.mergeSort fun x y => decide (x ≤ y)) = A.map (·.n) := by
  refine List.Perm.eq_of_pairwise (le := fun a b : Int => a ≤ b) (fun a b _ _ h1 h2 => by omega) ?_ ?_ ((List.mergeSort_perm ss _).trans h)
  · exact (List.pairwise_mergeSort (le := fun x y : Int => decide (x ≤ y)) (fun a b c h1 h2 => by simp only [decide_eq_true_eq] at *; omega) (fun a b => by simp only [Bool.or_eq_true, decide_eq_true_eq]; omega) ss).imp fun {a b} hab => by simpa using hab
  · exact (sorted_iff.1 hs).imp fun {a b} hab => by omega

/-! ### a sort of no element -/
theorem ins_nil (p : Option Addr) (cap : Nat) (w : World) : Calls Tryz.prog 355 #[.slice p 0 cap, .int .i64 0, .int .i64 0] w fun e w' => e = .returned (.tuple #[]) ∧ w' = w := by
  go_enter Tryz.func355, Tryz.ntmps355
  go_wp2
  refine wp_loop_rounds 1 ?_
  rw [rounds_succ]
  go_wp2
  go_end0
  exact ⟨rfl, rfl⟩

set_option maxRecDepth 100000 in
theorem pdq_nil (p : Option Addr) (cap : Nat) (w : World) : Calls Tryz.prog 335 #[.slice p 0 cap, .int .i64 0, .int .i64 0, .int .i64 0] w fun e w' => e = .returned (.tuple #[]) ∧ w' = w := by
  go_enter Tryz.func335, Tryz.ntmps335
  go_wp2
  refine wp_loop_rounds 1 ?_
  rw [rounds_succ]
  go_wp2_with (first | (go_at_call 355; refine (ins_nil p cap _).mono ?_; rintro e w' ⟨rfl, rfl⟩))
  refine bodyPost_ret (results_none rfl _ _ _) rfl ?_
  exact ⟨rfl, rfl⟩

set_option maxRecDepth 100000 in
theorem len_zero (w : World) : Calls Tryz.prog 203 #[.int .u64 0] w fun e w' => e = .returned (.int .i64 0) ∧ w' = w := by
  have h64 := Tryz.bits_Len64 0 w (by omega) (by omega)
  rw [show Lib.bitLen (0 : Int).toNat = 0 from by decide] at h64
  go_enter Tryz.func203, Tryz.ntmps203
  go_wp2_with (go_at_call 275; refine h64.mono ?_; rintro e w' ⟨rfl, rfl⟩)
  go_ret
  exact ⟨rfl, rfl⟩

set_option maxRecDepth 100000 in
theorem sort_nil (p : Option Addr) (cap : Nat) (w : World) : Calls Tryz.prog 297 #[.slice p 0 cap] w fun e w' => e = .returned (.tuple #[]) ∧ w' = w := by
  go_enter Tryz.func297, Tryz.ntmps297
  go_wp2_with (first
    | (go_at_call 203; refine (len_zero _).mono ?_; rintro e w' ⟨rfl, rfl⟩)
    | (go_at_call 335; refine (pdq_nil p cap _).mono ?_; rintro e w' ⟨rfl, rfl⟩))
  go_end0
  exact ⟨rfl, rfl⟩

/-! ### List -/
theorem info_intD : (Tryz.prog.info? 3).map (fun i => (i.zero, i.size, i.bytes)) = some (some (.int .i64 0), 1, 8) := by kernel_rfl

theorem news_intD (w : World) (z : Int) (t : TypeId) : ∀ j u, ([Value.int .i64 z] : List Value)[j]? = some u → (w.alloc (.cells #[.int .i64 z] t)).cell? ((⟨w.heap.size, 0, none⟩ : Addr).add j) = some u := by
  intro j u hu
  rcases j with _ | j
  · simp only [List.getElem?_cons_zero, Option.some.injEq] at hu
    subst hu
    rw [Addr.add_lit, World.cell?_alloc_at _ _ _ _ rfl]; rfl
  · simp at hu

theorem grown_below {w w' : World} (h : w.grownBy w' none) : Below w.heap.size w w' := ⟨h.os, h.tape, h.output, h.size, fun k hk => h.block k hk (by simp)⟩

def numsV (zs : List Int) : List Value := zs.map (Value.int .i64)

/-- What the range has brought so far. -/
def LW (w : World) (M n : Nat) (X : DataW Unit) (v : Value) (wr : World) (left : Lit → Bool) (cnt : Nat) (ss : List Int) : Prop :=
  wr.ranges Tryz.prog 3 ptrElem M w.heap.size n X left cnt ∧ CollI X left ss ∧ ss.length + cnt ≤ n ∧ Below w.heap.size w wr ∧ Row wr 3 1 v ss.length (numsV ss) ∧ ∀ k, own v k → w.heap.size < k

theorem LW.step {w wr w2 : World} {M n : Nat} {X : DataW Unit} {v : Value} {left : Lit → Bool} {cnt cnt2 : Nat} {ss : List Int} (h : LW w M n X v wr left cnt ss) (hM : M < w.heap.size) {x : Int} {yd : DataW Unit} (hlk : left (.int .i64 x) = true) (hat : ∀ zd, X.atKey (.int .i64 x) zd = yd)
    (hrg2 : w2.ranges Tryz.prog 3 ptrElem M w.heap.size n X (fun z => left z && !z.sameKey (.int .i64 x)) cnt2) (hlt : cnt2 < cnt) (hg2 : wr.grownBy w2 (some w.heap.size)) :
    Row (w2.alloc (.cells #[.int .i64 x] 3)) 3 1 v ss.length (numsV ss) ∧
      ∀ v2 w3, Row w3 3 1 v2 (ss.length + 1) (numsV ss ++ [.int .i64 x]) → Heap.Touch (own v) (w2.alloc (.cells #[.int .i64 x] 3)) w3 → (∀ k, own v2 k → own v k ∨ w2.heap.size + 1 ≤ k) → LW w M n X v2 w3 (fun z => left z && !z.sameKey (.int .i64 x)) cnt2 (ss ++ [x]) := by
  obtain ⟨hrg, hC, hle, hb, hrow, ho⟩ := h
  have t2 : Heap.Touch (fun k => k = w.heap.size) wr (w2.alloc (.cells #[.int .i64 x] 3)) := ((Heap.Touch.refl _ wr).grown hg2 (fun k e => .inl (by simp at e; exact e.symm))).alloc _
  have hrlt : w.heap.size < wr.heap.size := hrg.lt
  refine ⟨hrow.kept (t2.same fun k hk e => by have := ho k hk; omega), fun v2 w3 r3 t3 o3 => ⟨?_, hC.step hlk hat, by rw [List.length_append]; simp; omega, ?_, ?_, ?_⟩⟩
  · have hM3 : w3.heap[M]? = w2.heap[M]? := by
      have h1 := hrg2.owns.lt
      rw [t3.block M (by simp; omega) (fun e => by have := ho M e; omega), Below.heap_alloc _ _ _ h1]
    have hr3 : w3.heap[w.heap.size]? = w2.heap[w.heap.size]? := by
      have h1 := hrg2.lt
      rw [t3.block w.heap.size (by simp; omega) (fun e => by have := ho _ e; omega), Below.heap_alloc _ _ _ h1]
    obtain ⟨es, clock, since, seen, c0, a1, a2, a3, a4, a5, a6⟩ := hrg2
    exact ⟨es, clock, since, seen, c0, hM3.trans a1, a2, a3, a4, hr3.trans a5, a6⟩
  · have h1 := t2.below hb.size (fun k e => by omega)
    exact (hb.trans h1).trans (t3.below (Nat.le_trans hb.size t2.size) fun k e => Nat.le_of_lt (ho k e))
  · have e1 : (ss ++ [x]).length = ss.length + 1 := by simp
    have e2 : numsV (ss ++ [x]) = numsV ss ++ [.int .i64 x] := by simp [numsV]
    rw [e1, e2]; exact r3
  · intro k hk
    rcases o3 k hk with hk | hk
    · exact ho k hk
    · have := hrg2.lt; omega

section
variable {W w : World} {F : Nat → Prop} {D : Nat} {room : Int} {A : List FileP}

/-- A row of the numbers. -/
def NumsAt (w0 : World) (l : List Int) (v : Value) (w : World) : Prop := Below w0.heap.size w0 w ∧ Row w 3 1 v l.length (numsV l) ∧ ∀ k, own v k → w0.heap.size ≤ k

theorem holds_row {w : World} {g off cap : Nat} {ss : List Int} (h : Row w 3 1 (.slice (some ⟨g, off, none⟩) ss.length cap) ss.length (numsV ss)) : Go.Sort.Holds (Value.int .i64) w g off ss.toArray := fun j hj => by
  have hj' : j < ss.length := by simpa using hj
  obtain ⟨h1, h2⟩ := h.cell j (by omega)
  refine ⟨?_, h2⟩
  rw [h1]
  simp [numsV, hj']

theorem sorted_row {w0 w : World} {g off cap : Nat} {ss : List Int} (h : Row w 3 1 (.slice (some ⟨g, off, none⟩) ss.length cap) ss.length (numsV ss)) (hb : Below w0.heap.size w0 w) (hg : w0.heap.size ≤ g) (n : Nat) (os : Array Obj) {ts : List Int} (hl : ts.length = ss.length) :
    NumsAt w0 ts (.slice (some ⟨g, off, none⟩) ss.length cap) (Go.Sort.grow (Go.Sort.putRow (Value.int .i64) (Go.Sort.ahead w n) g off ts.toArray) os) := by
  rcases h.2 with ⟨h2, _⟩ | ⟨g', off', cap', cur, hv, hgb, h1, h2, h3, h4⟩
  · cases h2
  · simp only [Value.slice.injEq, Option.some.injEq, Addr.mk.injEq] at hv
    obtain ⟨⟨rfl, rfl, _⟩, _, rfl⟩ := hv
    have hglt : g < w.heap.size := heap_lt hgb
    have hheap : (Go.Sort.grow (Go.Sort.putRow (Value.int .i64) (Go.Sort.ahead w n) g off ts.toArray) os).heap[g]? = some (.cells (Go.Sort.putCells (Value.int .i64) off ts.toArray cur) 3 (0, 0)) := by
      rw [Go.Sort.heap_grow_old _ _ (by simpa [Go.Sort.putRow, Go.Sort.mapBlock, Go.Sort.ahead] using hglt)]
      simp [Go.Sort.putRow, Go.Sort.mapBlock, Go.Sort.ahead, Array.getElem?_modify, hgb, Go.Sort.onCells]
    have hblk : ∀ k, k < w.heap.size → k ≠ g → (Go.Sort.grow (Go.Sort.putRow (Value.int .i64) (Go.Sort.ahead w n) g off ts.toArray) os).heap[k]? = w.heap[k]? := by
      intro k hk hne
      rw [Go.Sort.heap_grow_old _ _ (by simpa [Go.Sort.putRow, Go.Sort.mapBlock, Go.Sort.ahead] using hk)]
      simp [Go.Sort.putRow, Go.Sort.mapBlock, Go.Sort.ahead, Array.getElem?_modify, Ne.symm hne]
    refine ⟨hb.trans ⟨rfl, rfl, rfl, ?_, fun k hk => hblk k (Nat.lt_of_lt_of_le hk hb.size) (by omega)⟩, ⟨by simp [numsV], .inr ⟨g, off, cap, _, by rw [hl], hheap, by omega, h2, by simpa [Go.Sort.putCells] using h3, ?_⟩⟩, fun k hk => by simp [own, Value.ownBlock] at hk; omega⟩
    · have := hb.size
      simp only [Go.Sort.grow, Go.Sort.putRow, Go.Sort.mapBlock, Go.Sort.ahead, Array.size_append, Array.size_modify]; omega
    · apply List.ext_getElem?
      intro j
      rw [Nat.mul_one]
      by_cases hj : j < ts.length
      · rw [List.getElem?_take_of_lt hj, List.getElem?_drop, Array.getElem?_toList]
        have hlt : off + j < cur.size := by omega
        simp [Go.Sort.putCells, numsV, hj, hlt]
      · rw [List.getElem?_take_eq_none (by omega), List.getElem?_eq_none (by simp [numsV]; omega)]

set_option maxHeartbeats 2000000 in
set_option maxRecDepth 100000 in
theorem list_any (h : DiskAt W F D room A w) : Calls Tryz.prog 241 #[.pointer (some ⟨D, 0, none⟩)] w fun e w' => ∃ v, e = .returned v ∧ NumsAt w (A.map (·.n)) v w' := by
  obtain ⟨M, β, X, hm⟩ := h.mem
  obtain ⟨c0, c1, c2, cf⟩ := threeC hm.cells
  have HOWN := Lib.hid hm.own; have HM := Lib.hid hm; have HS := Lib.hid h.right.sorted; have HFEW := Lib.hid h.right.few
  have HML := Lib.hid hm.ltM; have HSZ := Lib.hid hm.size
  clear hm h
  obtain ⟨i0, hi, hz0, hz1, hz2⟩ := info_parts info_intD
  go_enter Tryz.func241, Tryz.ntmps241
  go_wp2_with (first | (at_range; refine wpList_range_own _ rfl _ 325 rfl 3 372 keyLaw Tryz.underlying325 ptrElem M _ X rfl HOWN.out ?_; intro w0 hrg0 hg0 hs0))
  go_frame
  go_loopw [3] (fun v wr => ∃ (left : Lit → Bool) (cnt : Nat) (ss : List Int), Hid (LW w M A.length X v wr left cnt ss)) (fun _ wr => wr.rangeLeft M w.heap.size)
  case atStart => exact ⟨_, _, [], Lib.hid ⟨hrg0, CollI.start X, by rw [HSZ.out]; simp, grown_below hg0, Row.nil _ _ _, fun k hk => by simp [own, Value.ownBlock] at hk⟩⟩
  case round =>
    obtain ⟨left, cnt, ss, HR⟩ := hrel
    clear hrg0 hg0 hs0
    go_wp2_with (first | (at_next; refine wpList_next_ranges _ rfl _ rfl 3 keyLaw ptrElem (Value.int .i64) (fun c : Option Nat => Value.pointer (c.map fun b => ⟨b, 0, none⟩)) (fun key kl hkey => by obtain ⟨x, rfl, _⟩ := Maps.keyOf_int_inv Tryz.underlying3 hkey; exact ⟨x, rfl⟩) (fun v y hv => ptrElem_any hv) M w.heap.size _ _ _ _ rfl HR.out.1 ?_ ?_))
    · intro _ hl0
      have hperm := HR.out.2.1.perm HM.out HS.out hl0
      have HSO := Lib.hid (sort_perm HS.out hperm)
      have HLE := Lib.hid (show (A.map (·.n)).length = ss.length from hperm.length_eq.symm)
      have hk20 : ss.length ≤ 20 := by have := HR.out.2.2.1; have := HFEW.out; omega
      have HB := Lib.hid HR.out.2.2.2.1
      have HO := Lib.hid HR.out.2.2.2.2.2
      have HRW := Lib.hid HR.out.2.2.2.2.1
      clear hl0 hperm HR
      rcases HRW.out.2 with ⟨rfl, h0⟩ | ⟨g, off, cap, cur, rfl, hg, h1, h2, h3, h4⟩
      · have HNIL := Lib.hid (show A.map (·.n) = [] from List.eq_nil_of_length_eq_zero (by rw [HLE.out]; exact h0))
        clear h0
        go_wp2_with (first | (go_at_call 297; refine (sort_nil none 0 _).mono ?_; rintro e w' ⟨rfl, rfl⟩))
        go_ret
        exact ⟨_, rfl, HB.out, by rw [HNIL.out]; exact Row.nil _ _ _, fun k hk => by simp [own, Value.ownBlock] at hk⟩
      · have hgl := heap_lt hg
        have HG := Lib.hid (show w.heap.size ≤ g from Nat.le_of_lt (HO.out g (by simp [own, Value.ownBlock])))
        have HC := Lib.hid (Tryz.slices_Sort_int g off cap ss wr (holds_row HRW.out) hgl (by omega))
        clear hg h1 h2 h3 h4 hgl
        go_wp2_with fail
        refine HC.out.mono ?_
        rintro e w' ⟨rfl, n, os, rfl⟩
        have HF := Lib.hid (sorted_row HRW.out HB.out HG.out n os (ts := ss.mergeSort fun x y => decide (x ≤ y)) (List.length_mergeSort ss))
        rw [HSO.out] at HF ⊢
        generalize Go.Sort.grow _ os = w9 at *
        go_wp2
        go_ret
        exact ⟨_, rfl, HF.out⟩
    · intro x c kl yd yp w2 cnt2 hkey hlk hv hat hrg2 hlt hg2 hs2 hen
      obtain ⟨x', ex, rfl, hwx⟩ := Maps.keyOf_int_inv Tryz.underlying3 hkey
      cases ex
      clear hs2 hkey hv
      have HG := Lib.hid (LW.step HR.out HML.out hlk hat hrg2 hlt hg2)
      have hk20 : ss.length ≤ 20 := by have := HR.out.2.2.1; have := HFEW.out; omega
      obtain ⟨a3, c3, hs3⟩ := HR.out.2.2.2.2.1.slice
      have HMEA := Lib.hid (show w2.rangeLeft M w.heap.size < w2.rangeLeft M w.heap.size + 1 from Nat.lt_succ_self _)
      have HOLD := Lib.hid HR.out.1.left_eq
      have HLT := Lib.hid hlt
      subst hs3
      clear hlk hat hrg2 hlt hg2 hwx
      go_wp2_with (at_builtin; refine Heap.wpList_append_row _ rfl (.tmp 14) (.tmp 16) 22 rfl 3 i0 _ 1 8 Tryz.underlying22 hi hz0 hz1 hz2 rfl (by decide) _ ss.length _ rfl HG.out.1 ⟨w2.heap.size, 0, none⟩ 1 1 [.int .i64 x] rfl rfl (news_intD w2 x _) (by simp [Value.oneCell']) (by unfold maxLen; omega) (by omega) ?_)
      intro v2 w3 r3 t3 o3
      have HF := Lib.hid (HG.out.2 v2 w3 r3 t3 o3)
      clear r3 t3 o3
      go_wp2_with fail
      exact ⟨⟨_, _, _, HF⟩, by rw [HF.out.1.left_eq, HOLD.out]; exact HLT.out⟩
end
end Go.Proofs.YthhgfdeegnimjaaGreatDoor.Dsk

namespace Go.Proofs.YthhgfdeegnimjaaGreatDoor.Drw
open Go.RowKit Heap Dsk

section
variable {W w : World} {G : Nat → Prop} {E : Nat} {room : Int} {A : List FileP}

theorem index_pos {A : List FileP} {n : Int} {k : Nat} (h : idxF A n = (k : Int)) : ∃ p, A[k]? = some p ∧ p.n = n ∧ getF A n = some p ∧ (∀ y ∈ A.take k, y.n ≠ n) ∧ k < A.length := by
  rcases idxF_cases A n with ⟨h1, h2⟩ | ⟨k', p, h1, h2, h3, h4, h5⟩
  · omega
  · obtain rfl : k' = k := by omega
    exact ⟨p, h2, h3, h4, h5, (List.getElem?_eq_some_iff.1 h2).1⟩

end
end Go.Proofs.YthhgfdeegnimjaaGreatDoor.Drw

namespace Go.Proofs.YthhgfdeegnimjaaGreatDoor.Sto
open Go.RowKit Heap
open Subj (Tok ML pieces takes StrsAt)
open Rec (Rc recErr far)
open Idx (Ents ptrV)

/-- A block of so many cells. -/
def BlockOf (w : World) (e : TypeId) (g m : Nat) : Prop := ∃ cur, w.heap[g]? = some (.cells cur e (0, 0)) ∧ m ≤ cur.size

theorem BlockOf.set {w : World} {e : TypeId} {g m : Nat} (h : BlockOf w e g m) (j : Nat) (u : Value) : BlockOf (w.setCell ⟨g, j, none⟩ u) e g m := by
  obtain ⟨cur, h1, h2⟩ := h
  exact ⟨cur.setIfInBounds j u, heap_setCell_same _ _ _ _ _ _ h1, by simpa using h2⟩

theorem BlockOf.there {w : World} {e : TypeId} {g m : Nat} (h : BlockOf w e g m) {j : Nat} (hj : j < m) : ∃ u, w.cell? ⟨g, j, none⟩ = some u := by
  obtain ⟨cur, h1, h2⟩ := h
  exact ⟨cur[j], by rw [cell_of_row w g j _ _ _ h1]; exact Array.getElem?_eq_getElem (by omega)⟩

section
variable {w : World}
end
end Go.Proofs.YthhgfdeegnimjaaGreatDoor.Sto

namespace Go.Proofs.YthhgfdeegnimjaaGreatDoor.Rec
end Go.Proofs.YthhgfdeegnimjaaGreatDoor.Rec

namespace Go.Proofs.YthhgfdeegnimjaaGreatDoor.Subj
open Go.RowKit

abbrev tCellsS (name filt : ByteArray) (src start ack wait : Int) (v : Value) (most pend : Int) (push : Bool) : Array Value := #[.string name, .string filt, .int .i64 src, .int .i64 start, .int .i64 ack, .int .i64 wait, v, .int .i64 most, .int .i64 pend, .bool push]

theorem equal_intsS (va vb : Value) (zs : List Int) (w : World) (ha : Ints w va zs) (hb : Ints w vb zs) (hl : zs.length ≤ 9223372036854775807) :
    Calls Tryz.prog 76 #[va, vb] w fun e w' => e = .returned (.bool true) ∧ ∃ q, w' = w.drewN q := by
  obtain ⟨ao, ca, rfl, _, h1⟩ := ha
  obtain ⟨bo, cb, rfl, _, h2⟩ := hb
  by_cases hn : zs = []
  · subst hn
    refine (Tryz.slices_Equal_int_empty ao bo ca 0 cb w (by omega)).mono fun e w' ⟨a, b⟩ => ⟨by rw [a]; rfl, 0, by rw [b]; rfl⟩
  · obtain ⟨g, off, rfl, s1⟩ := h1 hn
    obtain ⟨g', off', rfl, s2⟩ := h2 hn
    exact (Tryz.slices_Equal_int g off zs.length ca g' off' zs.length cb zs zs w (Nat.le_refl _) (Nat.le_refl _) hl hl s1 s2).mono fun e w' ⟨a, b⟩ => ⟨by rw [a]; simp, b⟩

set_option maxHeartbeats 4000000 in
set_option maxRecDepth 100000 in
theorem sameT_true (name filt : ByteArray) (src start ack wait : Int) (va vb : Value) (most pend : Int) (push : Bool) (back : List Int) (w : World) (hl : back.length ≤ 9223372036854775807) (ha : Ints w va back) (hb : Ints w vb back) (hm : ML w) :
    Calls Tryz.prog 24 #[.agg (tCellsS name filt src start ack wait va most pend push), .agg (tCellsS name filt src start ack wait vb most pend push)] w (IsRet w true) := by
  obtain ⟨w1, hw1⟩ : ∃ w1, w1 = (w.alloc (.cells (tCellsS name filt src start ack wait va most pend push) 24)).alloc (.cells (tCellsS name filt src start ack wait vb most pend push) 24) := ⟨_, rfl⟩
  have hI1 : Inv w w1 := by rw [hw1]; exact (Inv.refl hm).step (((Below.refl _ _).alloc (Nat.le_refl _) _).alloc (by simp) _)
  have hA : w1.heap[w.heap.size]? = some (.cells (tCellsS name filt src start ack wait va most pend push) 24 (0, 0)) := by
    rw [hw1, Below.heap_alloc _ _ _ (by simp)]; exact heap_alloc_new _ _
  have hB : w1.heap[w.heap.size + 1]? = some (.cells (tCellsS name filt src start ack wait vb most pend push) 24 (0, 0)) := by
    rw [hw1]
    have := heap_alloc_new (w.alloc (.cells (tCellsS name filt src start ack wait va most pend push) 24)) (.cells (tCellsS name filt src start ack wait vb most pend push) 24)
    rw [show (w.alloc (.cells (tCellsS name filt src start ack wait va most pend push) 24)).heap.size = w.heap.size + 1 from by simp] at this
    exact this
  have HEQ := Lib.hid (equal_intsS va vb back w1 (ha.below hI1.2) (hb.below hI1.2) hl)
  have HI1 := Lib.hid hI1
  obtain ⟨y0, y1, y2, y3, y4, y5, y6, y7, y8, y9, yf⟩ := ten hA
  obtain ⟨z0, z1, z2, z3, z4, z5, z6, z7, z8, z9, zf⟩ := ten hB
  obtain ⟨ao, ca, rfl, -⟩ := ha
  obtain ⟨bo, cb, rfl, -⟩ := hb
  clear hI1 hA hB hm hl
  go_enter Tryz.func24, Tryz.ntmps24
  go_wp2_with fail
  rw [← hw1]
  clear hw1
  refine HEQ.out.mono ?_
  rintro e w' ⟨rfl, q, rfl⟩
  go_wp2
  go_ret
  exact ⟨by simp, HI1.out.step (below_drewN (Below.refl _ _) _)⟩

end Go.Proofs.YthhgfdeegnimjaaGreatDoor.Subj
