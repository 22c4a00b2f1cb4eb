/- Parts of the proof, joined: The disk's List: its files' numbers, rising.; The disk's Crash.; What Open leaves, block by block, in plain Lean. No program here. -/
import Derived.Test.YtbgchhgdlceceaaGreatDoorPlansOwnUptoM32
import Derived.Maps.Ext
import Derived.Sort.OwnSortedInts
namespace Go.Proofs.YtbgchhgdlceceaaGreatDoor.Dsk
open Go.RowKit Go.Maps Heap

/-! ### what was collected -/
def CollI (X : DataW Unit) (left : Lit → Bool) (ss : List Int) : Prop := ss.Nodup ∧ ∀ x : Int, x ∈ ss ↔ (Maps.has X (.int .i64 x) = true ∧ left (.int .i64 x) = false)

theorem CollI.start (X : DataW Unit) : CollI X (Maps.has X) [] := ⟨List.nodup_nil, fun x => by cases Maps.has X (.int .i64 x) <;> simp⟩

theorem CollI.step {X : DataW Unit} {left : Lit → Bool} {ss : List Int} (h : CollI X left ss) {x : Int} {y : DataW Unit} (hlk : left (.int .i64 x) = true) (hat : ∀ zd, X.atKey (.int .i64 x) zd = y) : CollI X (fun z => left z && !z.sameKey (.int .i64 x)) (ss ++ [x]) := by
  have hhas : Maps.has X (.int .i64 x) = true := has_true_of_atKey hat
  have hnew : x ∉ ss := fun hx => by have := ((h.2 x).1 hx).2; rw [hlk] at this; cases this
  refine ⟨List.nodup_append.2 ⟨h.1, by simp, fun a ha b hb => by simp at hb; subst hb; exact fun e => hnew (e ▸ ha)⟩, fun y => ?_⟩
  by_cases hy : y = x
  · subst hy; simp [hhas, Lit.sameKey]
  · simp [h.2 y, hy, Lit.sameKey]

theorem CollI.perm {F : Nat → Prop} {D M : Nat} {β : Int → Nat} {X : DataW Unit} {room : Int} {A : List FileP} {w : World} {left : Lit → Bool} {ss : List Int} (h : CollI X left ss) (hm : DM F D M β X room A w) (hs : Sorted A) (hl : ∀ kl, left kl = false) : ss.Perm (A.map (·.n)) := by
  refine (List.perm_ext_iff_of_nodup h.1 ?_).2 fun x => ?_
  · exact (sorted_iff.1 hs).imp fun {a b} hab e => by subst e; omega
  · rw [h.2 x, hl, hm.has]
    constructor
    · rintro ⟨h1, _⟩
      obtain ⟨p, hp⟩ := Option.isSome_iff_exists.1 h1
      obtain ⟨e, hm⟩ := getF_n hp
      exact List.mem_map.2 ⟨p, hm, e⟩
    · intro h1
      obtain ⟨p, hp, rfl⟩ := List.mem_map.1 h1
      exact ⟨by rw [getF_mem hs hp]; rfl, rfl⟩

theorem sort_perm {A : List FileP} {ss : List Int} (hs : Sorted A) (h : ss.Perm (A.map (·.n))) : (ss.mergeSort fun x y => decide (x ≤ y)) = A.map (·.n) := by
  refine List.Perm.eq_of_pairwise (le := fun a b : Int => a ≤ b) (fun a b _ _ h1 h2 => by omega) ?_ ?_ ((List.mergeSort_perm ss _).trans h)
  · exact (List.pairwise_mergeSort (le := fun x y : Int => decide (x ≤ y)) (fun a b c h1 h2 => by simp only [decide_eq_true_eq] at *; omega) (fun a b => by simp only [Bool.or_eq_true, decide_eq_true_eq]; omega) ss).imp fun {a b} hab => by simpa using hab
  · exact (sorted_iff.1 hs).imp fun {a b} hab => by omega

/-! ### a sort of no element -/
theorem ins_nil (p : Option Addr) (cap : Nat) (w : World) : Calls Tryz.prog 237 #[.slice p 0 cap, .int .i64 0, .int .i64 0] w fun e w' => e = .returned (.tuple #[]) ∧ w' = w := by
  go_enter Tryz.func237, Tryz.ntmps237
  go_wp2
  refine wp_loop_rounds 1 ?_
  rw [rounds_succ]
  go_wp2
  go_end0
  exact ⟨rfl, rfl⟩

set_option maxRecDepth 100000 in
theorem pdq_nil (p : Option Addr) (cap : Nat) (w : World) : Calls Tryz.prog 213 #[.slice p 0 cap, .int .i64 0, .int .i64 0, .int .i64 0] w fun e w' => e = .returned (.tuple #[]) ∧ w' = w := by
  go_enter Tryz.func213, Tryz.ntmps213
  go_wp2
  refine wp_loop_rounds 1 ?_
  rw [rounds_succ]
  go_wp2_with (first | (go_at_call 237; refine (ins_nil p cap _).mono ?_; rintro e w' ⟨rfl, rfl⟩))
  refine bodyPost_ret (results_none rfl _ _ _) rfl ?_
  exact ⟨rfl, rfl⟩

set_option maxRecDepth 100000 in
theorem len_zero (w : World) : Calls Tryz.prog 214 #[.int .u64 0] w fun e w' => e = .returned (.int .i64 0) ∧ w' = w := by
  have h64 := Tryz.bits_Len64 0 w (by omega) (by omega)
  rw [show Lib.bitLen (0 : Int).toNat = 0 from by decide] at h64
  go_enter Tryz.func214, Tryz.ntmps214
  go_wp2_with (go_at_call 247; refine h64.mono ?_; rintro e w' ⟨rfl, rfl⟩)
  go_ret
  exact ⟨rfl, rfl⟩

set_option maxRecDepth 100000 in
theorem sort_nil (p : Option Addr) (cap : Nat) (w : World) : Calls Tryz.prog 171 #[.slice p 0 cap] w fun e w' => e = .returned (.tuple #[]) ∧ w' = w := by
  go_enter Tryz.func171, Tryz.ntmps171
  go_wp2_with (first
    | (go_at_call 214; refine (len_zero _).mono ?_; rintro e w' ⟨rfl, rfl⟩)
    | (go_at_call 213; refine (pdq_nil p cap _).mono ?_; rintro e w' ⟨rfl, rfl⟩))
  go_end0
  exact ⟨rfl, rfl⟩

/-! ### List -/
theorem info_intD : (Tryz.prog.info? 3).map (fun i => (i.zero, i.size, i.bytes)) = some (some (.int .i64 0), 1, 8) := by kernel_rfl

theorem news_intD (w : World) (z : Int) (t : TypeId) : ∀ j u, ([Value.int .i64 z] : List Value)[j]? = some u → (w.alloc (.cells #[.int .i64 z] t)).cell? ((⟨w.heap.size, 0, none⟩ : Addr).add j) = some u := by
  intro j u hu
  rcases j with _ | j
  · simp only [List.getElem?_cons_zero, Option.some.injEq] at hu
    subst hu
    rw [Addr.add_lit, World.cell?_alloc_at _ _ _ _ rfl]; rfl
  · simp at hu

theorem grown_below {w w' : World} (h : w.grownBy w' none) : Below w.heap.size w w' := ⟨h.os, h.tape, h.output, h.size, fun k hk => h.block k hk (by simp)⟩

def numsV (zs : List Int) : List Value := zs.map (Value.int .i64)

/-- What the range has brought so far. -/
def LW (w : World) (M n : Nat) (X : DataW Unit) (v : Value) (wr : World) (left : Lit → Bool) (cnt : Nat) (ss : List Int) : Prop :=
  wr.ranges Tryz.prog 3 ptrElem M w.heap.size n X left cnt ∧ CollI X left ss ∧ ss.length + cnt ≤ n ∧ Below w.heap.size w wr ∧ Row wr 3 1 v ss.length (numsV ss) ∧ ∀ k, own v k → w.heap.size < k

theorem LW.step {w wr w2 : World} {M n : Nat} {X : DataW Unit} {v : Value} {left : Lit → Bool} {cnt cnt2 : Nat} {ss : List Int} (h : LW w M n X v wr left cnt ss) (hM : M < w.heap.size) {x : Int} {yd : DataW Unit} (hlk : left (.int .i64 x) = true) (hat : ∀ zd, X.atKey (.int .i64 x) zd = yd)
    (hrg2 : w2.ranges Tryz.prog 3 ptrElem M w.heap.size n X (fun z => left z && !z.sameKey (.int .i64 x)) cnt2) (hlt : cnt2 < cnt) (hg2 : wr.grownBy w2 (some w.heap.size)) :
    Row (w2.alloc (.cells #[.int .i64 x] 3)) 3 1 v ss.length (numsV ss) ∧
      ∀ v2 w3, Row w3 3 1 v2 (ss.length + 1) (numsV ss ++ [.int .i64 x]) → Heap.Touch (own v) (w2.alloc (.cells #[.int .i64 x] 3)) w3 → (∀ k, own v2 k → own v k ∨ w2.heap.size + 1 ≤ k) → LW w M n X v2 w3 (fun z => left z && !z.sameKey (.int .i64 x)) cnt2 (ss ++ [x]) := by
  obtain ⟨hrg, hC, hle, hb, hrow, ho⟩ := h
  have t2 : Heap.Touch (fun k => k = w.heap.size) wr (w2.alloc (.cells #[.int .i64 x] 3)) := ((Heap.Touch.refl _ wr).grown hg2 (fun k e => .inl (by simp at e; exact e.symm))).alloc _
  have hrlt : w.heap.size < wr.heap.size := hrg.lt
  refine ⟨hrow.kept (t2.same fun k hk e => by have := ho k hk; omega), fun v2 w3 r3 t3 o3 => ⟨?_, hC.step hlk hat, by rw [List.length_append]; simp; omega, ?_, ?_, ?_⟩⟩
  · have hM3 : w3.heap[M]? = w2.heap[M]? := by
      have h1 := hrg2.owns.lt
      rw [t3.block M (by simp; omega) (fun e => by have := ho M e; omega), Below.heap_alloc _ _ _ h1]
    have hr3 : w3.heap[w.heap.size]? = w2.heap[w.heap.size]? := by
      have h1 := hrg2.lt
      rw [t3.block w.heap.size (by simp; omega) (fun e => by have := ho _ e; omega), Below.heap_alloc _ _ _ h1]
    obtain ⟨es, clock, since, seen, c0, a1, a2, a3, a4, a5, a6⟩ := hrg2
    exact ⟨es, clock, since, seen, c0, hM3.trans a1, a2, a3, a4, hr3.trans a5, a6⟩
  · have h1 := t2.below hb.size (fun k e => by omega)
    exact (hb.trans h1).trans (t3.below (Nat.le_trans hb.size t2.size) fun k e => Nat.le_of_lt (ho k e))
  · have e1 : (ss ++ [x]).length = ss.length + 1 := by simp
    have e2 : numsV (ss ++ [x]) = numsV ss ++ [.int .i64 x] := by simp [numsV]
    rw [e1, e2]; exact r3
  · intro k hk
    rcases o3 k hk with hk | hk
    · exact ho k hk
    · have := hrg2.lt; omega

section
variable {W w : World} {F : Nat → Prop} {D : Nat} {room : Int} {A : List FileP}

/-- A row of the numbers. -/
def NumsAt (w0 : World) (l : List Int) (v : Value) (w : World) : Prop := Below w0.heap.size w0 w ∧ Row w 3 1 v l.length (numsV l) ∧ ∀ k, own v k → w0.heap.size ≤ k

theorem holds_row {w : World} {g off cap : Nat} {ss : List Int} (h : Row w 3 1 (.slice (some ⟨g, off, none⟩) ss.length cap) ss.length (numsV ss)) : Go.Sort.Holds (Value.int .i64) w g off ss.toArray := fun j hj => by
  have hj' : j < ss.length := by simpa using hj
  obtain ⟨h1, h2⟩ := h.cell j (by omega)
  refine ⟨?_, h2⟩
  rw [h1]
  simp [numsV, hj']

theorem sorted_row {w0 w : World} {g off cap : Nat} {ss : List Int} (h : Row w 3 1 (.slice (some ⟨g, off, none⟩) ss.length cap) ss.length (numsV ss)) (hb : Below w0.heap.size w0 w) (hg : w0.heap.size ≤ g) (n : Nat) (os : Array Obj) {ts : List Int} (hl : ts.length = ss.length) :
    NumsAt w0 ts (.slice (some ⟨g, off, none⟩) ss.length cap) (Go.Sort.grow (Go.Sort.putRow (Value.int .i64) (Go.Sort.ahead w n) g off ts.toArray) os) := by
  rcases h.2 with ⟨h2, _⟩ | ⟨g', off', cap', cur, hv, hgb, h1, h2, h3, h4⟩
  · cases h2
  · simp only [Value.slice.injEq, Option.some.injEq, Addr.mk.injEq] at hv
    obtain ⟨⟨rfl, rfl, _⟩, _, rfl⟩ := hv
    have hglt : g < w.heap.size := heap_lt hgb
    have hheap : (Go.Sort.grow (Go.Sort.putRow (Value.int .i64) (Go.Sort.ahead w n) g off ts.toArray) os).heap[g]? = some (.cells (Go.Sort.putCells (Value.int .i64) off ts.toArray cur) 3 (0, 0)) := by
      rw [Go.Sort.heap_grow_old _ _ (by simpa [Go.Sort.putRow, Go.Sort.mapBlock, Go.Sort.ahead] using hglt)]
      simp [Go.Sort.putRow, Go.Sort.mapBlock, Go.Sort.ahead, Array.getElem?_modify, hgb, Go.Sort.onCells]
    have hblk : ∀ k, k < w.heap.size → k ≠ g → (Go.Sort.grow (Go.Sort.putRow (Value.int .i64) (Go.Sort.ahead w n) g off ts.toArray) os).heap[k]? = w.heap[k]? := by
      intro k hk hne
      rw [Go.Sort.heap_grow_old _ _ (by simpa [Go.Sort.putRow, Go.Sort.mapBlock, Go.Sort.ahead] using hk)]
      simp [Go.Sort.putRow, Go.Sort.mapBlock, Go.Sort.ahead, Array.getElem?_modify, Ne.symm hne]
    refine ⟨hb.trans ⟨rfl, rfl, rfl, ?_, fun k hk => hblk k (Nat.lt_of_lt_of_le hk hb.size) (by omega)⟩, ⟨by simp [numsV], .inr ⟨g, off, cap, _, by rw [hl], hheap, by omega, h2, by simpa [Go.Sort.putCells] using h3, ?_⟩⟩, fun k hk => by simp [own, Value.ownBlock] at hk; omega⟩
    · have := hb.size
      simp only [Go.Sort.grow, Go.Sort.putRow, Go.Sort.mapBlock, Go.Sort.ahead, Array.size_append, Array.size_modify]; omega
    · apply List.ext_getElem?
      intro j
      rw [Nat.mul_one]
      by_cases hj : j < ts.length
      · rw [List.getElem?_take_of_lt hj, List.getElem?_drop, Array.getElem?_toList]
        have hlt : off + j < cur.size := by omega
        simp [Go.Sort.putCells, numsV, hj, hlt]
      · rw [List.getElem?_take_eq_none (by omega), List.getElem?_eq_none (by simp [numsV]; omega)]

set_option maxHeartbeats 2000000 in
set_option maxRecDepth 100000 in
theorem list_any (h : DiskAt W F D room A w) : Calls Tryz.prog 107 #[.pointer (some ⟨D, 0, none⟩)] w fun e w' => ∃ v, e = .returned v ∧ NumsAt w (A.map (·.n)) v w' := by
  obtain ⟨M, β, X, hm⟩ := h.mem
  obtain ⟨c0, c1, c2, cf⟩ := threeC hm.cells
  have HOWN := Lib.hid hm.own; have HM := Lib.hid hm; have HS := Lib.hid h.right.sorted; have HFEW := Lib.hid h.right.few
  have HML := Lib.hid hm.ltM; have HSZ := Lib.hid hm.size
  clear hm h
  obtain ⟨i0, hi, hz0, hz1, hz2⟩ := info_parts info_intD
  go_enter Tryz.func107, Tryz.ntmps107
  go_wp2_with (first | (at_range; refine wpList_range_own _ rfl _ 187 rfl 3 204 keyLaw Tryz.underlying187 ptrElem M _ X rfl HOWN.out ?_; intro w0 hrg0 hg0 hs0))
  go_frame
  go_loopw [3] (fun v wr => ∃ (left : Lit → Bool) (cnt : Nat) (ss : List Int), Hid (LW w M A.length X v wr left cnt ss)) (fun _ wr => wr.rangeLeft M w.heap.size)
  case atStart => exact ⟨_, _, [], Lib.hid ⟨hrg0, CollI.start X, by rw [HSZ.out]; simp, grown_below hg0, Row.nil _ _ _, fun k hk => by simp [own, Value.ownBlock] at hk⟩⟩
  case round =>
    obtain ⟨left, cnt, ss, HR⟩ := hrel
    clear hrg0 hg0 hs0
    go_wp2_with (first | (at_next; refine wpList_next_ranges _ rfl _ rfl 3 keyLaw ptrElem (Value.int .i64) (fun c : Option Nat => Value.pointer (c.map fun b => ⟨b, 0, none⟩)) (fun key kl hkey => by obtain ⟨x, rfl, _⟩ := Maps.keyOf_int_inv Tryz.underlying3 hkey; exact ⟨x, rfl⟩) (fun v y hv => ptrElem_any hv) M w.heap.size _ _ _ _ rfl HR.out.1 ?_ ?_))
    · intro _ hl0
      have hperm := HR.out.2.1.perm HM.out HS.out hl0
      have HSO := Lib.hid (sort_perm HS.out hperm)
      have HLE := Lib.hid (show (A.map (·.n)).length = ss.length from hperm.length_eq.symm)
      have hk20 : ss.length ≤ 20 := by have := HR.out.2.2.1; have := HFEW.out; omega
      have HB := Lib.hid HR.out.2.2.2.1
      have HO := Lib.hid HR.out.2.2.2.2.2
      have HRW := Lib.hid HR.out.2.2.2.2.1
      clear hl0 hperm HR
      rcases HRW.out.2 with ⟨rfl, h0⟩ | ⟨g, off, cap, cur, rfl, hg, h1, h2, h3, h4⟩
      · have HNIL := Lib.hid (show A.map (·.n) = [] from List.eq_nil_of_length_eq_zero (by rw [HLE.out]; exact h0))
        clear h0
        go_wp2_with (first | (go_at_call 171; refine (sort_nil none 0 _).mono ?_; rintro e w' ⟨rfl, rfl⟩))
        go_ret
        exact ⟨_, rfl, HB.out, by rw [HNIL.out]; exact Row.nil _ _ _, fun k hk => by simp [own, Value.ownBlock] at hk⟩
      · have hgl := heap_lt hg
        have HG := Lib.hid (show w.heap.size ≤ g from Nat.le_of_lt (HO.out g (by simp [own, Value.ownBlock])))
        have HC := Lib.hid (Tryz.slices_Sort_int g off cap ss wr (holds_row HRW.out) hgl (by omega))
        clear hg h1 h2 h3 h4 hgl
        go_wp2_with fail
        refine HC.out.mono ?_
        rintro e w' ⟨rfl, n, os, rfl⟩
        have HF := Lib.hid (sorted_row HRW.out HB.out HG.out n os (ts := ss.mergeSort fun x y => decide (x ≤ y)) (List.length_mergeSort ss))
        rw [HSO.out] at HF ⊢
        generalize Go.Sort.grow _ os = w9 at *
        go_wp2
        go_ret
        exact ⟨_, rfl, HF.out⟩
    · intro x c kl yd yp w2 cnt2 hkey hlk hv hat hrg2 hlt hg2 hs2 hen
      obtain ⟨x', ex, rfl, hwx⟩ := Maps.keyOf_int_inv Tryz.underlying3 hkey
      cases ex
      clear hs2 hkey hv
      have HG := Lib.hid (LW.step HR.out HML.out hlk hat hrg2 hlt hg2)
      have hk20 : ss.length ≤ 20 := by have := HR.out.2.2.1; have := HFEW.out; omega
      obtain ⟨a3, c3, hs3⟩ := HR.out.2.2.2.2.1.slice
      have HMEA := Lib.hid (show w2.rangeLeft M w.heap.size < w2.rangeLeft M w.heap.size + 1 from Nat.lt_succ_self _)
      have HOLD := Lib.hid HR.out.1.left_eq
      have HLT := Lib.hid hlt
      subst hs3
      clear hlk hat hrg2 hlt hg2 hwx
      go_wp2_with (at_builtin; refine Heap.wpList_append_row _ rfl (.tmp 14) (.tmp 16) 22 rfl 3 i0 _ 1 8 Tryz.underlying22 hi hz0 hz1 hz2 rfl (by decide) _ ss.length _ rfl HG.out.1 ⟨w2.heap.size, 0, none⟩ 1 1 [.int .i64 x] rfl rfl (news_intD w2 x _) (by simp [Value.oneCell']) (by unfold maxLen; omega) (by omega) ?_)
      intro v2 w3 r3 t3 o3
      have HF := Lib.hid (HG.out.2 v2 w3 r3 t3 o3)
      clear r3 t3 o3
      go_wp2_with fail
      exact ⟨⟨_, _, _, HF⟩, by rw [HF.out.1.left_eq, HOLD.out]; exact HLT.out⟩
end
end Go.Proofs.YtbgchhgdlceceaaGreatDoor.Dsk

namespace Go.Proofs.YtbgchhgdlceceaaGreatDoor.Dsk
open Go.RowKit Go.Maps Heap

/-! ### in plain Lean -/
theorem getF_mid : ∀ (pre : List FileP) (p : FileP) (post : List FileP), (∀ x ∈ pre, x.n ≠ p.n) → getF (pre ++ p :: post) p.n = some p
  | [], p, post, _ => by simp [getF]
  | a :: r, p, post, h => by
    rw [List.cons_append]
    unfold getF
    rw [if_neg (h a (by simp))]
    exact getF_mid r p post fun x hx => h x (List.mem_cons_of_mem _ hx)

theorem setF_mid : ∀ (pre : List FileP) (p q : FileP) (post : List FileP), (∀ x ∈ pre, x.n ≠ q.n) → p.n = q.n → setF (pre ++ p :: post) q = pre ++ q :: post
  | [], p, q, post, _, e => by simp [setF, e]
  | a :: r, p, q, post, h, e => by
    rw [List.cons_append]
    unfold setF
    rw [if_neg (h a (by simp)), setF_mid r p q post (fun x hx => h x (List.mem_cons_of_mem _ hx)) e]
    rfl

section
variable {W w : World} {F : Nat → Prop} {D : Nat} {room : Int} {A : List FileP}

/-- Its blocks are those that there are. -/
theorem DiskAt.shrink (h : DiskAt W F D room A w) : DiskAt W (fun k => F k ∧ k < w.heap.size) D room A w := by
  obtain ⟨M, β, X, hm⟩ := h.mem
  exact ⟨h.right, h.below, fun k hk => h.newF k hk.1, M, β, X, { hm with fD := ⟨hm.fD, hm.ltD⟩, fM := ⟨hm.fM, hm.ltM⟩, fF := fun p hp => ⟨hm.fF p hp, hm.ltF hp⟩ }⟩

end
end Go.Proofs.YtbgchhgdlceceaaGreatDoor.Dsk

namespace Go.Proofs.YtbgchhgdlceceaaGreatDoor.Log
open Dsk Rec

def recsF (p : FileP) : List Rc := (scan p.text).1
def badF (p : FileP) : Bool := decide ((scan p.text).2 < p.text.length)
def cutF (p : FileP) : FileP := ⟨p.n, p.text.take (scan p.text).2, (scan p.text).2⟩
/-- The first block that isn't whole. -/
def jB (A : List FileP) : Nat := A.findIdx badF

/-- The blocks, i of them read. -/
def stB (A : List FileP) (i : Nat) : List FileP := if jB A < i then A.take (jB A) ++ ((A[jB A]?).map cutF).toList ++ A.drop i else A
/-- The records of i blocks. -/
def outB (A : List FileP) (i : Nat) : List Rc := (A.take (min i (jB A + 1))).flatMap recsF

theorem scan_le (s : List UInt8) : (scan s).2 ≤ s.length := by
  have h : ∀ (f : Nat) (s : List UInt8), (scanF f s).2 ≤ s.length := by
    intro f
    induction f with
    | zero => intro s; exact Nat.zero_le _
    | succ f ih =>
      intro s
      unfold scanF
      split
      · exact Nat.zero_le _
      · split
        · exact Nat.zero_le _
        · rename_i h1 h2
          have hz := decL_size (s := s) (by simpa using h2)
          have := ih (s.drop (decL s).2.1)
          rw [List.length_drop] at this
          show (decL s).2.1 + _ ≤ _
          omega
  exact h _ s

theorem jB_cons (p : FileP) (r : List FileP) : jB (p :: r) = if badF p then 0 else jB r + 1 := by
  unfold jB
  rw [List.findIdx_cons]
  cases badF p <;> rfl

theorem openD_eq : ∀ A : List FileP, openD A = (outB A A.length, stB A (if jB A < A.length then A.length else 0))
  | [] => by simp [openD, outB, stB, jB]
  | p :: r => by
    have ih := openD_eq r
    unfold openD
    rw [ih]
    by_cases hb : badF p = true
    · have hlt : (scan p.text).2 < p.text.length := of_decide_eq_true hb
      have hj : jB (p :: r) = 0 := by rw [jB_cons, if_pos hb]
      rw [if_pos hlt]
      unfold outB stB
      rw [hj, if_pos (show 0 < (p :: r).length by simp), if_pos (show 0 < (p :: r).length by simp)]
      refine Prod.ext ?_ ?_
      · show _ = ((p :: r).take (min (r.length + 1) (0 + 1))).flatMap recsF
        rw [show min (r.length + 1) (0 + 1) = 1 by omega]
        simp [recsF]
      · simp [cutF]
    · have hlt : ¬ (scan p.text).2 < p.text.length := fun h => hb (decide_eq_true h)
      have hj : jB (p :: r) = jB r + 1 := by rw [jB_cons, if_neg hb]
      rw [if_neg hlt]
      unfold outB stB
      rw [hj]
      refine Prod.ext ?_ ?_
      · show recsF p ++ _ = ((p :: r).take (min (r.length + 1) (jB r + 1 + 1))).flatMap recsF
        rw [show min (r.length + 1) (jB r + 1 + 1) = min r.length (jB r + 1) + 1 by omega]
        simp [recsF]
      · simp only [List.length_cons]
        by_cases h1 : jB r < r.length
        · rw [if_pos h1, if_pos h1, if_pos (show jB r + 1 < r.length + 1 by omega), if_pos (show jB r + 1 < r.length + 1 by omega)]
          simp
        · rw [if_neg h1, if_neg (by omega), if_neg (show ¬ jB r + 1 < r.length + 1 by omega), if_neg (by omega)]

theorem stB_end {A : List FileP} : stB A (if jB A < A.length then A.length else 0) = stB A A.length := by
  split
  · rfl
  · rename_i h
    unfold stB
    rw [if_neg (by omega), if_neg h]

theorem openD_all (A : List FileP) : openD A = (outB A A.length, stB A A.length) := by rw [openD_eq, stB_end]

theorem jB_good {A : List FileP} {i : Nat} {p : FileP} (hp : A[i]? = some p) (h : i < jB A) : badF p = false := by
  obtain ⟨hi, rfl⟩ := List.getElem?_eq_some_iff.1 hp
  have := List.not_of_lt_findIdx h
  simpa using this

theorem jB_bad {A : List FileP} {p : FileP} (hp : A[jB A]? = some p) : badF p = true := by
  obtain ⟨hi, rfl⟩ := List.getElem?_eq_some_iff.1 hp
  exact List.findIdx_getElem (w := hi)

theorem outB_step {A : List FileP} {i : Nat} {p : FileP} (hp : A[i]? = some p) (h : i ≤ jB A) : outB A (i + 1) = outB A i ++ recsF p := by
  unfold outB
  rw [show min (i + 1) (jB A + 1) = i + 1 by omega, show min i (jB A + 1) = i by omega, List.take_add_one, hp]
  simp

theorem outB_stay {A : List FileP} {i : Nat} (h : jB A < i) : outB A (i + 1) = outB A i := by
  unfold outB
  rw [show min (i + 1) (jB A + 1) = jB A + 1 by omega, show min i (jB A + 1) = jB A + 1 by omega]

section
variable {A : List FileP} {i : Nat} {p : FileP}

theorem pre_ne (hs : Sorted A) (hp : A[i]? = some p) : ∀ x ∈ A.take i, x.n < p.n := fun x hx => by
  obtain ⟨hi, rfl⟩ := List.getElem?_eq_some_iff.1 hp
  obtain ⟨j, hj, rfl⟩ := List.getElem_of_mem hx
  rw [List.length_take] at hj
  rw [List.getElem_take]
  exact (List.pairwise_iff_getElem.1 hs) j i (by omega) hi (by omega)

theorem split_at (hp : A[i]? = some p) : A = A.take i ++ p :: A.drop (i + 1) := by
  obtain ⟨hi, rfl⟩ := List.getElem?_eq_some_iff.1 hp
  rw [← List.drop_eq_getElem_cons hi, List.take_append_drop]

/-- The block that isn't whole is cut. -/
theorem stB_cut (hs : Sorted A) (hp : A[jB A]? = some p) : getF A p.n = some p ∧ setF A (cutF p) = stB A (jB A + 1) := by
  have hA := split_at hp
  have hne : ∀ x ∈ A.take (jB A), x.n ≠ p.n := fun x hx => by have := pre_ne hs hp x hx; omega
  refine ⟨by conv => lhs; rw [hA]
             exact getF_mid _ _ _ hne, ?_⟩
  conv => lhs; rw [hA]
  rw [setF_mid _ p (cutF p) _ hne rfl]
  unfold stB
  rw [if_pos (by omega), hp]
  simp

theorem delF_mid : ∀ (pre : List FileP) (p : FileP) (post : List FileP), (∀ x ∈ pre, x.n ≠ p.n) → delF (pre ++ p :: post) p.n = pre ++ post
  | [], p, post, _ => by simp [delF]
  | a :: r, p, post, h => by
    rw [List.cons_append]
    unfold delF
    rw [if_neg (h a (by simp)), delF_mid r p post fun x hx => h x (by simp [hx])]
    rfl

/-- A block behind it is taken away. -/
theorem stB_del (hs : Sorted A) (hp : A[i]? = some p) (hj : jB A < i) : getF (stB A i) p.n = some p ∧ delF (stB A i) p.n = stB A (i + 1) := by
  obtain ⟨hi, e⟩ := List.getElem?_eq_some_iff.1 hp
  have hd : A.drop i = p :: A.drop (i + 1) := by rw [List.drop_eq_getElem_cons hi, e]
  have hlt := pre_ne hs hp
  have hne : ∀ x ∈ A.take (jB A) ++ ((A[jB A]?).map cutF).toList, x.n ≠ p.n := fun x hx => by
    rcases List.mem_append.1 hx with hx | hx
    · have h9 : A.take (jB A) = (A.take i).take (jB A) := by rw [List.take_take, Nat.min_eq_left (by omega)]
      rw [h9] at hx
      have := hlt x (List.mem_of_mem_take hx); omega
    · obtain ⟨q, hq⟩ : ∃ q, A[jB A]? = some q := ⟨_, List.getElem?_eq_getElem (by omega)⟩
      rw [hq] at hx
      simp at hx
      subst hx
      have hm : q ∈ A.take i := by
        obtain ⟨hjl, e2⟩ := List.getElem?_eq_some_iff.1 hq
        rw [List.mem_take_iff_getElem]
        exact ⟨jB A, by omega, e2⟩
      have := hlt q hm
      show q.n ≠ p.n
      omega
  have e1 : stB A i = (A.take (jB A) ++ ((A[jB A]?).map cutF).toList) ++ p :: A.drop (i + 1) := by unfold stB; rw [if_pos hj, hd]
  have e2 : stB A (i + 1) = (A.take (jB A) ++ ((A[jB A]?).map cutF).toList) ++ A.drop (i + 1) := by unfold stB; rw [if_pos (by omega)]
  rw [e1, e2]
  exact ⟨getF_mid _ _ _ hne, delF_mid _ _ _ hne⟩
end

theorem scan_len (s : List UInt8) : (scan s).1.length * 4 ≤ (scan s).2 := by
  have h : ∀ (f : Nat) (s : List UInt8), (scanF f s).1.length * 4 ≤ (scanF f s).2 := by
    intro f
    induction f with
    | zero => intro s; exact Nat.zero_le _
    | succ f ih =>
      intro s
      unfold scanF
      split
      · exact Nat.zero_le _
      · split
        · exact Nat.zero_le _
        · rename_i h1 h2
          have hz := decL_size (s := s) (by simpa using h2)
          have := ih (s.drop (decL s).2.1)
          show ((scanF f (s.drop (decL s).2.1)).1.length + 1) * 4 ≤ (decL s).2.1 + _
          omega
  exact h _ s

theorem recs_total : ∀ l : List FileP, (l.flatMap recsF).length ≤ total l
  | [] => Nat.zero_le _
  | p :: r => by
    have h1 := scan_len p.text
    have h2 := scan_le p.text
    have ih := recs_total r
    simp only [total]
    rw [List.flatMap_cons, List.length_append]
    unfold recsF at ih ⊢
    omega

theorem take_total : ∀ (l : List FileP) (k : Nat), total (l.take k) ≤ total l
  | [], k => by simp [total]
  | p :: r, 0 => by simp [total]
  | p :: r, k + 1 => by
    have := take_total r k
    simp only [List.take_succ_cons, total]
    omega

theorem outB_len {room : Int} {A : List FileP} (h : RightD room A) (i : Nat) : (outB A i).length ≤ 65536 := by
  have h1 := recs_total (A.take (min i (jB A + 1)))
  have h2 := take_total A (min i (jB A + 1))
  have h3 := h.fits
  have h4 := h.small
  unfold outB
  omega
end Go.Proofs.YtbgchhgdlceceaaGreatDoor.Log
