/- Parts of the proof, joined: The law PlansOwn, walked: it returns true. -/
import Derived.Test.YtbgchhgdlceceaaGreatDoorPlansOwnUptoM45
namespace Go.Proofs.YtbgchhgdlceceaaGreatDoor.Own
open Go.RowKit Heap
open Subj (Tok ML Strs Ints ten TakerP planErr planCells Small IsRet same_true sameT_true tCellsS strsV strsV_len errT)
open Con (takerV CAt NewPost new_c)
open Sto (new_store)

section
variable {w : World}

def smallP : List Value := [.int .i64 2, .int .i64 0, .int .i64 0, .int .i64 0, .int .i64 0, .int .i64 0, .int .i64 0, .int .i64 0]
def smallF : List Tok := [[97, 46, 62]]
def smallN : ByteArray := ⟨#[115]⟩
theorem small_ok : planErr smallN.data.toList smallF [2, 0, 0, 0, 0, 0, 0, 0] = 0 := by decide +kernel

def SmallPost (w : World) (e : Ending) (w' : World) : Prop := ∃ K v', e = .returned (.pointer (some ⟨K, 0, none⟩)) ∧ StrmAt K smallN v' smallF smallP w' ∧ ML w' ∧ Below w.heap.size w w'

set_option maxHeartbeats 4000000 in
set_option maxRecDepth 100000 in
theorem small_any (hm : ML w) : Calls Tryz.prog 30 #[] w (SmallPost w) := by
  obtain ⟨w1, hw1⟩ : ∃ w1, w1 = w.alloc (.cells #[.string ⟨#[97, 46, 62]⟩] 9) := ⟨_, rfl⟩
  have hb1 : Below w.heap.size w w1 := by rw [hw1]; exact (Below.refl _ _).alloc (Nat.le_refl _) _
  have he1 : w1.heap[w.heap.size]? = some (.cells #[.string ⟨#[97, 46, 62]⟩] 9 (0, 0)) := by rw [hw1]; exact heap_alloc_new w _
  have hS : Strs w1 (.slice (some ⟨w.heap.size, 0, none⟩) 1 1) smallF := ⟨_, 1, rfl, Nat.le_refl _, fun _ => ⟨w.heap.size, 0, rfl, fun i hi => by
    have : i = 0 := by simp [smallF] at hi; exact hi
    subst this
    rw [cell_of_row w1 _ _ _ _ _ he1]; rfl⟩⟩
  have hsm : Small smallF := fun i => by
    cases i with
    | zero => show (3 : Nat) ≤ _; omega
    | succ i => simp [smallF, List.getD]
  have hn := new_strm (hm.below hb1) smallN _ smallF 2 0 0 0 0 0 0 0 (by show (1 : Nat) ≤ _; omega) hS hsm (by show (1 : Nat) ≤ _; omega)
  rw [small_ok] at hn
  unfold planCells smallN at hn
  have HN := Lib.hid hn; have HB1 := Lib.hid hb1
  clear hn hS hsm he1 hb1 hm
  go_enter Tryz.func30, Tryz.ntmps30
  go_wp2_with fail
  rw [← hw1]
  refine HN.out.mono ?_
  rintro e w2 ⟨hm2, hb2, ⟨h0, _⟩ | ⟨_, K, v', rfl, hst, _, _⟩⟩
  · exact absurd rfl h0
  have HF := Lib.hid (show SmallPost w (.returned (.pointer (some ⟨K, 0, none⟩))) w2 from ⟨K, v', rfl, hst, hm2, HB1.out.trans (hb2.mono HB1.out.size)⟩)
  clear hm2 hb2 hst HN hw1
  go_wp2_with fail
  go_ret
  exact HF.out

theorem fldP2 : ∀ (w : World) (a0 a1 a2 a3 a4 a5 a6 a7 a8 a9 : Value), (Instr.field 62 (.agg #[a0, a1, a2, a3, a4, a5, a6, a7, a8, a9]) 2).run Tryz.prog w = .ok a2 w := fun _ _ _ _ _ _ _ _ _ _ _ => by kernel_rfl

/-- The law's four boxes. -/
structure Four (b2 b3 b5 b6 : Nat) (P T P' T' : Array Value) (w : World) : Prop where
  p : w.heap[b2]? = some (.cells P 62 (0, 0))
  t : w.heap[b3]? = some (.cells T 24 (0, 0))
  p' : w.heap[b5]? = some (.cells P' 62 (0, 0))
  t' : w.heap[b6]? = some (.cells T' 24 (0, 0))

theorem Four.touch {b2 b3 b5 b6 : Nat} {P T P' T' : Array Value} {F : Nat → Prop} {w1 : World} (h : Four b2 b3 b5 b6 P T P' T' w) (ht : Heap.Touch F w w1) (f2 : ¬ F b2) (f3 : ¬ F b3) (f5 : ¬ F b5) (f6 : ¬ F b6) : Four b2 b3 b5 b6 P T P' T' w1 :=
  ⟨(ht.block _ (heap_lt h.p) f2).trans h.p, (ht.block _ (heap_lt h.t) f3).trans h.t, (ht.block _ (heap_lt h.p') f5).trans h.p', (ht.block _ (heap_lt h.t') f6).trans h.t'⟩

theorem Four.low {b2 b3 b5 b6 : Nat} {P T P' T' : Array Value} {w1 : World} (h : Four b2 b3 b5 b6 P T P' T' w) (hb : Below w.heap.size w w1) : Four b2 b3 b5 b6 P T P' T' w1 :=
  h.touch (Heap.Touch.ofBelow (F := fun _ => False) hb) id id id id

theorem two_alloc (w : World) (A B : Array Value) (ta tb : TypeId) : ((w.alloc (.cells A ta)).alloc (.cells B tb)).drew.heap[w.heap.size]? = some (.cells A ta (0, 0)) ∧ ((w.alloc (.cells A ta)).alloc (.cells B tb)).drew.heap[w.heap.size + 1]? = some (.cells B tb (0, 0)) ∧ Below w.heap.size w ((w.alloc (.cells A ta)).alloc (.cells B tb)).drew := by
  refine ⟨?_, ?_, (((Below.refl _ _).alloc (Nat.le_refl _) _).alloc (by simp) _).drew⟩
  · show ((w.alloc (.cells A ta)).alloc (.cells B tb)).heap[w.heap.size]? = _
    rw [Below.heap_alloc _ _ _ (by simp)]; exact heap_alloc_new w _
  · show ((w.alloc (.cells A ta)).alloc (.cells B tb)).heap[w.heap.size + 1]? = _
    have := heap_alloc_new (w.alloc (.cells A ta)) (.cells B tb)
    rw [show (w.alloc (.cells A ta)).heap.size = w.heap.size + 1 from by simp] at this
    exact this

theorem roomyN_str {v : Value} {xs : List Value} {n : Nat} (hn : xs.length = n) (h : Vals w v xs) (h1 : ∀ u ∈ xs, u.oneCell' = true) (hl : n ≤ 1048576) (f : ByteArray) :
    Calls Tryz.prog 32 #[v, .string f] w fun e w' => ∃ g off cap, e = .returned (.slice (some ⟨g, off, none⟩) n cap) ∧ Row w' 9 1 (.slice (some ⟨g, off, none⟩) (n + 2) cap) (n + 2) (xs ++ [.string f, .string f]) ∧ w.heap.size ≤ g ∧ Below w.heap.size w w' := by
  subst hn
  exact roomy_str h h1 hl f

theorem roomyN_int {v : Value} {xs : List Value} {n : Nat} (hn : xs.length = n) (h : Vals w v xs) (h1 : ∀ u ∈ xs, u.oneCell' = true) (hl : n ≤ 1048576) (f : Int) :
    Calls Tryz.prog 33 #[v, .int .i64 f] w fun e w' => ∃ g off cap, e = .returned (.slice (some ⟨g, off, none⟩) n cap) ∧ Row w' 3 1 (.slice (some ⟨g, off, none⟩) (n + 2) cap) (n + 2) (xs ++ [.int .i64 f, .int .i64 f]) ∧ w.heap.size ≤ g ∧ Below w.heap.size w w' := by
  subst hn
  exact roomy_int h h1 hl f

theorem cell_setCell_block (w : World) (a p : Addr) (u : Value) (h : a.block ≠ p.block) : (w.setCell p u).cell? a = w.cell? a :=
  World.cell?_of_block (heap_setCell_other _ _ _ _ h)

/-- A stream made of such a plan: whatever the error. -/
theorem StrmPost.any (hm : ML w) (name : ByteArray) (v : Value) (fs : List Tok) (x0 x1 x2 x3 x4 x5 x6 x7 : Int) (hn : name.size ≤ 1048576) (hS : Strs w v fs) (hz : Small fs) (hl : fs.length ≤ 1048576) :
    Calls Tryz.prog 34 #[.agg (planCells name v x0 x1 x2 x3 x4 x5 x6 x7), .int .i64 1000, .int .i64 100] w fun e w' => ∃ pv, e = .returned (.tuple #[.pointer pv, .int .i64 (planErr name.data.toList fs [x0, x1, x2, x3, x4, x5, x6, x7] : Nat)]) ∧ ML w' ∧ Below w.heap.size w w' ∧
      (planErr name.data.toList fs [x0, x1, x2, x3, x4, x5, x6, x7] = 0 → ∃ K v', pv = some ⟨K, 0, none⟩ ∧ StrmAt K name v' fs [.int .i64 x0, .int .i64 x1, .int .i64 x2, .int .i64 x3, .int .i64 x4, .int .i64 x5, .int .i64 x6, .int .i64 x7] w' ∧ w.heap.size ≤ K ∧ ∀ k, own v' k → w.heap.size ≤ k) := by
  refine (new_strm hm name v fs x0 x1 x2 x3 x4 x5 x6 x7 hn hS hz hl).mono ?_
  rintro e w' ⟨h1, h2, ⟨h3, rfl⟩ | ⟨h3, K, v', rfl, h4, h5, h6⟩⟩
  · exact ⟨none, rfl, h1, h2, fun h => absurd h h3⟩
  · exact ⟨_, by rw [h3]; rfl, h1, h2, fun _ => ⟨K, v', rfl, h4, h5, h6⟩⟩

theorem StrmAt.touch {K : Nat} {name : ByteArray} {v : Value} {fs : List Tok} {xs : List Value} {F : Nat → Prop} {w1 : World} (h : StrmAt K name v fs xs w) (ht : Heap.Touch F w w1) (fK : ¬ F K) (fv : ∀ k, own v k → ¬ F k) : StrmAt K name v fs xs w1 := by
  obtain ⟨⟨pv, h1⟩, h2, h3⟩ := h
  exact ⟨⟨pv, (ht.block K (heap_lt h1) fK).trans h1⟩, h2.kept fun k hk hk2 => ht.block k hk2 (fv k hk), h3⟩

/-- A consumer made of such a taker: whatever the error. -/
theorem NewPost.any {W : World} {F : Nat → Prop} {D : Nat} {vb : Value} {t : TakerP} (hA : Sto.StoreAt W F D 0 [] 0 w) (hm : ML W) (hB : Ints w vb t.back) (hnm : t.name.length ≤ 1048576) (hfl : t.filt.length ≤ 1048576) :
    Calls Tryz.prog 15 #[takerV t vb, .pointer (some ⟨D, 0, none⟩)] w fun e w' => ∃ pv, e = .returned (.tuple #[.pointer pv, .int .i64 (errT t : Nat)]) ∧ Below w.heap.size w w' ∧
      (errT t = 0 → ∃ K vb' c, pv = some ⟨K, 0, none⟩ ∧ CAt Con.tc Con.tp W K t vb' (.slice none 0 0) c w' ∧ w.heap.size ≤ K ∧ ∀ k, own vb' k → w.heap.size ≤ k) := by
  refine (new_c hA hm hB hnm hfl).mono ?_
  rintro e w' (⟨h1, rfl, h2⟩ | ⟨h1, K, vb', rfl, h2, h3, h4, h5⟩)
  · exact ⟨none, rfl, h2, fun h => absurd h h1⟩
  · exact ⟨_, by rw [h1]; rfl, h5, fun _ => ⟨K, vb', _, rfl, h2, h3, h4⟩⟩

/-- What stays, whatever the lists are overwritten with. -/
structure Mid (w : World) (L : Nat) (pv1 pv2 : Option Addr) (er1 er2 : Nat) (name : ByteArray) (fs : List Tok) (xs : List Value) (t : TakerP) (b2 b3 : Nat) (P T : Array Value) (wx : World) : Prop where
  p : wx.heap[b2]? = some (.cells P 62 (0, 0))
  tk : wx.heap[b3]? = some (.cells T 24 (0, 0))
  below : Below w.heap.size w wx
  strm : er1 = 0 → ∃ K v', pv1 = some ⟨K, 0, none⟩ ∧ StrmAt K name v' fs xs wx ∧ L ≤ K ∧ ∀ k, own v' k → L ≤ k
  cons : er2 = 0 → ∃ K vb' c, pv2 = some ⟨K, 0, none⟩ ∧ CAt Con.tc Con.tp w K t vb' (.slice none 0 0) c wx ∧ L ≤ K ∧ ∀ k, own vb' k → L ≤ k

theorem Mid.touch {F : Nat → Prop} {L : Nat} {pv1 pv2 : Option Addr} {er1 er2 : Nat} {name : ByteArray} {fs : List Tok} {xs : List Value} {t : TakerP} {b2 b3 : Nat} {P T : Array Value} {wx wy : World}
    (h : Mid w L pv1 pv2 er1 er2 name fs xs t b2 b3 P T wx) (ht : Heap.Touch F wx wy) (hF : ∀ k, F k → w.heap.size ≤ k) (f2 : ¬ F b2) (f3 : ¬ F b3) (fL : ∀ k, L ≤ k → ¬ F k) : Mid w L pv1 pv2 er1 er2 name fs xs t b2 b3 P T wy where
  p := (ht.block b2 (heap_lt h.p) f2).trans h.p
  tk := (ht.block b3 (heap_lt h.tk) f3).trans h.tk
  below := h.below.trans (ht.below h.below.size hF)
  strm := fun e => by
    obtain ⟨K, v', h1, h2, h3, h4⟩ := h.strm e
    exact ⟨K, v', h1, h2.touch ht (fL K h3) (fun k hk => fL k (h4 k hk)), h3, h4⟩
  cons := fun e => by
    obtain ⟨K, vb', c, h1, h2, h3, h4⟩ := h.cons e
    exact ⟨K, vb', c, h1, h2.touch ht hF (fL K h3) (fun k hk => by simp [own, Value.ownBlock] at hk) (fun k hk => fL k (h4 k hk)), h3, h4⟩

theorem Mid.low {L : Nat} {pv1 pv2 : Option Addr} {er1 er2 : Nat} {name : ByteArray} {fs : List Tok} {xs : List Value} {t : TakerP} {b2 b3 : Nat} {P T : Array Value} {wx wy : World}
    (h : Mid w L pv1 pv2 er1 er2 name fs xs t b2 b3 P T wx) (hb : Below wx.heap.size wx wy) : Mid w L pv1 pv2 er1 er2 name fs xs t b2 b3 P T wy :=
  h.touch (Heap.Touch.ofBelow (F := fun _ => False) hb) (fun _ h => h.elim) id id fun _ _ h => h

/-- Behind the two roomy lists. -/
def Rooms (w4 : World) (b2 b3 b5 b6 : Nat) (name nm fl : ByteArray) (ao bo : Option Addr) (cap cb : Nat) (fs : List Tok) (t : TakerP) (x0 x1 x2 x3 x4 x5 x6 x7 : Int) (wx : World) : Prop :=
  ∃ g5 o5 c5 g6 o6 c6, Four b2 b3 b5 b6 #[.string name, .slice ao fs.length cap, .int .i64 x0, .int .i64 x1, .int .i64 x2, .int .i64 x3, .int .i64 x4, .int .i64 x5, .int .i64 x6, .int .i64 x7] #[.string nm, .string fl, .int .i64 t.src, .int .i64 t.start, .int .i64 t.ack, .int .i64 t.wait, .slice bo t.back.length cb, .int .i64 t.most, .int .i64 t.pend, .bool t.push] #[.string name, .slice (some ⟨g5, o5, none⟩) fs.length c5, .int .i64 x0, .int .i64 x1, .int .i64 x2, .int .i64 x3, .int .i64 x4, .int .i64 x5, .int .i64 x6, .int .i64 x7] #[.string nm, .string fl, .int .i64 t.src, .int .i64 t.start, .int .i64 t.ack, .int .i64 t.wait, .slice (some ⟨g6, o6, none⟩) t.back.length c6, .int .i64 t.most, .int .i64 t.pend, .bool t.push] wx ∧
    Row wx 9 1 (.slice (some ⟨g5, o5, none⟩) (fs.length + 2) c5) (fs.length + 2) (strsV fs ++ [.string ⟨#[113]⟩, .string ⟨#[113]⟩]) ∧
    Row wx 3 1 (.slice (some ⟨g6, o6, none⟩) (t.back.length + 2) c6) (t.back.length + 2) (t.back.map (Value.int .i64) ++ [.int .i64 77, .int .i64 77]) ∧ Below w4.heap.size w4 wx ∧ w4.heap.size ≤ b5 ∧ w4.heap.size ≤ b6 ∧ b5 ≠ b6 ∧ b5 < g5 ∧ b6 < g5 ∧ g5 < g6 ∧ g6 < wx.heap.size

theorem Rooms.stored {w4 wB : World} {b2 b3 b5 b6 g5 o5 c5 g6 o6 c6 : Nat} {name nm fl : ByteArray} {ao bo : Option Addr} {cap cb : Nat} {fs : List Tok} {t : TakerP} {x0 x1 x2 x3 x4 x5 x6 x7 : Int}
    (hf : Four b2 b3 b5 b6 #[.string name, .slice ao fs.length cap, .int .i64 x0, .int .i64 x1, .int .i64 x2, .int .i64 x3, .int .i64 x4, .int .i64 x5, .int .i64 x6, .int .i64 x7] #[.string nm, .string fl, .int .i64 t.src, .int .i64 t.start, .int .i64 t.ack, .int .i64 t.wait, .slice bo t.back.length cb, .int .i64 t.most, .int .i64 t.pend, .bool t.push] #[.string name, .slice ao fs.length cap, .int .i64 x0, .int .i64 x1, .int .i64 x2, .int .i64 x3, .int .i64 x4, .int .i64 x5, .int .i64 x6, .int .i64 x7] #[.string nm, .string fl, .int .i64 t.src, .int .i64 t.start, .int .i64 t.ack, .int .i64 t.wait, .slice bo t.back.length cb, .int .i64 t.most, .int .i64 t.pend, .bool t.push] wB) (h2 : b2 < w4.heap.size) (h3 : b3 < w4.heap.size)
    (r5 : Row wB 9 1 (.slice (some ⟨g5, o5, none⟩) (fs.length + 2) c5) (fs.length + 2) (strsV fs ++ [.string ⟨#[113]⟩, .string ⟨#[113]⟩]))
    (r6 : Row wB 3 1 (.slice (some ⟨g6, o6, none⟩) (t.back.length + 2) c6) (t.back.length + 2) (t.back.map (Value.int .i64) ++ [.int .i64 77, .int .i64 77]))
    (hb : Below w4.heap.size w4 wB) (e5 : w4.heap.size ≤ b5) (e6 : w4.heap.size ≤ b6) (e56 : b5 ≠ b6) (e5g : b5 < g5) (e6g : b6 < g5) (eg : g5 < g6) :
    Rooms w4 b2 b3 b5 b6 name nm fl ao bo cap cb fs t x0 x1 x2 x3 x4 x5 x6 x7 ((wB.setCell ⟨b5, 1, none⟩ (.slice (some ⟨g5, o5, none⟩) fs.length c5)).setCell ⟨b6, 6, none⟩ (.slice (some ⟨g6, o6, none⟩) t.back.length c6)) ∧
    Rooms w4 b2 b3 b5 b6 name nm fl ao bo cap cb fs t x0 x1 x2 x3 x4 x5 x6 x7 ((wB.setCell ⟨b6, 6, none⟩ (.slice (some ⟨g6, o6, none⟩) t.back.length c6)).setCell ⟨b5, 1, none⟩ (.slice (some ⟨g5, o5, none⟩) fs.length c5)) := by
  have hg6 : g6 < wB.heap.size := r6.lt g6 rfl
  have two : ∀ wx : World, wx.heap[b5]? = some (.cells #[.string name, .slice (some ⟨g5, o5, none⟩) fs.length c5, .int .i64 x0, .int .i64 x1, .int .i64 x2, .int .i64 x3, .int .i64 x4, .int .i64 x5, .int .i64 x6, .int .i64 x7] 62 (0, 0)) → wx.heap[b6]? = some (.cells #[.string nm, .string fl, .int .i64 t.src, .int .i64 t.start, .int .i64 t.ack, .int .i64 t.wait, .slice (some ⟨g6, o6, none⟩) t.back.length c6, .int .i64 t.most, .int .i64 t.pend, .bool t.push] 24 (0, 0)) → Heap.Touch (fun k => k = b5 ∨ k = b6) wB wx → Rooms w4 b2 b3 b5 b6 name nm fl ao bo cap cb fs t x0 x1 x2 x3 x4 x5 x6 x7 wx := by
    intro wx hp ht htch
    refine ⟨g5, o5, c5, g6, o6, c6, ⟨(htch.block b2 (heap_lt hf.p) (by omega)).trans hf.p, (htch.block b3 (heap_lt hf.t) (by omega)).trans hf.t, hp, ht⟩, r5.kept fun k hk hk2 => htch.block k hk2 (fun e => ?_), r6.kept fun k hk hk2 => htch.block k hk2 (fun e => ?_), hb.trans (htch.below hb.size fun k hk => by omega), e5, e6, e56, e5g, e6g, eg, Nat.lt_of_lt_of_le hg6 htch.size⟩
    · simp [own, Value.ownBlock] at hk; omega
    · simp [own, Value.ownBlock] at hk; omega
  refine ⟨two _ ?_ ?_ ?_, two _ ?_ ?_ ?_⟩
  · exact (heap_setCell_other _ _ _ _ (show b5 ≠ b6 from e56)).trans (heap_setCell_same _ _ _ _ _ _ hf.p')
  · exact heap_setCell_same _ _ _ _ _ _ ((heap_setCell_other _ _ _ _ (show b6 ≠ b5 from Ne.symm e56)).trans hf.t')
  · exact ((Heap.Touch.refl (fun k => k = b5 ∨ k = b6) wB).setCell (.inl (.inl rfl)) _).setCell (.inl (.inr rfl)) _
  · exact heap_setCell_same _ _ _ _ _ _ ((heap_setCell_other _ _ _ _ (show b5 ≠ b6 from e56)).trans hf.p')
  · exact (heap_setCell_other _ _ _ _ (show b6 ≠ b5 from Ne.symm e56)).trans (heap_setCell_same _ _ _ _ _ _ hf.t')
  · exact ((Heap.Touch.refl (fun k => k = b5 ∨ k = b6) wB).setCell (.inl (.inr rfl)) _).setCell (.inl (.inl rfl)) _

set_option maxHeartbeats 8000000 in
set_option maxRecDepth 100000 in
theorem plansOwn_walk (hm : ML w) (name : ByteArray) (ao : Option Addr) (cap : Nat) (fs : List Tok) (x0 x1 x2 x3 x4 x5 x6 x7 : Int) (hS : Strs w (.slice ao fs.length cap) fs) (hz : Small fs) (hl : fs.length ≤ 1048576) (hn : name.size ≤ 1048576)
    (t : TakerP) (bo : Option Addr) (cb : Nat) (hB : Ints w (.slice bo t.back.length cb) t.back) (hbl : t.back.length ≤ 1048576) (htn : t.name.length ≤ 1048576) (htf : t.filt.length ≤ 1048576) :
    Calls Tryz.prog 4 #[.agg (planCells name (.slice ao fs.length cap) x0 x1 x2 x3 x4 x5 x6 x7), takerV t (.slice bo t.back.length cb)] w fun e w' => e = .returned (.bool true) ∧ Below w.heap.size w w' := by
  obtain ⟨nm, hnme⟩ : ∃ nm : ByteArray, (⟨t.name.toArray⟩ : ByteArray) = nm := ⟨_, rfl⟩
  obtain ⟨fl, hfle⟩ : ∃ fl : ByteArray, (⟨t.filt.toArray⟩ : ByteArray) = fl := ⟨_, rfl⟩
  unfold planCells takerV
  rw [hnme, hfle]
  obtain ⟨w1, hw1⟩ : ∃ w1, w1 = (w.alloc (.cells #[.string name, .slice ao fs.length cap, .int .i64 x0, .int .i64 x1, .int .i64 x2, .int .i64 x3, .int .i64 x4, .int .i64 x5, .int .i64 x6, .int .i64 x7] 62)).alloc (.cells #[.string nm, .string fl, .int .i64 t.src, .int .i64 t.start, .int .i64 t.ack, .int .i64 t.wait, .slice bo t.back.length cb, .int .i64 t.most, .int .i64 t.pend, .bool t.push] 24) := ⟨_, rfl⟩
  have hb1 : Below w.heap.size w w1 := by rw [hw1]; exact ((Below.refl _ _).alloc (Nat.le_refl _) _).alloc (by simp) _
  have hp1 : w1.heap[w.heap.size]? = some (.cells #[.string name, .slice ao fs.length cap, .int .i64 x0, .int .i64 x1, .int .i64 x2, .int .i64 x3, .int .i64 x4, .int .i64 x5, .int .i64 x6, .int .i64 x7] 62 (0, 0)) := by rw [hw1, Below.heap_alloc _ _ _ (by simp)]; exact heap_alloc_new w _
  have ht1 : w1.heap[w.heap.size + 1]? = some (.cells #[.string nm, .string fl, .int .i64 t.src, .int .i64 t.start, .int .i64 t.ack, .int .i64 t.wait, .slice bo t.back.length cb, .int .i64 t.most, .int .i64 t.pend, .bool t.push] 24 (0, 0)) := by
    rw [hw1]
    have := heap_alloc_new (w.alloc (.cells #[.string name, .slice ao fs.length cap, .int .i64 x0, .int .i64 x1, .int .i64 x2, .int .i64 x3, .int .i64 x4, .int .i64 x5, .int .i64 x6, .int .i64 x7] 62)) (.cells #[.string nm, .string fl, .int .i64 t.src, .int .i64 t.start, .int .i64 t.ack, .int .i64 t.wait, .slice bo t.back.length cb, .int .i64 t.most, .int .i64 t.pend, .bool t.push] 24)
    rw [show (w.alloc (.cells #[.string name, .slice ao fs.length cap, .int .i64 x0, .int .i64 x1, .int .i64 x2, .int .i64 x3, .int .i64 x4, .int .i64 x5, .int .i64 x6, .int .i64 x7] 62)).heap.size = w.heap.size + 1 from by simp] at this
    exact this
  obtain ⟨b2, hb2⟩ : ∃ b2, w.heap.size = b2 := ⟨_, rfl⟩
  obtain ⟨b3, hb3⟩ : ∃ b3, w.heap.size + 1 = b3 := ⟨_, rfl⟩
  rw [hb2] at hp1
  rw [hb3] at ht1
  have HP1 := Lib.hid hp1; have HT1 := Lib.hid ht1; have HB1 := Lib.hid hb1; have HB2 := Lib.hid hb2; have HB3 := Lib.hid hb3
  have HML0 := Lib.hid hm; have HM := Lib.hid hm; have HS := Lib.hid hS; have HZ := Lib.hid hz; have HI := Lib.hid hB; have HNM := Lib.hid hnme; have HFL := Lib.hid hfle; have HTN := Lib.hid htn; have HTF := Lib.hid htf
  have HSM := Lib.hid (small_any (hm.below hb1))
  clear hp1 ht1 hb1 hb2 hb3 hm hS hz hB hnme hfle htn htf
  go_enter Tryz.func4, Tryz.ntmps4
  go_upto_region 1 with fail
  rw [← hw1, HB2.out, show b2 + 1 = b3 by rw [← HB2.out]; exact HB3.out]
  clear hw1
  go_wp2_with fail
  refine HSM.out.mono ?_
  rintro e w2 ⟨K1, v1, rfl, hst1, hm2, hb2⟩
  have HSM2 := Lib.hid (small_any hm2); have HBB2 := Lib.hid hb2
  clear hst1 hm2 hb2 HSM
  go_wp2_with fail
  refine HSM2.out.mono ?_
  rintro e w3 ⟨K2, v2, rfl, hst2, hm3, hb3⟩
  have HPL := Lib.hid (plan_strm (show (1 : Nat) ≤ _ by omega) hst2)
  have HB12 := Lib.hid (HBB2.out.trans (hb3.mono HBB2.out.size))
  clear hst2 hm3 hb3 HSM2 HBB2
  go_wp2_with fail
  refine HPL.out.mono ?_
  rintro e w4 ⟨v4, rfl, _, _, hb4⟩
  have hb14 := HB12.out.trans (hb4.mono HB12.out.size)
  have HP4 := Lib.hid ((hb14.block b2 (heap_lt HP1.out)).trans HP1.out)
  have HT4 := Lib.hid ((hb14.block b3 (heap_lt HT1.out)).trans HT1.out)
  have HB4 := Lib.hid (HB1.out.trans (hb14.mono HB1.out.size))
  have HLT4 := Lib.hid (show b2 < w4.heap.size ∧ b3 < w4.heap.size from ⟨heap_lt HP4.out, heap_lt HT4.out⟩)
  clear hb4 hb14 HP1 HT1 HPL HB12 HB1
  unfold planCells
  have hfd := fldP2
  go_upto_region 3 with fail
  clear hfd
  obtain ⟨q0, q1, q2, q3, q4, q5, q6, q7, q8, q9, qf⟩ := ten HP4.out
  obtain ⟨y0, y1, y2, y3, y4, y5, y6, y7, y8, y9, yf⟩ := ten HT4.out
  have hl2 := HLT4.out.1
  have hl3 := HLT4.out.2
  go_cut [5, 6] from 21 to 22 (fun s5 s6 wx => ∃ b5 b6, s5 = .pointer (some ⟨b5, 0, none⟩) ∧ s6 = .pointer (some ⟨b6, 0, none⟩) ∧ Hid (Four b2 b3 b5 b6 #[.string name, .slice ao fs.length cap, .int .i64 x0, .int .i64 x1, .int .i64 x2, .int .i64 x3, .int .i64 x4, .int .i64 x5, .int .i64 x6, .int .i64 x7] #[.string nm, .string fl, .int .i64 t.src, .int .i64 t.start, .int .i64 t.ack, .int .i64 t.wait, .slice bo t.back.length cb, .int .i64 t.most, .int .i64 t.pend, .bool t.push] #[.string name, .slice ao fs.length cap, .int .i64 x0, .int .i64 x1, .int .i64 x2, .int .i64 x3, .int .i64 x4, .int .i64 x5, .int .i64 x6, .int .i64 x7] #[.string nm, .string fl, .int .i64 t.src, .int .i64 t.start, .int .i64 t.ack, .int .i64 t.wait, .slice bo t.back.length cb, .int .i64 t.most, .int .i64 t.pend, .bool t.push] wx ∧ Below w4.heap.size w4 wx ∧ b5 ≠ b6 ∧ w4.heap.size ≤ b5 ∧ w4.heap.size ≤ b6))
  case first =>
    go_region
    all_goals
      go_wp2_with fail
      go_meet
      first
        | exact ⟨_, _, rfl, rfl, Lib.hid (by
            obtain ⟨z1, z2, z3⟩ := two_alloc w4 #[.string name, .slice ao fs.length cap, .int .i64 x0, .int .i64 x1, .int .i64 x2, .int .i64 x3, .int .i64 x4, .int .i64 x5, .int .i64 x6, .int .i64 x7] #[.string nm, .string fl, .int .i64 t.src, .int .i64 t.start, .int .i64 t.ack, .int .i64 t.wait, .slice bo t.back.length cb, .int .i64 t.most, .int .i64 t.pend, .bool t.push] 62 24
            exact ⟨⟨(z3.block b2 hl2).trans HP4.out, (z3.block b3 hl3).trans HT4.out, z1, z2⟩, z3, by omega, by omega, by omega⟩)⟩
        | exact ⟨_, _, rfl, rfl, Lib.hid (by
            obtain ⟨z1, z2, z3⟩ := two_alloc w4 #[.string nm, .string fl, .int .i64 t.src, .int .i64 t.start, .int .i64 t.ack, .int .i64 t.wait, .slice bo t.back.length cb, .int .i64 t.most, .int .i64 t.pend, .bool t.push] #[.string name, .slice ao fs.length cap, .int .i64 x0, .int .i64 x1, .int .i64 x2, .int .i64 x3, .int .i64 x4, .int .i64 x5, .int .i64 x6, .int .i64 x7] 24 62
            exact ⟨⟨(z3.block b2 hl2).trans HP4.out, (z3.block b3 hl3).trans HT4.out, z2, z1⟩, z3, by omega, by omega, by omega⟩)⟩
  case rest =>
  obtain ⟨b5, b6, rfl, rfl, hcc⟩ := hcut
  obtain ⟨hf5, hb5, hne, hl5, hl6⟩ := hcc.out
  obtain ⟨wd, hwd⟩ : ∃ wd, wd = wc := ⟨_, rfl⟩
  have HF5 := Lib.hid hf5; have HB5 := Lib.hid hb5; have HN5 := Lib.hid (show b5 ≠ b6 ∧ w4.heap.size ≤ b5 ∧ w4.heap.size ≤ b6 ∧ b5 < wc.heap.size ∧ b6 < wc.heap.size from ⟨hne, hl5, hl6, heap_lt hf5.p', heap_lt hf5.t'⟩)
  have HBW5 := Lib.hid (HB4.out.trans (hb5.mono HB4.out.size))
  have HRS := Lib.hid (show ∀ w', Below wc.heap.size wc w' → _ from fun w' hb => roomyN_str (w := w') (strsV_len fs) (Vals.ofStrs ((HS.out.below HBW5.out).below hb)) (fun u hu => by simp only [strsV, List.mem_map] at hu; obtain ⟨_, _, rfl⟩ := hu; rfl) hl ⟨#[113]⟩)
  have HRI := Lib.hid (show ∀ w', Below wc.heap.size wc w' → _ from fun w' hb => roomyN_int (w := w') (show (t.back.map (Value.int .i64)).length = t.back.length by simp) (Vals.ofInts ((HI.out.below HBW5.out).below hb)) (fun u hu => by simp only [List.mem_map] at hu; obtain ⟨_, _, rfl⟩ := hu; rfl) hbl 77)
  have HK := Lib.hid (show ∀ w', Below wc.heap.size wc w' → w'.cell? ⟨b2, 1, none⟩ = some (.slice ao fs.length cap) ∧ w'.cell? ⟨b3, 6, none⟩ = some (.slice bo t.back.length cb) from fun w' hb => by
    have h := HF5.out.low hb
    exact ⟨(ten h.p).2.1, (ten h.t).2.2.2.2.2.2.1⟩)
  have hks : ∀ (w' : World) (b j : Nat) (u : Value), (b = b5 ∨ b = b6) → ((w').cell? ⟨b2, 1, none⟩ = some (.slice ao fs.length cap) ∧ (w').cell? ⟨b3, 6, none⟩ = some (.slice bo t.back.length cb)) → ((w'.setCell ⟨b, j, none⟩ u).cell? ⟨b2, 1, none⟩ = some (.slice ao fs.length cap) ∧ (w'.setCell ⟨b, j, none⟩ u).cell? ⟨b3, 6, none⟩ = some (.slice bo t.back.length cb)) := fun w' b j u hbb h => by
    have z := HN5.out; have z2 := HLT4.out
    rw [cell_setCell_block _ _ _ _ (show b2 ≠ b by omega), cell_setCell_block _ _ _ _ (show b3 ≠ b by omega)]
    exact h
  have HKS := Lib.hid hks
  clear hks
  have hbd : Below wc.heap.size wc wc.drew := (Below.refl _ _).drew
  clear q0 q1 q2 q3 q4 q5 q6 q7 q8 q9 qf y0 y1 y2 y3 y4 y5 y6 y7 y8 y9 yf hl2 hl3 hcc hf5 hb5 hne hl5 hl6 hwd
  go_upto_region 4 with fail
  go_cut [] from 23 to 30 (fun wx => Hid (Rooms w4 b2 b3 b5 b6 name nm fl ao bo cap cb fs t x0 x1 x2 x3 x4 x5 x6 x7 wx))
  case first =>
    go_region_held3 (fun w' => w'.cell? ⟨b2, 1, none⟩ = some (.slice ao fs.length cap) ∧ w'.cell? ⟨b3, 6, none⟩ = some (.slice bo t.back.length cb)) (first | (with_reducible exact HK.out _ hbd) | (with_reducible exact HK.out _ (Below.refl _ _)) | (with_reducible exact HK.out _ (by assumption)) | (with_reducible exact HKS.out _ b5 1 _ (.inl rfl) (HK.out _ hbB2)) | (with_reducible exact HKS.out _ b6 6 _ (.inr rfl) (HK.out _ hbB2)) | (with_reducible exact HKS.out _ b6 6 _ (.inr rfl) (HKS.out _ b5 1 _ (.inl rfl) (HK.out _ hbB2))) | (with_reducible exact HKS.out _ b5 1 _ (.inl rfl) (HKS.out _ b6 6 _ (.inr rfl) (HK.out _ hbB2))) | go_keep)
      (first
        | (go_at_call 32; ((refine (HRS.out _ (by first | assumption | exact Below.refl _ _)).mono ?_); rintro e wA ⟨g5, o5, c5, rfl, hrA, hgA, hbA⟩; have hbA2 := hbd.trans (hbA.mono hbd.size)))
        | (go_at_call 33; ((refine (HRI.out _ hbA2).mono ?_); rintro e wB ⟨g6, o6, c6, rfl, hrB, hgB, hbB⟩; have hbB2 := hbA2.trans (hbB.mono hbA2.size); obtain ⟨q0, q1, q2, q3, q4, q5, q6, q7, q8, q9, qf⟩ := ten (HF5.out.low hbB2).p'; obtain ⟨y0, y1, y2, y3, y4, y5, y6, y7, y8, y9, yf⟩ := ten (HF5.out.low hbB2).t'; have hl5 := heap_lt (HF5.out.low hbB2).p'; have hl6 := heap_lt (HF5.out.low hbB2).t')))
    all_goals
      go_wp2_with fail
      go_meet
      exact Lib.hid (Rooms.stored (HF5.out.low hbB2) HLT4.out.1 HLT4.out.2 ((hrA.kept fun k _ hk => hbB.block k hk)) hrB (HB5.out.trans (hbB2.mono HB5.out.size)) HN5.out.2.1 HN5.out.2.2.1 HN5.out.1 (Nat.lt_of_lt_of_le HN5.out.2.2.2.1 (Nat.le_trans hbd.size hgA)) (Nat.lt_of_lt_of_le HN5.out.2.2.2.2 (Nat.le_trans hbd.size hgA)) (Nat.lt_of_lt_of_le (hrA.lt g5 rfl) hgB)).1
  case rest =>
  obtain ⟨g5, o5, c5, g6, o6, c6, hf, hr5, hr6, hb4x, e5, e6, e56, e5g, e6g, eg, eg6⟩ := hcut.out
  have HF := Lib.hid hf; have HR5 := Lib.hid hr5; have HR6 := Lib.hid hr6; have HW := Lib.hid (HB4.out.trans (hb4x.mono HB4.out.size))
  have HO := Lib.hid (show b2 < b5 ∧ b3 < b5 ∧ b2 < b6 ∧ b3 < b6 ∧ b5 ≠ b6 ∧ b5 < g5 ∧ b6 < g5 ∧ g5 < g6 ∧ g6 < wc.heap.size ∧ w.heap.size ≤ b5 ∧ w.heap.size ≤ b6 from by
    have z := HLT4.out; have z2 := HB4.out.size
    exact ⟨by omega, by omega, by omega, by omega, e56, e5g, e6g, eg, eg6, by omega, by omega⟩)
  obtain ⟨we, hwe⟩ : ∃ we, we = wc := ⟨_, rfl⟩
  have HST := Lib.hid (StrmPost.any (HM.out.below HW.out) name _ fs x0 x1 x2 x3 x4 x5 x6 x7 hn (Row.strs rfl (Nat.le_add_right _ _) hr5) HZ.out hl)
  obtain ⟨er1, her1⟩ : ∃ er1, planErr name.data.toList fs [x0, x1, x2, x3, x4, x5, x6, x7] = er1 := ⟨_, rfl⟩
  rw [her1] at HST
  unfold planCells at HST
  obtain ⟨q0, q1, q2, q3, q4, q5, q6, q7, q8, q9, qf⟩ := ten hf.p'
  have hl5 := heap_lt hf.p'
  clear hcut hf hr5 hr6 hb4x e5 e6 e56 e5g e6g eg eg6 hwe her1 hbd HF5 HB5 HN5 HBW5 HRS HRI HK HKS HB4 HLT4 HP4 HT4
  go_wp2_with fail
  refine HST.out.mono ?_
  rintro e wE ⟨pv1, rfl, hmE, hbE, hsE⟩
  obtain ⟨we, hwe⟩ : ∃ we, we = wE := ⟨_, rfl⟩
  have HFE := Lib.hid (HF.out.low hbE); have HWE := Lib.hid (HW.out.trans (hbE.mono HW.out.size))
  have HR5E := Lib.hid (HR5.out.kept fun k _ hk => hbE.block k hk); have HR6E := Lib.hid (HR6.out.kept fun k _ hk => hbE.block k hk)
  have HSZ := Lib.hid hbE.size
  have HSE := Lib.hid hsE; have HME := Lib.hid hmE
  have HNS := Lib.hid (show ∀ w', Below wE.heap.size wE w' → _ from fun w' hb => new_store (W := w) (w := w') (HWE.out.trans (hb.mono HWE.out.size)))
  have HNC := Lib.hid (show ∀ (w' : World) (F : Nat → Prop) (D : Nat), Below wE.heap.size wE w' → Sto.StoreAt w F D 0 [] 0 w' → Calls Tryz.prog 15 #[.agg #[.string nm, .string fl, .int .i64 t.src, .int .i64 t.start, .int .i64 t.ack, .int .i64 t.wait, .slice (some ⟨g6, o6, none⟩) t.back.length c6, .int .i64 t.most, .int .i64 t.pend, .bool t.push], .pointer (some ⟨D, 0, none⟩)] w' fun e w'' => ∃ pv, e = .returned (.tuple #[.pointer pv, .int .i64 (errT t : Nat)]) ∧ Below w'.heap.size w' w'' ∧
      (errT t = 0 → ∃ K vb' c, pv = some ⟨K, 0, none⟩ ∧ CAt Con.tc Con.tp w K t vb' (.slice none 0 0) c w'' ∧ w'.heap.size ≤ K ∧ ∀ k, own vb' k → w'.heap.size ≤ k) from fun w' F D hb hA => by
    have h := NewPost.any hA HM.out ((Row.ints (by simp) (Nat.le_add_right _ _) HR6E.out : Ints wE _ _).below hb) HTN.out HTF.out
    unfold takerV at h
    rw [HNM.out, HFL.out] at h
    exact h)
  obtain ⟨er2, her2⟩ : ∃ er2, errT t = er2 := ⟨_, rfl⟩
  rw [her2] at HNC
  have HK := Lib.hid (show ∀ w', Below wE.heap.size wE w' → w'.cell? ⟨b6, 0, none⟩ = some (.string nm) ∧ w'.cell? ⟨b6, 1, none⟩ = some (.string fl) ∧ w'.cell? ⟨b6, 2, none⟩ = some (.int .i64 t.src) ∧ w'.cell? ⟨b6, 3, none⟩ = some (.int .i64 t.start) ∧ w'.cell? ⟨b6, 4, none⟩ = some (.int .i64 t.ack) ∧ w'.cell? ⟨b6, 5, none⟩ = some (.int .i64 t.wait) ∧ w'.cell? ⟨b6, 6, none⟩ = some (.slice (some ⟨g6, o6, none⟩) t.back.length c6) ∧ w'.cell? ⟨b6, 7, none⟩ = some (.int .i64 t.most) ∧ w'.cell? ⟨b6, 8, none⟩ = some (.int .i64 t.pend) ∧ w'.cell? ⟨b6, 9, none⟩ = some (.bool t.push) from fun w' hb => by
    obtain ⟨h0, h1, h2, h3, h4, h5, h6, h7, h8, h9, _⟩ := ten (HFE.out.low hb).t'
    exact ⟨h0, h1, h2, h3, h4, h5, h6, h7, h8, h9⟩)
  have hbd : Below wE.heap.size wE wE.drew := (Below.refl _ _).drew
  clear hmE hbE hsE hwe her2 q0 q1 q2 q3 q4 q5 q6 q7 q8 q9 qf hl5 HF HR5 HR6 HW HST
  go_upto_region 6 with fail
  go_cut [9, 10] from 36 to 41 (fun s9 s10 wx => ∃ pv2, s9 = .pointer pv2 ∧ s10 = .int .i64 (er2 : Nat) ∧ Hid (Below wE.heap.size wE wx ∧ (er2 = 0 → ∃ K vb' c, pv2 = some ⟨K, 0, none⟩ ∧ CAt Con.tc Con.tp w K t vb' (.slice none 0 0) c wx ∧ wE.heap.size ≤ K ∧ ∀ k, own vb' k → wE.heap.size ≤ k)))
  case first =>
    go_region_held3 (fun w' => w'.cell? ⟨b6, 0, none⟩ = some (.string nm) ∧ w'.cell? ⟨b6, 1, none⟩ = some (.string fl) ∧ w'.cell? ⟨b6, 2, none⟩ = some (.int .i64 t.src) ∧ w'.cell? ⟨b6, 3, none⟩ = some (.int .i64 t.start) ∧ w'.cell? ⟨b6, 4, none⟩ = some (.int .i64 t.ack) ∧ w'.cell? ⟨b6, 5, none⟩ = some (.int .i64 t.wait) ∧ w'.cell? ⟨b6, 6, none⟩ = some (.slice (some ⟨g6, o6, none⟩) t.back.length c6) ∧ w'.cell? ⟨b6, 7, none⟩ = some (.int .i64 t.most) ∧ w'.cell? ⟨b6, 8, none⟩ = some (.int .i64 t.pend) ∧ w'.cell? ⟨b6, 9, none⟩ = some (.bool t.push)) (first | (with_reducible exact HK.out _ hbd) | (with_reducible exact HK.out _ (Below.refl _ _)) | (with_reducible exact HK.out _ (by assumption)) | go_keep)
      (first
        | (go_at_call 12; ((refine (HNS.out _ (by first | assumption | exact Below.refl _ _)).mono ?_); rintro e wA ⟨rfl, hsA, hbA⟩; have hbA2 := hbd.trans (hbA.mono hbd.size)))
        | (go_at_call 15; ((refine (HNC.out _ _ _ hbA2 hsA).mono ?_); rintro e wB ⟨pv2, rfl, hbB, hcB⟩; have hbB2 := hbA2.trans (hbB.mono hbA2.size); have HEND := Lib.hid (show Below wE.heap.size wE wB ∧ (er2 = 0 → ∃ K vb' c, pv2 = some ⟨K, 0, none⟩ ∧ CAt Con.tc Con.tp w K t vb' (.slice none 0 0) c wB ∧ wE.heap.size ≤ K ∧ ∀ k, own vb' k → wE.heap.size ≤ k) from ⟨hbB2, fun h => by obtain ⟨K, vb', c, h1, h2, h3, h4⟩ := hcB h; have z := hbA2.size; exact ⟨K, vb', c, h1, h2, by omega, fun k hk => by have := h4 k hk; omega⟩⟩); clear hcB hbB)))
    all_goals
      go_wp2_with fail
      go_meet
      exact ⟨_, rfl, rfl, HEND⟩
  case rest =>
  obtain ⟨pv2, rfl, rfl, hcc⟩ := hcut
  obtain ⟨hb6, hc6⟩ := hcc.out
  have hmc : ML wc := HME.out.below hb6
  have HMD := Lib.hid (show Mid w (g6 + 1) pv1 pv2 er1 er2 name fs [.int .i64 x0, .int .i64 x1, .int .i64 x2, .int .i64 x3, .int .i64 x4, .int .i64 x5, .int .i64 x6, .int .i64 x7] t b2 b3 #[.string name, .slice ao fs.length cap, .int .i64 x0, .int .i64 x1, .int .i64 x2, .int .i64 x3, .int .i64 x4, .int .i64 x5, .int .i64 x6, .int .i64 x7] #[.string nm, .string fl, .int .i64 t.src, .int .i64 t.start, .int .i64 t.ack, .int .i64 t.wait, .slice bo t.back.length cb, .int .i64 t.most, .int .i64 t.pend, .bool t.push] wc from by
    have z := HO.out; have z2 := HSZ.out; have hf := HFE.out.low hb6
    refine ⟨hf.p, hf.t, HWE.out.trans (hb6.mono HWE.out.size), fun e => ?_, fun e => ?_⟩
    · obtain ⟨K, v', h1, h2, h3, h4⟩ := HSE.out e
      exact ⟨K, v', h1, h2.touch (Heap.Touch.ofBelow (F := fun _ => False) hb6) id (fun _ _ => id), by omega, fun k hk => by have := h4 k hk; omega⟩
    · obtain ⟨K, vb', c, h1, h2, h3, h4⟩ := hc6 e
      exact ⟨K, vb', c, h1, h2, by omega, fun k hk => by have := h4 k hk; omega⟩)
  have HF := Lib.hid (HFE.out.low hb6); have HR5 := Lib.hid (HR5E.out.kept fun k _ hk => hb6.block k hk); have HR6 := Lib.hid (HR6E.out.kept fun k _ hk => hb6.block k hk)
  have HQ := Lib.hid (show b2 < b5 ∧ b3 < b5 ∧ b2 < b6 ∧ b3 < b6 ∧ b5 ≠ b6 ∧ b5 < g5 ∧ b6 < g5 ∧ g5 < g6 ∧ w.heap.size ≤ b5 ∧ w.heap.size ≤ b6 from by
    have z := HO.out; exact ⟨by omega, by omega, by omega, by omega, by omega, by omega, by omega, by omega, by omega, by omega⟩)
  have hlz : fs.length ≤ 9223372036854775807 := by omega
  have hblz : t.back.length ≤ 9223372036854775807 := by omega
  have HSP := Lib.hid (same_true name _ _ fs x0 x1 x2 x3 x4 x5 x6 x7 wc hlz (Row.strs rfl (Nat.le_add_right _ _) HR5.out) (HS.out.below HMD.out.below) hmc)
  clear hb6 hc6 hmc hcc HNS HNC HK hbd HFE HWE HR5E HR6E HSZ HSE HME HO
  obtain ⟨q0, q1, q2, q3, q4, q5, q6, q7, q8, q9, qf⟩ := ten HF.out.p'
  obtain ⟨y0, y1, y2, y3, y4, y5, y6, y7, y8, y9, yf⟩ := ten HF.out.p
  go_wp2_with fail
  refine HSP.out.mono ?_
  rintro e wG ⟨rfl, hIG⟩
  have HFG := Lib.hid (HF.out.low hIG.2); have HMG := Lib.hid (HMD.out.low hIG.2)
  have HR5G := Lib.hid (HR5.out.kept fun k _ hk => hIG.2.block k hk); have HR6G := Lib.hid (HR6.out.kept fun k _ hk => hIG.2.block k hk)
  have HSQ := Lib.hid (sameT_true nm fl t.src t.start t.ack t.wait _ _ t.most t.pend t.push t.back wG hblz (Row.ints (by simp) (Nat.le_add_right _ _) HR6G.out) (HI.out.below HMG.out.below) hIG.1)
  clear hIG HSP HF HMD HR5 HR6 q0 q1 q2 q3 q4 q5 q6 q7 q8 q9 qf y0 y1 y2 y3 y4 y5 y6 y7 y8 y9 yf
  obtain ⟨q0, q1, q2, q3, q4, q5, q6, q7, q8, q9, qf⟩ := ten HFG.out.t'
  obtain ⟨y0, y1, y2, y3, y4, y5, y6, y7, y8, y9, yf⟩ := ten HFG.out.t
  go_wp2_with fail
  refine HSQ.out.mono ?_
  rintro e wH ⟨rfl, hIH⟩
  have HFH := Lib.hid (HFG.out.low hIH.2); have HMH := Lib.hid (HMG.out.low hIH.2)
  have HR5H := Lib.hid (HR5G.out.kept fun k _ hk => hIH.2.block k hk); have HR6H := Lib.hid (HR6G.out.kept fun k _ hk => hIH.2.block k hk)
  have HKS := Lib.hid (kept_str (strsV_len fs) hl ⟨#[113]⟩ HR5H.out)
  clear hIH HSQ HFG HMG HR5G HR6G q0 q1 q2 q3 q4 q5 q6 q7 q8 q9 qf y0 y1 y2 y3 y4 y5 y6 y7 y8 y9 yf
  obtain ⟨q0, q1, q2, q3, q4, q5, q6, q7, q8, q9, qf⟩ := ten HFH.out.p'
  go_wp2_with fail
  refine HKS.out.mono ?_
  rintro e wI ⟨rfl, hbI⟩
  have HFI := Lib.hid (HFH.out.low hbI); have HMI := Lib.hid (HMH.out.low hbI)
  have HR5I := Lib.hid (HR5H.out.kept fun k _ hk => hbI.block k hk); have HR6I := Lib.hid (HR6H.out.kept fun k _ hk => hbI.block k hk)
  have HKT := Lib.hid (kept_int (show (t.back.map (Value.int .i64)).length = t.back.length by simp) hbl 77 HR6I.out)
  clear hbI HKS HFH HMH HR5H HR6H q0 q1 q2 q3 q4 q5 q6 q7 q8 q9 qf
  obtain ⟨q0, q1, q2, q3, q4, q5, q6, q7, q8, q9, qf⟩ := ten HFI.out.t'
  go_wp2_with fail
  refine HKT.out.mono ?_
  rintro e wJ ⟨rfl, hbJ⟩
  have HFJ := Lib.hid (HFI.out.low hbJ); have HMJ := Lib.hid (HMI.out.low hbJ)
  have HR6J := Lib.hid (HR6I.out.kept fun k _ hk => hbJ.block k hk)
  have HSPL := Lib.hid (spoil_str ((HR5I.out.kept fun k _ hk => hbJ.block k hk : Row wJ _ _ _ _ _).front fs.length (Nat.le_add_right _ _)) ⟨#[62]⟩)
  clear hbJ HKT HFI HMI HR5I HR6I q0 q1 q2 q3 q4 q5 q6 q7 q8 q9 qf
  obtain ⟨q0, q1, q2, q3, q4, q5, q6, q7, q8, q9, qf⟩ := ten HFJ.out.p'
  go_wp2_with fail
  refine HSPL.out.mono ?_
  rintro e wL ⟨rfl, htL⟩
  have ho5 : ∀ k, own (.slice (some ⟨g5, o5, none⟩) fs.length c5) k → k = g5 := fun k hk => by simp [own, Value.ownBlock] at hk; exact hk.symm
  have HML := Lib.hid (HMJ.out.touch htL (fun k hk => by have := ho5 k hk; have := HQ.out; omega) (fun hk => by have := ho5 _ hk; have := HQ.out; omega) (fun hk => by have := ho5 _ hk; have := HQ.out; omega) (fun k hk hk2 => by have := ho5 k hk2; have := HQ.out; omega))
  have HFL6 := Lib.hid ((htL.block b6 (heap_lt HFJ.out.t') (fun hk => by have := ho5 _ hk; have := HQ.out; omega)).trans HFJ.out.t')
  have HSPI := Lib.hid (spoil_int ((HR6J.out.kept fun k hk hk2 => htL.block k hk2 (fun e => by have := ho5 _ e; have := HQ.out; simp [own, Value.ownBlock] at hk; omega) : Row wL _ _ _ _ _).front t.back.length (Nat.le_add_right _ _)) 1)
  clear htL ho5 HSPL HFJ HMJ HR6J q0 q1 q2 q3 q4 q5 q6 q7 q8 q9 qf
  obtain ⟨q0, q1, q2, q3, q4, q5, q6, q7, q8, q9, qf⟩ := ten HFL6.out
  go_wp2_with fail
  refine HSPI.out.mono ?_
  rintro e wM ⟨rfl, htM⟩
  have ho6 : ∀ k, own (.slice (some ⟨g6, o6, none⟩) t.back.length c6) k → k = g6 := fun k hk => by simp [own, Value.ownBlock] at hk; exact hk.symm
  have HM := Lib.hid (HML.out.touch htM (fun k hk => by have := ho6 k hk; have := HQ.out; omega) (fun hk => by have := ho6 _ hk; have := HQ.out; omega) (fun hk => by have := ho6 _ hk; have := HQ.out; omega) (fun k hk hk2 => by have := ho6 k hk2; omega))
  clear htM ho6 HSPI HFL6 HML q0 q1 q2 q3 q4 q5 q6 q7 q8 q9 qf
  by_cases h1 : er1 = 0
  · subst h1
    obtain ⟨K1, v1', e1, hst, hL1, hLv⟩ := HM.out.strm rfl
    subst e1
    have HPL := Lib.hid (plan_strm hl hst)
    have HS0 := Lib.hid hst
    clear hst hL1 hLv
    go_wp2_with fail
    refine HPL.out.mono ?_
    rintro e wN ⟨vN, rfl, hrN, hoN, hbN⟩
    obtain ⟨aN, nN, rfl⟩ := hrN.slice
    obtain ⟨wO, hwO⟩ : ∃ wO, wO = wN.alloc (.cells #[.string name, .slice aN fs.length nN, .int .i64 x0, .int .i64 x1, .int .i64 x2, .int .i64 x3, .int .i64 x4, .int .i64 x5, .int .i64 x6, .int .i64 x7] 62) := ⟨_, rfl⟩
    have hbO : Below wN.heap.size wN wO := by rw [hwO]; exact (Below.refl _ _).alloc (Nat.le_refl _) _
    have heO : wO.heap[wN.heap.size]? = some (.cells #[.string name, .slice aN fs.length nN, .int .i64 x0, .int .i64 x1, .int .i64 x2, .int .i64 x3, .int .i64 x4, .int .i64 x5, .int .i64 x6, .int .i64 x7] 62 (0, 0)) := by rw [hwO]; exact heap_alloc_new wN _
    obtain ⟨b11, hb11⟩ : ∃ b11, wN.heap.size = b11 := ⟨_, rfl⟩
    rw [hb11] at heO
    have hbMO := hbN.trans (hbO.mono hbN.size)
    have HRO := Lib.hid (hrN.kept (w' := wO) fun k _ hk => hbO.block k hk)
    have HBMO := Lib.hid hbMO; have HEO := Lib.hid heO; have HB11 := Lib.hid hb11
    have HON := Lib.hid (show (∀ k, own (.slice aN fs.length nN) k → wM.heap.size ≤ k ∧ k < b11) ∧ wM.heap.size ≤ b11 from ⟨fun k hk => ⟨hoN k hk, by rw [← hb11]; exact hrN.lt k hk⟩, by rw [← hb11]; exact hbN.size⟩)
    have HMO := Lib.hid (HM.out.low hbMO)
    have HSP := Lib.hid (same_true name _ _ fs x0 x1 x2 x3 x4 x5 x6 x7 wO hlz (Row.toStrs HRO.out) (HS.out.below HMO.out.below) (HML0.out.below HMO.out.below))
    clear hrN hoN hbN hbO heO hb11 hbMO HPL
    unfold planCells
    go_upto_region 13 with fail
    rw [← hwO, HB11.out]
    clear hwO
    obtain ⟨q0, q1, q2, q3, q4, q5, q6, q7, q8, q9, qf⟩ := ten HEO.out
    obtain ⟨y0, y1, y2, y3, y4, y5, y6, y7, y8, y9, yf⟩ := ten HMO.out.p
    go_wp2_with fail
    refine HSP.out.mono ?_
    rintro e wP ⟨rfl, hIP⟩
    have HEP := Lib.hid ((hIP.2.block b11 (heap_lt HEO.out)).trans HEO.out)
    have HBMP := Lib.hid (HBMO.out.trans (hIP.2.mono HBMO.out.size))
    have HSPL := Lib.hid (spoil_str (HRO.out.kept (w' := wP) fun k _ hk => hIP.2.block k hk) ⟨#[122]⟩)
    clear hIP HSP HRO HEO HMO HBMO q0 q1 q2 q3 q4 q5 q6 q7 q8 q9 qf y0 y1 y2 y3 y4 y5 y6 y7 y8 y9 yf
    obtain ⟨q0, q1, q2, q3, q4, q5, q6, q7, q8, q9, qf⟩ := ten HEP.out
    go_wp2_with fail
    refine HSPL.out.mono ?_
    rintro e wQ ⟨rfl, htQ⟩
    have hbMQ : Below wM.heap.size wM wQ := HBMP.out.trans (htQ.below HBMP.out.size fun k hk => (HON.out.1 k hk).1)
    have HMQ := Lib.hid (HM.out.low hbMQ)
    have HSQ := Lib.hid (HS0.out.touch (Heap.Touch.ofBelow (F := fun _ => False) hbMQ) id (fun _ _ => id))
    have HPQ := Lib.hid (show ∀ w', Below wQ.heap.size wQ w' → _ from fun w' hb => plan_strm (w := w') hl (HSQ.out.touch (Heap.Touch.ofBelow (F := fun _ => False) hb) id (fun _ _ => id)))
    unfold PlanPost planCells at HPQ
    have HSA := Lib.hid (show ∀ (w' : World) (v : Value), Below wQ.heap.size wQ w' → Row w' 9 1 v fs.length (strsV fs) → _ from fun w' v hb hr => same_true name v _ fs x0 x1 x2 x3 x4 x5 x6 x7 w' hlz (Row.toStrs hr) ((HS.out.below HMQ.out.below).below hb) ((HML0.out.below HMQ.out.below).below hb))
    have HK := Lib.hid (show ∀ w', Below wQ.heap.size wQ w' → w'.cell? ⟨b2, 0, none⟩ = some (.string name) ∧ w'.cell? ⟨b2, 1, none⟩ = some (.slice ao fs.length cap) ∧ w'.cell? ⟨b2, 2, none⟩ = some (.int .i64 x0) ∧ w'.cell? ⟨b2, 3, none⟩ = some (.int .i64 x1) ∧ w'.cell? ⟨b2, 4, none⟩ = some (.int .i64 x2) ∧ w'.cell? ⟨b2, 5, none⟩ = some (.int .i64 x3) ∧ w'.cell? ⟨b2, 6, none⟩ = some (.int .i64 x4) ∧ w'.cell? ⟨b2, 7, none⟩ = some (.int .i64 x5) ∧ w'.cell? ⟨b2, 8, none⟩ = some (.int .i64 x6) ∧ w'.cell? ⟨b2, 9, none⟩ = some (.int .i64 x7) from fun w' hb => by
      obtain ⟨h0, h1, h2, h3, h4, h5, h6, h7, h8, h9, _⟩ := ten (HMQ.out.low hb).p
      exact ⟨h0, h1, h2, h3, h4, h5, h6, h7, h8, h9⟩)
    have hbd : Below wQ.heap.size wQ wQ.drew := (Below.refl _ _).drew
    clear htQ hbMQ HSPL HBMP HEP HON HB11 HM HS0 q0 q1 q2 q3 q4 q5 q6 q7 q8 q9 qf
    go_upto_region 16 with fail
    go_cut [85] from 81 to 85 (fun s85 wx => s85 = .bool false ∧ Hid (Below wQ.heap.size wQ wx))
    case first =>
      go_region_held3 (fun w' => w'.cell? ⟨b2, 0, none⟩ = some (.string name) ∧ w'.cell? ⟨b2, 1, none⟩ = some (.slice ao fs.length cap) ∧ w'.cell? ⟨b2, 2, none⟩ = some (.int .i64 x0) ∧ w'.cell? ⟨b2, 3, none⟩ = some (.int .i64 x1) ∧ w'.cell? ⟨b2, 4, none⟩ = some (.int .i64 x2) ∧ w'.cell? ⟨b2, 5, none⟩ = some (.int .i64 x3) ∧ w'.cell? ⟨b2, 6, none⟩ = some (.int .i64 x4) ∧ w'.cell? ⟨b2, 7, none⟩ = some (.int .i64 x5) ∧ w'.cell? ⟨b2, 8, none⟩ = some (.int .i64 x6) ∧ w'.cell? ⟨b2, 9, none⟩ = some (.int .i64 x7)) (first | (with_reducible exact HK.out _ hbd) | (with_reducible exact HK.out _ (Below.refl _ _)) | (with_reducible exact HK.out _ (by assumption)) | go_keep)
        (first
          | (go_at_call 31; ((refine (HPQ.out _ (by first | assumption | exact Below.refl _ _)).mono ?_); rintro e wA ⟨vA, rfl, hrA, _, hbA⟩; have hbA2 := hbd.trans (hbA.mono hbd.size)))
          | (go_at_call 35; ((refine (HSA.out _ _ hbA2 hrA).mono ?_); rintro e wB ⟨rfl, hIB⟩; have hbB2 := hbA2.trans (hIB.2.mono hbA2.size))))
      all_goals
        go_wp2_with fail
        go_meet
        exact ⟨by simp, Lib.hid hbB2⟩
    case rest =>
    obtain ⟨rfl, hbR⟩ := hcut
    have HM := Lib.hid (HMQ.out.low hbR.out)
    clear hbR HMQ HSQ HPQ HSA HK hbd
    by_cases h2 : er2 = 0
    · subst h2
      obtain ⟨K2, vb', cc, e2, hc, hL2, hLv2⟩ := HM.out.cons rfl
      subst e2
      have HTK := Lib.hid (taker_of hbl hc)
      have HC0 := Lib.hid hc; have HLV := Lib.hid (And.intro hL2 hLv2)
      obtain ⟨wm, hwm⟩ : ∃ wm, wm = wc := ⟨_, rfl⟩
      clear hc hL2 hLv2 hwm
      unfold TakerPost takerV at HTK
      rw [HNM.out, HFL.out] at HTK
      go_wp2_with fail
      refine HTK.out.mono ?_
      rintro e wN2 ⟨vN2, rfl, hrN2, hoN2, hbN2⟩
      obtain ⟨aN2, nN2, rfl⟩ := hrN2.slice
      obtain ⟨wO2, hwO2⟩ : ∃ wO2, wO2 = wN2.alloc (.cells #[.string nm, .string fl, .int .i64 t.src, .int .i64 t.start, .int .i64 t.ack, .int .i64 t.wait, .slice aN2 t.back.length nN2, .int .i64 t.most, .int .i64 t.pend, .bool t.push] 24) := ⟨_, rfl⟩
      have hbO2 : Below wN2.heap.size wN2 wO2 := by rw [hwO2]; exact (Below.refl _ _).alloc (Nat.le_refl _) _
      have heO2 : wO2.heap[wN2.heap.size]? = some (.cells #[.string nm, .string fl, .int .i64 t.src, .int .i64 t.start, .int .i64 t.ack, .int .i64 t.wait, .slice aN2 t.back.length nN2, .int .i64 t.most, .int .i64 t.pend, .bool t.push] 24 (0, 0)) := by rw [hwO2]; exact heap_alloc_new wN2 _
      obtain ⟨b12, hb12⟩ : ∃ b12, wN2.heap.size = b12 := ⟨_, rfl⟩
      rw [hb12] at heO2
      have hbMO2 := hbN2.trans (hbO2.mono hbN2.size)
      have HRO2 := Lib.hid (hrN2.kept (w' := wO2) fun k _ hk => hbO2.block k hk)
      have HBMO2 := Lib.hid hbMO2; have HEO2 := Lib.hid heO2; have HB12 := Lib.hid hb12
      have HON2 := Lib.hid (show (∀ k, own (.slice aN2 t.back.length nN2) k → (wc).heap.size ≤ k ∧ k < b12) ∧ (wc).heap.size ≤ b12 from ⟨fun k hk => ⟨hoN2 k hk, by rw [← hb12]; exact hrN2.lt k hk⟩, by rw [← hb12]; exact hbN2.size⟩)
      have HMO2 := Lib.hid (HM.out.low hbMO2)
      have HSP2 := Lib.hid (sameT_true nm fl t.src t.start t.ack t.wait _ _ t.most t.pend t.push t.back wO2 hblz (Row.toInts HRO2.out) (HI.out.below HMO2.out.below) (HML0.out.below HMO2.out.below))
      clear hrN2 hoN2 hbN2 hbO2 heO2 hb12 hbMO2 HTK
      go_upto_region 20 with fail
      rw [← hwO2, HB12.out]
      clear hwO2
      obtain ⟨q0, q1, q2, q3, q4, q5, q6, q7, q8, q9, qf⟩ := ten HEO2.out
      obtain ⟨y0, y1, y2, y3, y4, y5, y6, y7, y8, y9, yf⟩ := ten HMO2.out.tk
      go_wp2_with fail
      refine HSP2.out.mono ?_
      rintro e wP2 ⟨rfl, hIP2⟩
      have HEP2 := Lib.hid ((hIP2.2.block b12 (heap_lt HEO2.out)).trans HEO2.out)
      have HBMP2 := Lib.hid (HBMO2.out.trans (hIP2.2.mono HBMO2.out.size))
      have HSPL2 := Lib.hid (spoil_int (HRO2.out.kept (w' := wP2) fun k _ hk => hIP2.2.block k hk) 3)
      clear hIP2 HSP2 HRO2 HEO2 HMO2 HBMO2 q0 q1 q2 q3 q4 q5 q6 q7 q8 q9 qf y0 y1 y2 y3 y4 y5 y6 y7 y8 y9 yf
      obtain ⟨q0, q1, q2, q3, q4, q5, q6, q7, q8, q9, qf⟩ := ten HEP2.out
      go_wp2_with fail
      refine HSPL2.out.mono ?_
      rintro e wQ2 ⟨rfl, htQ2⟩
      have hbMQ2 : Below (wc).heap.size (wc) wQ2 := HBMP2.out.trans (htQ2.below HBMP2.out.size fun k hk => (HON2.out.1 k hk).1)
      have HMQ2 := Lib.hid (HM.out.low hbMQ2)
      have HCQ := Lib.hid (HC0.out.next hbMQ2)
      have HPQ2 := Lib.hid (show ∀ w', Below wQ2.heap.size wQ2 w' → _ from fun w' hb => taker_of (w := w') hbl (HCQ.out.next hb))
      unfold TakerPost takerV at HPQ2
      rw [HNM.out, HFL.out] at HPQ2
      have HSA2 := Lib.hid (show ∀ (w' : World) (v : Value), Below wQ2.heap.size wQ2 w' → Row w' 3 1 v t.back.length (t.back.map (Value.int .i64)) → _ from fun w' v hb hr => sameT_true nm fl t.src t.start t.ack t.wait v _ t.most t.pend t.push t.back w' hblz (Row.toInts hr) ((HI.out.below HMQ2.out.below).below hb) ((HML0.out.below HMQ2.out.below).below hb))
      have HK2 := Lib.hid (show ∀ w', Below wQ2.heap.size wQ2 w' → w'.cell? ⟨b3, 0, none⟩ = some (.string nm) ∧ w'.cell? ⟨b3, 1, none⟩ = some (.string fl) ∧ w'.cell? ⟨b3, 2, none⟩ = some (.int .i64 t.src) ∧ w'.cell? ⟨b3, 3, none⟩ = some (.int .i64 t.start) ∧ w'.cell? ⟨b3, 4, none⟩ = some (.int .i64 t.ack) ∧ w'.cell? ⟨b3, 5, none⟩ = some (.int .i64 t.wait) ∧ w'.cell? ⟨b3, 6, none⟩ = some (.slice bo t.back.length cb) ∧ w'.cell? ⟨b3, 7, none⟩ = some (.int .i64 t.most) ∧ w'.cell? ⟨b3, 8, none⟩ = some (.int .i64 t.pend) ∧ w'.cell? ⟨b3, 9, none⟩ = some (.bool t.push) from fun w' hb => by
        obtain ⟨h0, h1, h2, h3, h4, h5, h6, h7, h8, h9, _⟩ := ten (HMQ2.out.low hb).tk
        exact ⟨h0, h1, h2, h3, h4, h5, h6, h7, h8, h9⟩)
      have hbd2 : Below wQ2.heap.size wQ2 wQ2.drew := (Below.refl _ _).drew
      clear htQ2 hbMQ2 HSPL2 HBMP2 HEP2 HON2 HB12 HM HC0 HLV q0 q1 q2 q3 q4 q5 q6 q7 q8 q9 qf
      go_upto_region 23 with fail
      go_region_held3 (fun w' => w'.cell? ⟨b3, 0, none⟩ = some (.string nm) ∧ w'.cell? ⟨b3, 1, none⟩ = some (.string fl) ∧ w'.cell? ⟨b3, 2, none⟩ = some (.int .i64 t.src) ∧ w'.cell? ⟨b3, 3, none⟩ = some (.int .i64 t.start) ∧ w'.cell? ⟨b3, 4, none⟩ = some (.int .i64 t.ack) ∧ w'.cell? ⟨b3, 5, none⟩ = some (.int .i64 t.wait) ∧ w'.cell? ⟨b3, 6, none⟩ = some (.slice bo t.back.length cb) ∧ w'.cell? ⟨b3, 7, none⟩ = some (.int .i64 t.most) ∧ w'.cell? ⟨b3, 8, none⟩ = some (.int .i64 t.pend) ∧ w'.cell? ⟨b3, 9, none⟩ = some (.bool t.push)) (first | (with_reducible exact HK2.out _ hbd2) | (with_reducible exact HK2.out _ (Below.refl _ _)) | (with_reducible exact HK2.out _ (by assumption)) | go_keep)
        (first
          | (go_at_call 29; ((refine (HPQ2.out _ (by first | assumption | exact Below.refl _ _)).mono ?_); rintro e wA ⟨vA, rfl, hrA, _, hbA⟩; have hbA2 := hbd2.trans (hbA.mono hbd2.size)))
          | (go_at_call 28; ((refine (HSA2.out _ _ hbA2 hrA).mono ?_); rintro e wB ⟨rfl, hIB⟩; have hbB2 := hbA2.trans (hIB.2.mono hbA2.size))))
      all_goals
        go_wp2_with fail
        go_ret
        exact ⟨rfl, (HMQ2.out.low hbB2).below⟩
    · have h2z : ((er2 : Int) == 0) = false := by simpa using h2
      go_wp2_with fail
      go_ret
      exact ⟨rfl, HM.out.below⟩
  · have h1z : ((er1 : Int) == 0) = false := by simpa using h1
    by_cases h2 : er2 = 0
    · subst h2
      obtain ⟨K2, vb', cc, e2, hc, hL2, hLv2⟩ := HM.out.cons rfl
      subst e2
      have HTK := Lib.hid (taker_of hbl hc)
      have HC0 := Lib.hid hc; have HLV := Lib.hid (And.intro hL2 hLv2)
      obtain ⟨wm, hwm⟩ : ∃ wm, wm = wM := ⟨_, rfl⟩
      clear hc hL2 hLv2 hwm
      unfold TakerPost takerV at HTK
      rw [HNM.out, HFL.out] at HTK
      go_wp2_with fail
      refine HTK.out.mono ?_
      rintro e wN2 ⟨vN2, rfl, hrN2, hoN2, hbN2⟩
      obtain ⟨aN2, nN2, rfl⟩ := hrN2.slice
      obtain ⟨wO2, hwO2⟩ : ∃ wO2, wO2 = wN2.alloc (.cells #[.string nm, .string fl, .int .i64 t.src, .int .i64 t.start, .int .i64 t.ack, .int .i64 t.wait, .slice aN2 t.back.length nN2, .int .i64 t.most, .int .i64 t.pend, .bool t.push] 24) := ⟨_, rfl⟩
      have hbO2 : Below wN2.heap.size wN2 wO2 := by rw [hwO2]; exact (Below.refl _ _).alloc (Nat.le_refl _) _
      have heO2 : wO2.heap[wN2.heap.size]? = some (.cells #[.string nm, .string fl, .int .i64 t.src, .int .i64 t.start, .int .i64 t.ack, .int .i64 t.wait, .slice aN2 t.back.length nN2, .int .i64 t.most, .int .i64 t.pend, .bool t.push] 24 (0, 0)) := by rw [hwO2]; exact heap_alloc_new wN2 _
      obtain ⟨b12, hb12⟩ : ∃ b12, wN2.heap.size = b12 := ⟨_, rfl⟩
      rw [hb12] at heO2
      have hbMO2 := hbN2.trans (hbO2.mono hbN2.size)
      have HRO2 := Lib.hid (hrN2.kept (w' := wO2) fun k _ hk => hbO2.block k hk)
      have HBMO2 := Lib.hid hbMO2; have HEO2 := Lib.hid heO2; have HB12 := Lib.hid hb12
      have HON2 := Lib.hid (show (∀ k, own (.slice aN2 t.back.length nN2) k → (wM).heap.size ≤ k ∧ k < b12) ∧ (wM).heap.size ≤ b12 from ⟨fun k hk => ⟨hoN2 k hk, by rw [← hb12]; exact hrN2.lt k hk⟩, by rw [← hb12]; exact hbN2.size⟩)
      have HMO2 := Lib.hid (HM.out.low hbMO2)
      have HSP2 := Lib.hid (sameT_true nm fl t.src t.start t.ack t.wait _ _ t.most t.pend t.push t.back wO2 hblz (Row.toInts HRO2.out) (HI.out.below HMO2.out.below) (HML0.out.below HMO2.out.below))
      clear hrN2 hoN2 hbN2 hbO2 heO2 hb12 hbMO2 HTK
      go_upto_region 20 with fail
      rw [← hwO2, HB12.out]
      clear hwO2
      obtain ⟨q0, q1, q2, q3, q4, q5, q6, q7, q8, q9, qf⟩ := ten HEO2.out
      obtain ⟨y0, y1, y2, y3, y4, y5, y6, y7, y8, y9, yf⟩ := ten HMO2.out.tk
      go_wp2_with fail
      refine HSP2.out.mono ?_
      rintro e wP2 ⟨rfl, hIP2⟩
      have HEP2 := Lib.hid ((hIP2.2.block b12 (heap_lt HEO2.out)).trans HEO2.out)
      have HBMP2 := Lib.hid (HBMO2.out.trans (hIP2.2.mono HBMO2.out.size))
      have HSPL2 := Lib.hid (spoil_int (HRO2.out.kept (w' := wP2) fun k _ hk => hIP2.2.block k hk) 3)
      clear hIP2 HSP2 HRO2 HEO2 HMO2 HBMO2 q0 q1 q2 q3 q4 q5 q6 q7 q8 q9 qf y0 y1 y2 y3 y4 y5 y6 y7 y8 y9 yf
      obtain ⟨q0, q1, q2, q3, q4, q5, q6, q7, q8, q9, qf⟩ := ten HEP2.out
      go_wp2_with fail
      refine HSPL2.out.mono ?_
      rintro e wQ2 ⟨rfl, htQ2⟩
      have hbMQ2 : Below (wM).heap.size (wM) wQ2 := HBMP2.out.trans (htQ2.below HBMP2.out.size fun k hk => (HON2.out.1 k hk).1)
      have HMQ2 := Lib.hid (HM.out.low hbMQ2)
      have HCQ := Lib.hid (HC0.out.next hbMQ2)
      have HPQ2 := Lib.hid (show ∀ w', Below wQ2.heap.size wQ2 w' → _ from fun w' hb => taker_of (w := w') hbl (HCQ.out.next hb))
      unfold TakerPost takerV at HPQ2
      rw [HNM.out, HFL.out] at HPQ2
      have HSA2 := Lib.hid (show ∀ (w' : World) (v : Value), Below wQ2.heap.size wQ2 w' → Row w' 3 1 v t.back.length (t.back.map (Value.int .i64)) → _ from fun w' v hb hr => sameT_true nm fl t.src t.start t.ack t.wait v _ t.most t.pend t.push t.back w' hblz (Row.toInts hr) ((HI.out.below HMQ2.out.below).below hb) ((HML0.out.below HMQ2.out.below).below hb))
      have HK2 := Lib.hid (show ∀ w', Below wQ2.heap.size wQ2 w' → w'.cell? ⟨b3, 0, none⟩ = some (.string nm) ∧ w'.cell? ⟨b3, 1, none⟩ = some (.string fl) ∧ w'.cell? ⟨b3, 2, none⟩ = some (.int .i64 t.src) ∧ w'.cell? ⟨b3, 3, none⟩ = some (.int .i64 t.start) ∧ w'.cell? ⟨b3, 4, none⟩ = some (.int .i64 t.ack) ∧ w'.cell? ⟨b3, 5, none⟩ = some (.int .i64 t.wait) ∧ w'.cell? ⟨b3, 6, none⟩ = some (.slice bo t.back.length cb) ∧ w'.cell? ⟨b3, 7, none⟩ = some (.int .i64 t.most) ∧ w'.cell? ⟨b3, 8, none⟩ = some (.int .i64 t.pend) ∧ w'.cell? ⟨b3, 9, none⟩ = some (.bool t.push) from fun w' hb => by
        obtain ⟨h0, h1, h2, h3, h4, h5, h6, h7, h8, h9, _⟩ := ten (HMQ2.out.low hb).tk
        exact ⟨h0, h1, h2, h3, h4, h5, h6, h7, h8, h9⟩)
      have hbd2 : Below wQ2.heap.size wQ2 wQ2.drew := (Below.refl _ _).drew
      clear htQ2 hbMQ2 HSPL2 HBMP2 HEP2 HON2 HB12 HM HC0 HLV q0 q1 q2 q3 q4 q5 q6 q7 q8 q9 qf
      go_upto_region 23 with fail
      go_region_held3 (fun w' => w'.cell? ⟨b3, 0, none⟩ = some (.string nm) ∧ w'.cell? ⟨b3, 1, none⟩ = some (.string fl) ∧ w'.cell? ⟨b3, 2, none⟩ = some (.int .i64 t.src) ∧ w'.cell? ⟨b3, 3, none⟩ = some (.int .i64 t.start) ∧ w'.cell? ⟨b3, 4, none⟩ = some (.int .i64 t.ack) ∧ w'.cell? ⟨b3, 5, none⟩ = some (.int .i64 t.wait) ∧ w'.cell? ⟨b3, 6, none⟩ = some (.slice bo t.back.length cb) ∧ w'.cell? ⟨b3, 7, none⟩ = some (.int .i64 t.most) ∧ w'.cell? ⟨b3, 8, none⟩ = some (.int .i64 t.pend) ∧ w'.cell? ⟨b3, 9, none⟩ = some (.bool t.push)) (first | (with_reducible exact HK2.out _ hbd2) | (with_reducible exact HK2.out _ (Below.refl _ _)) | (with_reducible exact HK2.out _ (by assumption)) | go_keep)
        (first
          | (go_at_call 29; ((refine (HPQ2.out _ (by first | assumption | exact Below.refl _ _)).mono ?_); rintro e wA ⟨vA, rfl, hrA, _, hbA⟩; have hbA2 := hbd2.trans (hbA.mono hbd2.size)))
          | (go_at_call 28; ((refine (HSA2.out _ _ hbA2 hrA).mono ?_); rintro e wB ⟨rfl, hIB⟩; have hbB2 := hbA2.trans (hIB.2.mono hbA2.size))))
      all_goals
        go_wp2_with fail
        go_ret
        exact ⟨rfl, (HMQ2.out.low hbB2).below⟩
    · have h2z : ((er2 : Int) == 0) = false := by simpa using h2
      go_wp2_with fail
      go_ret
      exact ⟨rfl, HM.out.below⟩
end
end Go.Proofs.YtbgchhgdlceceaaGreatDoor.Own
