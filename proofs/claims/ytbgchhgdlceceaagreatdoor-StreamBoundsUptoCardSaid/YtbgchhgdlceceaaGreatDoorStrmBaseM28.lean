/- Parts of the proof, joined: A consumer in memory: the program's, or the reference's; the wait of a plan.; spoil: a list is overwritten, with the room behind it. gen_spoil.py writes this text.; roomy, kept, spoil at texts and numbers. gen_roomy.py writes this text.; Messages that are still to come: one after another. No program here.; How many messages are still to come; a delivery that is told: (*Consumer).left, (*Consumer).told, walked.; consumer.New, walked.; stream.New, (*Stream).Plan, (*Consumer).Taker, walked: what they hold is a copy.; A stream in memory: its plan, its vault, its ids, each of blocks of its own. -/
import Derived.Test.YtbgchhgdlceceaaGreatDoorStrmBaseM27
namespace Go.Proofs.YtbgchhgdlceceaaGreatDoor.Con
open Go.RowKit Heap
open Subj (Tok TakerP Ints)

def pdC (p : Pd) : List Value := [.int .i64 p.seq, .int .i64 p.nth, .int .i64 p.due]
def pdsV (l : List Pd) : List Value := l.flatMap pdC

section
variable {e : TypeId} {w : World} {g off n cap : Nat} {l : List Pd}

end

def conC (t : TakerP) (vb v : Value) (c : Cn) : Array Value :=
  #[.string ⟨t.name.toArray⟩, .string ⟨t.filt.toArray⟩, .int .i64 t.src, .int .i64 t.start, .int .i64 t.ack, .int .i64 t.wait, vb, .int .i64 t.most, .int .i64 t.pend, .bool t.push, .int .i64 c.place, .int .i64 c.count, v]

/-- A consumer at K: of type tc, its deliveries of type tp. -/
structure CAt (tc tp : TypeId) (W : World) (K : Nat) (t : TakerP) (vb v : Value) (c : Cn) (w : World) : Prop where
  cell : w.heap[K]? = some (.cells (conC t vb v c) tc (0, 0))
  row : Row w tp 3 v c.l.length (pdsV c.l)
  back : Ints w vb t.back
  old : W.heap.size ≤ K
  mine : ∀ k, own v k → W.heap.size ≤ k ∧ k ≠ K
  fb : ∀ k, own vb k → k < w.heap.size ∧ k ≠ K ∧ ¬ own v k
  below : Below W.heap.size W w

/-- A consumer that has come of another one. -/
def NextC (tc tp : TypeId) (W : World) (K : Nat) (t : TakerP) (vb v : Value) (w : World) (c' : Cn) (w' : World) : Prop :=
  ∃ v', CAt tc tp W K t vb v' c' w' ∧ Heap.Touch (fun k => k = K ∨ own v k) w w' ∧ ∀ k, own v' k → own v k ∨ w.heap.size ≤ k

theorem Ints.touch {F : Nat → Prop} {w w' : World} {v : Value} {zs : List Int} (h : Ints w v zs) (ht : Heap.Touch F w w') (hn : ∀ k, own v k → ¬ F k) : Ints w' v zs := by
  obtain ⟨ao, cap, rfl, hc, hat⟩ := h
  refine ⟨ao, cap, rfl, hc, fun hne => ?_⟩
  obtain ⟨g, off, rfl, h2⟩ := hat hne
  refine ⟨g, off, rfl, fun k hk => ?_⟩
  have h3 := h2 k hk
  exact (World.cell?_of_block (a := ⟨g, off + k, none⟩) (ht.block g (World.block_lt_of_cell? w _ h3) (hn g (by simp [own, Value.ownBlock])))).trans h3

section
variable {tc tp : TypeId} {W w w1 : World} {K : Nat} {t : TakerP} {vb v v2 : Value} {c c2 : Cn}

theorem CAt.touch {F : Nat → Prop} (h : CAt tc tp W K t vb v c w) (ht : Heap.Touch F w w1) (hF : ∀ k, F k → W.heap.size ≤ k) (fK : ¬ F K) (fv : ∀ k, own v k → ¬ F k) (fb : ∀ k, own vb k → ¬ F k) : CAt tc tp W K t vb v c w1 :=
  ⟨(ht.block K (heap_lt h.cell) fK).trans h.cell, h.row.kept fun k hk hlt => ht.block k hlt (fv k hk), Ints.touch h.back ht fb, h.old, h.mine, fun k hk => ⟨Nat.lt_of_lt_of_le (h.fb k hk).1 ht.size, (h.fb k hk).2⟩, h.below.trans (ht.below h.below.size hF)⟩

theorem CAt.next (h : CAt tc tp W K t vb v c w) (hb : Below w.heap.size w w1) : CAt tc tp W K t vb v c w1 :=
  ⟨(hb.block K (heap_lt h.cell)).trans h.cell, h.row.kept fun k _ hk => hb.block k hk, h.back.below hb, h.old, h.mine, fun k hk => ⟨Nat.lt_of_lt_of_le (h.fb k hk).1 hb.size, (h.fb k hk).2⟩, h.below.trans (hb.mono h.below.size)⟩

theorem NextC.same (h : CAt tc tp W K t vb v c w) (hb : Below w.heap.size w w1) : NextC tc tp W K t vb v w c w1 := ⟨v, h.next hb, Heap.Touch.ofBelow hb, fun _ hk => .inl hk⟩

theorem touch_K (w : World) (K j : Nat) (u : Value) : Heap.Touch (fun k => k = K) w (w.setCell ⟨K, j, none⟩ u) := Heap.Touch.setCell (F := fun k => k = K) (p := ⟨K, j, none⟩) (Heap.Touch.refl _ w) (.inl rfl) _

/-- Its cells are written anew, its list lies elsewhere or is another one. -/
theorem CAt.put (h : CAt tc tp W K t vb v c w) (ht : Heap.Touch (fun k => k = K ∨ own v k) w w1) (hc : w1.heap[K]? = some (.cells (conC t vb v2 c2) tc (0, 0))) (hr : Row w1 tp 3 v2 c2.l.length (pdsV c2.l)) (ho : ∀ k, own v2 k → (own v k ∨ w.heap.size ≤ k)) (hK : ∀ k, own v2 k → k ≠ K) :
    CAt tc tp W K t vb v2 c2 w1 := by
  have hF : ∀ k, (k = K ∨ own v k) → W.heap.size ≤ k := fun k hk => by
    rcases hk with rfl | hk
    · exact h.old
    · exact (h.mine k hk).1
  refine ⟨hc, hr, Ints.touch h.back ht fun k hk hn => ?_, h.old, fun k hk => ⟨?_, hK k hk⟩, fun k hk => ⟨Nat.lt_of_lt_of_le (h.fb k hk).1 ht.size, (h.fb k hk).2.1, fun hn => ?_⟩, h.below.trans (ht.below h.below.size hF)⟩
  · rcases hn with rfl | hn
    · exact (h.fb k hk).2.1 rfl
    · exact (h.fb k hk).2.2 hn
  · rcases ho k hk with e | e
    · exact (h.mine k e).1
    · exact Nat.le_trans h.below.size e
  · rcases ho k hn with e | e
    · exact (h.fb k hk).2.2 e
    · have := (h.fb k hk).1; omega

theorem CAt.ne (h : CAt tc tp W K t vb v c w) : ∀ k, own v k → k ≠ K := fun k hk => (h.mine k hk).2

theorem NextC.after {c1 c2 : Cn} {w2 : World} (h : NextC tc tp W K t vb v w c1 w1) (hn : ∀ v1, CAt tc tp W K t vb v1 c1 w1 → NextC tc tp W K t vb v1 w1 c2 w2) : NextC tc tp W K t vb v w c2 w2 := by
  obtain ⟨v1, h1, t1, o1⟩ := h
  obtain ⟨v2, h2, t2, o2⟩ := hn v1 h1
  refine ⟨v2, h2, t1.trans t2 (fun k hk e => ?_), fun k hk => ?_⟩
  · rcases e with e | e
    · exact .inl e
    · rcases o1 k e with e | e
      · exact .inr e
      · omega
  · rcases o2 k hk with e | e
    · exact o1 k e
    · exact .inr (Nat.le_trans t1.size e)

/-- The cells as they are read. -/
theorem CAt.cells (h : CAt tc tp W K t vb v c w) :
    w.cell? ⟨K, 0, none⟩ = some (.string ⟨t.name.toArray⟩) ∧ w.cell? ⟨K, 1, none⟩ = some (.string ⟨t.filt.toArray⟩) ∧ w.cell? ⟨K, 2, none⟩ = some (.int .i64 t.src) ∧ w.cell? ⟨K, 3, none⟩ = some (.int .i64 t.start) ∧
    w.cell? ⟨K, 4, none⟩ = some (.int .i64 t.ack) ∧ w.cell? ⟨K, 5, none⟩ = some (.int .i64 t.wait) ∧ w.cell? ⟨K, 6, none⟩ = some vb ∧ w.cell? ⟨K, 7, none⟩ = some (.int .i64 t.most) ∧ w.cell? ⟨K, 8, none⟩ = some (.int .i64 t.pend) ∧
    w.cell? ⟨K, 9, none⟩ = some (.bool t.push) ∧ w.cell? ⟨K, 10, none⟩ = some (.int .i64 c.place) ∧ w.cell? ⟨K, 11, none⟩ = some (.int .i64 c.count) ∧ w.cell? ⟨K, 12, none⟩ = some v ∧ ∀ j, w.frozen? ⟨K, j, none⟩ = false := by
  have hc := h.cell
  refine ⟨?_, ?_, ?_, ?_, ?_, ?_, ?_, ?_, ?_, ?_, ?_, ?_, ?_, fun j => frozen_of_row w K j _ _ hc⟩ <;> (rw [cell_of_row w K _ _ _ _ hc]; rfl)
end

section
variable {w : World} {t : TakerP} {vb : Value}

end
end Go.Proofs.YtbgchhgdlceceaaGreatDoor.Con

namespace Go.Proofs.YtbgchhgdlceceaaGreatDoor.Sto
open Go.RowKit Heap
open Subj (Tok ML pieces takes StrsAt)
open Rec (Rc recErr far)
open Idx (Ents ptrV)

/-- A block of so many cells. -/
def BlockOf (w : World) (e : TypeId) (g m : Nat) : Prop := ∃ cur, w.heap[g]? = some (.cells cur e (0, 0)) ∧ m ≤ cur.size

theorem BlockOf.set {w : World} {e : TypeId} {g m : Nat} (h : BlockOf w e g m) (j : Nat) (u : Value) : BlockOf (w.setCell ⟨g, j, none⟩ u) e g m := by
  obtain ⟨cur, h1, h2⟩ := h
  exact ⟨cur.setIfInBounds j u, heap_setCell_same _ _ _ _ _ _ h1, by simpa using h2⟩

theorem BlockOf.there {w : World} {e : TypeId} {g m : Nat} (h : BlockOf w e g m) {j : Nat} (hj : j < m) : ∃ u, w.cell? ⟨g, j, none⟩ = some u := by
  obtain ⟨cur, h1, h2⟩ := h
  exact ⟨cur[j], by rw [cell_of_row w g j _ _ _ h1]; exact Array.getElem?_eq_getElem (by omega)⟩

theorem BlockOf.free {w : World} {e : TypeId} {g m : Nat} (h : BlockOf w e g m) : (∀ j, w.frozen? ⟨g, j, none⟩ = false) ∧ g < w.heap.size := by
  obtain ⟨cur, h1, h2⟩ := h
  exact ⟨fun j => frozen_of_row w g j _ _ h1, heap_lt h1⟩

section
variable {w : World}
end
end Go.Proofs.YtbgchhgdlceceaaGreatDoor.Sto

namespace Go.Proofs.YtbgchhgdlceceaaGreatDoor.Own
open Go.RowKit Heap
open Subj (Tok ML Strs StrsAt strAt strsV strsV_len strsV_get Ints IntsAt)
open Sto (BlockOf)

theorem Row.strs {w : World} {e : TypeId} {g off n cap : Nat} {l : List Tok} {ys : List Value} (hn : l.length = n) {m : Nat} (hm : n ≤ m) (h : Row w e 1 (.slice (some ⟨g, off, none⟩) m cap) m (strsV l ++ ys)) : Strs w (.slice (some ⟨g, off, none⟩) n cap) l := by
  subst hn
  have := h.cap_le
  refine ⟨_, cap, rfl, by omega, fun _ => ⟨g, off, rfl, fun k hk => ?_⟩⟩
  rw [(h.cell k (by omega)).1, List.getElem?_append_left (by rw [strsV_len]; exact hk), strsV_get _ _ hk]

section
variable {w : World}

end
end Go.Proofs.YtbgchhgdlceceaaGreatDoor.Own

namespace Go.Proofs.YtbgchhgdlceceaaGreatDoor.Con
open Subj (TakerP)
open Sto (tk seekR)
open Rec (Rc far)

end Go.Proofs.YtbgchhgdlceceaaGreatDoor.Con

namespace Go.Proofs.YtbgchhgdlceceaaGreatDoor.Con
open Go.RowKit Heap
open Subj (Tok TakerP ML)
open Sto (StoreAt Right seekR tk recV next_any parts sixC Parts below6 set6)
open Rec (Rc far)

abbrev tc : TypeId := 154
abbrev tp : TypeId := 168

section
variable {W w : World} {F : Nat → Prop} {D B K k : Nat} {L : List Rc} {last : Int} {t : TakerP} {vb v : Value} {c : Cn}

/-- A consumer and a store side by side. -/
structure PairAt (W : World) (F : Nat → Prop) (D B : Nat) (L : List Rc) (last : Int) (K : Nat) (t : TakerP) (vb v : Value) (c : Cn) (w : World) : Prop where
  st : StoreAt W F D B L last w
  con : CAt tc tp W K t vb v c w
  fK : ¬ F K
  fv : ∀ k, own v k → ¬ F k
  fb : ∀ k, own vb k → ¬ F k

variable {w1 : World} {L' : List Rc} {last' : Int} {B' : Nat} {c' : Cn}

theorem PairAt.next (h : PairAt W F D B L last K t vb v c w) (hb : Below w.heap.size w w1) : PairAt W F D B L last K t vb v c w1 := ⟨h.st.next hb, h.con.next hb, h.fK, h.fv, h.fb⟩

theorem PairAt.of (h : PairAt W F D B L last K t vb v c w) {v' : Value} (hc : CAt tc tp W K t vb v' c' w1) (ht : Heap.Touch (fun k => k = K ∨ own v k) w w1) (ho : ∀ k, own v' k → own v k ∨ w.heap.size ≤ k) : PairAt W F D B L last K t vb v' c' w1 := by
  refine ⟨h.st.kept hc.below ht.size fun k hk hlt => ht.block k hlt fun e => ?_, hc, h.fK, fun k hk hF => ?_, h.fb⟩
  · rcases e with rfl | e
    · exact h.fK hk
    · exact h.fv k e hk
  · rcases ho k hk with e | e
    · exact h.fv k e hF
    · have := h.st.bF k hF; omega

theorem PairAt.turn (h : PairAt W F D B L last K t vb v c w) (hn : NextC tc tp W K t vb v w c' w1) : ∃ v', PairAt W F D B L last K t vb v' c' w1 ∧ ∀ k, own v' k → own v k ∨ w.heap.size ≤ k := by
  obtain ⟨v', hC, ht, ho⟩ := hn
  exact ⟨v', h.of hC ht ho, ho⟩

theorem PairAt.store (h : PairAt W F D B L last K t vb v c w) (hn : Sto.NextSt W F D B' w L' last' w1) : ∃ F', PairAt W F' D B' L' last' K t vb v c w1 ∧ ∀ k, F' k → F k ∨ w.heap.size ≤ k := by
  obtain ⟨⟨F', hS, hF⟩, ht⟩ := hn
  refine ⟨F', ⟨hS, h.con.touch ht h.st.newF h.fK h.fv h.fb, fun hk => ?_, fun k hk hk2 => ?_, fun k hk hk2 => ?_⟩, hF⟩
  · rcases hF K hk with e | e
    · exact h.fK e
    · have := heap_lt h.con.cell; omega
  · rcases hF k hk2 with e | e
    · exact h.fv k hk e
    · have := h.con.row.lt k hk; omega
  · rcases hF k hk2 with e | e
    · exact h.fb k hk e
    · have := (h.con.fb k hk).1; omega

theorem PairAt.below (h : PairAt W F D B L last K t vb v c w) : Below W.heap.size W w := h.con.below

/-- Another count, another place. -/
theorem CAt.set (h : CAt tc tp W K t vb v c w) {j : Nat} {u : Value} (hc : (conC t vb v c).setIfInBounds j u = conC t vb v c') (hl : c'.l = c.l) : CAt tc tp W K t vb v c' (w.setCell ⟨K, j, none⟩ u) ∧ Heap.Touch (fun k => k = K ∨ own v k) w (w.setCell ⟨K, j, none⟩ u) := by
  have ht : Heap.Touch (fun k => k = K ∨ own v k) w (w.setCell ⟨K, j, none⟩ u) := (touch_K w K j u).mono fun k _ e => .inl e
  refine ⟨h.put ht ?_ ?_ (fun k hk => .inl hk) h.ne, ht⟩
  · rw [← hc]; exact heap_setCell_same _ _ _ _ _ _ h.cell
  · rw [hl]; exact h.row.kept fun k hk hlt => (touch_K w K j u).block k hlt (h.ne k hk)

end
end Go.Proofs.YtbgchhgdlceceaaGreatDoor.Con

namespace Go.Proofs.YtbgchhgdlceceaaGreatDoor.Con
open Go.RowKit Heap
open Subj (Tok TakerP ML Ints IntsAt)
open Sto (StoreAt Right seekR tk recV parts sixC Parts last_any sums_any sumsV fourS)
open Rec (Rc far)

section
variable {W w : World} {F : Nat → Prop} {D B : Nat} {L : List Rc} {last : Int} {t : TakerP} {vb : Value}

end
end Go.Proofs.YtbgchhgdlceceaaGreatDoor.Con

namespace Go.Proofs.YtbgchhgdlceceaaGreatDoor.Own
open Go.RowKit Heap
open Subj (Tok ML Strs StrsAt strAt strsV strsV_len strsV_get Ints IntsAt planErr planCells Small IntRet Inv check_any ten TakerP)
open Vlt (new_vlt)

/-- slices.Clone of texts. -/
theorem clone_strs {w : World} {v : Value} {l : List Tok} (h : Strs w v l) (hl : l.length ≤ 1048576) :
    Calls Tryz.prog 95 #[v] w fun e w' => ∃ v', e = .returned v' ∧ Row w' 9 1 v' l.length (strsV l) ∧ (∀ k, own v' k → w.heap.size ≤ k ∧ k < w'.heap.size) ∧ Below w.heap.size w w' := by
  obtain ⟨ao, cap, rfl, hc, hat⟩ := h
  have fin : ∀ (v' : Value) (w' : World), w'.ownsRow w.heap.size 9 1 v' l.length (strsV l) → Row w' 9 1 v' l.length (strsV l) ∧ (∀ k, own v' k → w.heap.size ≤ k ∧ k < w'.heap.size) := fun v' w' ho => by
    refine ⟨Row.of_own ho, fun k hk => ?_⟩
    rcases ho.2 with ⟨rfl, _⟩ | ⟨g, cp, cur, rfl, hg, hh, _⟩
    · simp [own, Value.ownBlock] at hk
    · simp [own, Value.ownBlock] at hk
      subst hk
      exact ⟨hg, heap_lt hh⟩
  cases ao with
  | none =>
    refine (Tryz.slices_Clone_string_nil l.length cap w).mono ?_
    rintro e w' ⟨rfl, rfl⟩
    by_cases hz : l = []
    · subst hz
      exact ⟨_, rfl, Row.nil _ _ _, fun k hk => by simp [own, Value.ownBlock] at hk, Below.refl _ _⟩
    · obtain ⟨g, off, h1, _⟩ := hat hz
      cases h1
  | some a =>
    by_cases hz : l = []
    · subst hz
      refine (Tryz.slices_Clone_string_zero a cap w).mono ?_
      rintro e w' ⟨v', rfl, h1, _, h3⟩
      obtain ⟨h5, h6⟩ := fin v' w' h1
      exact ⟨v', rfl, h5, h6, h3⟩
    · obtain ⟨g, off, h1, h2⟩ := hat hz
      simp only [Option.some.injEq] at h1
      subst h1
      refine (Tryz.slices_Clone_string g off l.length cap (l.map fun t => ⟨t.toArray⟩) w (by simp) (by omega) (fun j hj => ?_)).mono ?_
      · rw [List.length_map] at hj
        rw [h2 j hj]
        simp [strAt, List.getD, hj]
      rintro e w' ⟨v', rfl, h1, _, h3⟩
      rw [List.take_of_length_le (by simp), List.map_map, show List.map (Value.string ∘ fun t : Tok => (⟨t.toArray⟩ : ByteArray)) l = strsV l from rfl] at h1
      obtain ⟨h5, h6⟩ := fin v' w' h1
      exact ⟨v', rfl, h5, h6, h3⟩

section
variable {w : World}

theorem Row.toStrs {w : World} {e : TypeId} {v : Value} {l : List Tok} (h : Row w e 1 v l.length (strsV l)) : Strs w v l := by
  rcases h.2 with ⟨rfl, h0⟩ | ⟨g, off, cap, cur, rfl, _⟩
  · exact ⟨none, 0, by rw [h0], by omega, fun hne => absurd (List.eq_nil_of_length_eq_zero h0) hne⟩
  · exact Row.strs (ys := []) rfl (Nat.le_refl _) (by rw [List.append_nil]; exact h)

end
end Go.Proofs.YtbgchhgdlceceaaGreatDoor.Own

namespace Go.Proofs.YtbgchhgdlceceaaGreatDoor.Strm
open Go.RowKit Heap Dsk Log
open Vlt (Vt VAt NextVA Whole doV)
open Subj (ML Tok Strs strsV)
open Rec (Rc)
open Sto (StoreAt Right)

def knC (k : Kn) : List Value := [.string ⟨k.id.toArray⟩, .int .i64 k.time, .int .i64 k.seq]
def knsV (l : List Kn) : List Value := l.flatMap knC
theorem knsV_cons (p : Kn) (l : List Kn) : knsV (p :: l) = knC p ++ knsV l := rfl
theorem knsV_append (a b : List Kn) : knsV (a ++ b) = knsV a ++ knsV b := by simp [knsV]
theorem knsV_at (l : List Kn) (k : Nat) (p : Kn) (h : l[k]? = some p) (i : Nat) (hi : i < 3) : (knsV l)[k * 3 + i]? = (knC p)[i]? := by
  induction l generalizing k with
  | nil => simp at h
  | cons q l ih =>
    rw [knsV_cons]
    cases k with
    | zero =>
      simp at h; subst h
      rw [List.getElem?_append_left (by simp [knC]; omega)]
      simp
    | succ k =>
      rw [List.getElem?_append_right (by simp [knC]; omega)]
      rw [show (k + 1) * 3 + i - (knC q).length = k * 3 + i by simp [knC]; omega]
      exact ih k (by simpa using h)

theorem cells_kn {e : TypeId} {w : World} {g off n cap : Nat} {l : List Kn} (h : Row w e 3 (.slice (some ⟨g, off, none⟩) n cap) n (knsV l)) (k : Nat) (p : Kn) (hp : l[k]? = some p) (hk : k < n) :
    w.cell? ⟨g, off + k * 3, none⟩ = some (.string ⟨p.id.toArray⟩) ∧ w.cell? ⟨g, off + k * 3 + 1, none⟩ = some (.int .i64 p.time) ∧ w.cell? ⟨g, off + k * 3 + 2, none⟩ = some (.int .i64 p.seq) := by
  have f : ∀ i, i < 3 → w.cell? ⟨g, off + k * 3 + i, none⟩ = (knC p)[i]? := fun i hi => by
    have := h.cell (k * 3 + i) (by omega)
    rw [← Nat.add_assoc] at this
    rw [this.1, knsV_at l k p hp i hi]
  exact ⟨f 0 (by omega), f 1 (by omega), f 2 (by omega)⟩

def strmC (name : ByteArray) (p : Pl) (vf : Value) (V : Nat) (vi : Value) : Array Value :=
  #[.string name, vf, .int .i64 p.msgs, .int .i64 p.bytes, .int .i64 p.age, .int .i64 p.per, .int .i64 p.size, .int .i64 p.disc, .int .i64 p.keep, .int .i64 p.win, .pointer (some ⟨V, 0, none⟩), vi]

structure SmParts (W : World) (FV : Nat → Prop) (K V D G S c : Nat) (room size : Int) (name : ByteArray) (p : Pl) (vf vi : Value) (s : Sm) (w : World) : Prop where
  cell : w.heap[K]? = some (.cells (strmC name p vf V vi) 180 (0, 0))
  vlt : VAt W FV V D G S (16 * c) room size s.v w
  whole : Whole c s.v
  fils : Row w 9 1 vf p.fs.length (strsV p.fs)
  ids : Row w 212 3 vi s.ids.length (knsV s.ids)
  oldK : W.heap.size ≤ K
  nK : ¬ FV K
  nf : ∀ k, own vf k → W.heap.size ≤ k ∧ ¬ FV k ∧ k ≠ K
  ni : ∀ k, own vi k → W.heap.size ≤ k ∧ ¬ FV k ∧ k ≠ K ∧ ¬ own vf k

/-- The stream at K, its store at S, of the blocks F. -/
structure SmAt (W : World) (F : Nat → Prop) (K S c : Nat) (room size : Int) (name : ByteArray) (p : Pl) (s : Sm) (w : World) : Prop where
  ex : ∃ FV V D G vf vi, SmParts W FV K V D G S c room size name p vf vi s w ∧ ∀ k, FV k ∨ k = K ∨ own vf k ∨ own vi k → F k
  newF : ∀ k, F k → W.heap.size ≤ k
  bF : ∀ k, F k → k < w.heap.size

/-- What a call at a stream leaves. -/
def NextSm (W : World) (F : Nat → Prop) (K S c : Nat) (room size : Int) (name : ByteArray) (p : Pl) (w : World) (s' : Sm) (w' : World) : Prop :=
  (∃ F', SmAt W F' K S c room size name p s' w' ∧ ∀ k, F' k → F k ∨ w.heap.size ≤ k) ∧ Heap.Touch F w w'

section
variable {W w w1 w2 : World} {F FV : Nat → Prop} {K V D G G' S S' c c' : Nat} {room size : Int} {name : ByteArray} {p : Pl} {vf vi : Value} {s s1 s2 : Sm}

theorem SmParts.ltK (h : SmParts W FV K V D G S c room size name p vf vi s w) : K < w.heap.size := heap_lt h.cell

theorem SmParts.low (h : SmParts W FV K V D G S c room size name p vf vi s w) (hb : Below w.heap.size w w1) : SmParts W FV K V D G S c room size name p vf vi s w1 :=
  { h with
    cell := (hb.block K h.ltK).trans h.cell
    vlt := h.vlt.low hb
    fils := h.fils.kept fun k _ hk => hb.block k hk
    ids := h.ids.kept fun k _ hk => hb.block k hk }

theorem SmAt.below (h : SmAt W F K S c room size name p s w) : Below W.heap.size W w := by
  obtain ⟨FV, V, D, G, vf, vi, hP, _⟩ := h.ex
  exact hP.vlt.below

theorem SmAt.low (h : SmAt W F K S c room size name p s w) (hb : Below w.heap.size w w1) : SmAt W F K S c room size name p s w1 := by
  obtain ⟨FV, V, D, G, vf, vi, hP, hF⟩ := h.ex
  exact ⟨⟨FV, V, D, G, vf, vi, hP.low hb, hF⟩, h.newF, fun k hk => Nat.lt_of_lt_of_le (h.bF k hk) hb.size⟩

theorem SmAt.more (h : SmAt W F K S c room size name p s w) (hc : c ≤ c') : SmAt W F K S c' room size name p s w := by
  obtain ⟨FV, V, D, G, vf, vi, hP, hF⟩ := h.ex
  exact ⟨⟨FV, V, D, G, vf, vi, { hP with vlt := hP.vlt.more (by omega), whole := hP.whole.mono hc }, hF⟩, h.newF, h.bF⟩

theorem SmAt.kept (h : SmAt W F K S c room size name p s w) (hb : Below W.heap.size W w1) (hsz : w.heap.size ≤ w1.heap.size) (hs : Same F w w1) : SmAt W F K S c room size name p s w1 := by
  obtain ⟨FV, V, D, G, vf, vi, hP, hF⟩ := h.ex
  refine ⟨⟨FV, V, D, G, vf, vi, { hP with cell := (hs K (hF K (.inr (.inl rfl))) hP.ltK).trans hP.cell, vlt := hP.vlt.kept hb hsz fun k hk hlt => hs k (hF k (.inl hk)) hlt, fils := hP.fils.kept fun k hk hlt => hs k (hF k (.inr (.inr (.inl hk)))) hlt, ids := hP.ids.kept fun k hk hlt => hs k (hF k (.inr (.inr (.inr hk)))) hlt }, hF⟩, h.newF, fun k hk => Nat.lt_of_lt_of_le (h.bF k hk) hsz⟩

theorem NextSm.same (h : SmAt W F K S c room size name p s w) (hb : Below w.heap.size w w1) : NextSm W F K S c room size name p w s w1 :=
  ⟨⟨F, h.low hb, fun _ hk => .inl hk⟩, Heap.Touch.ofBelow hb⟩

theorem NextSm.more (h : NextSm W F K S c room size name p w s w1) (hc : c ≤ c') : NextSm W F K S c' room size name p w s w1 := by
  obtain ⟨⟨F', h1, h2⟩, h3⟩ := h
  exact ⟨⟨F', h1.more hc, h2⟩, h3⟩

theorem NextSm.trans {F' : Nat → Prop} (hF : ∀ k, F' k → F k ∨ w.heap.size ≤ k) (ht : Heap.Touch F w w1) (h : NextSm W F' K S c room size name p w1 s w2) : NextSm W F K S c room size name p w s w2 := by
  obtain ⟨⟨F2, h1, h2⟩, h3⟩ := h
  refine ⟨⟨F2, h1, fun k hk => ?_⟩, ht.trans h3 fun k hk hf => ?_⟩
  · rcases h2 k hk with e | e
    · exact hF k e
    · exact .inr (Nat.le_trans ht.size e)
  · rcases hF k hf with e | e
    · exact e
    · omega

/-- One call behind another one. -/
theorem NextSm.after (h : NextSm W F K S c room size name p w s1 w1) (hn : ∀ F', SmAt W F' K S c room size name p s1 w1 → NextSm W F' K S' c' room size name p w1 s2 w2) : NextSm W F K S' c' room size name p w s2 w2 := by
  obtain ⟨⟨F', h1, h2⟩, h3⟩ := h
  exact NextSm.trans h2 h3 (hn F' h1)

theorem NextSm.low (h : NextSm W F K S c room size name p w s1 w1) (hb : Below w1.heap.size w1 w2) : NextSm W F K S c room size name p w s1 w2 :=
  h.after fun _ h1 => NextSm.same h1 hb

/-- A call at the vault. -/
theorem SmAt.vlt {v' : Vt} (h : SmAt W F K S c room size name p s w) (hP : SmParts W FV K V D G S c room size name p vf vi s w) (hF : ∀ k, FV k ∨ k = K ∨ own vf k ∨ own vi k → F k)
    (hn : NextVA W FV V D G' S' (16 * c') room size w v' w1) (hw : Whole c' v') : NextSm W F K S' c' room size name p w ⟨v', s.ids⟩ w1 := by
  obtain ⟨⟨FV', h1, h2⟩, ht⟩ := hn
  have hnew : ∀ k, FV' k → FV k ∨ w.heap.size ≤ k := h2
  refine ⟨⟨fun k => (F k ∨ w.heap.size ≤ k) ∧ k < w1.heap.size, ⟨⟨FV', V, D, G', vf, vi, ⟨(ht.block K hP.ltK hP.nK).trans hP.cell, h1, hw, hP.fils.kept fun k hk hlt => ht.block k hlt (hP.nf k hk).2.1, hP.ids.kept fun k hk hlt => ht.block k hlt (hP.ni k hk).2.1, hP.oldK, fun e => ?_, fun k hk => ⟨(hP.nf k hk).1, fun e => ?_, (hP.nf k hk).2.2⟩, fun k hk => ⟨(hP.ni k hk).1, fun e => ?_, (hP.ni k hk).2.2⟩⟩, fun k hk => ?_⟩, fun k hk => ?_, fun k hk => hk.2⟩, fun k hk => hk.1⟩, ht.mono fun k _ hk => hF k (.inl hk)⟩
  · rcases hnew K e with e | e
    · exact hP.nK e
    · have := hP.ltK; omega
  · rcases hnew k e with e | e
    · exact (hP.nf k hk).2.1 e
    · have := hP.fils.lt k hk; omega
  · rcases hnew k e with e | e
    · exact (hP.ni k hk).2.1 e
    · have := hP.ids.lt k hk; omega
  · rcases hk with hk | rfl | hk | hk
    · exact ⟨(hnew k hk).imp (fun e => hF k (.inl e)) id, h1.bF k hk⟩
    · exact ⟨.inl (hF _ (.inr (.inl rfl))), Nat.lt_of_lt_of_le hP.ltK ht.size⟩
    · exact ⟨.inl (hF k (.inr (.inr (.inl hk)))), Nat.lt_of_lt_of_le (hP.fils.lt k hk) ht.size⟩
    · exact ⟨.inl (hF k (.inr (.inr (.inr hk)))), Nat.lt_of_lt_of_le (hP.ids.lt k hk) ht.size⟩
  · rcases hk.1 with e | e
    · exact h.newF k e
    · exact Nat.le_trans h.below.size e

/-- The ids are others. -/
theorem SmAt.ids {ids' : List Kn} {vi' : Value} (h : SmAt W F K S c room size name p s w) (hP : SmParts W FV K V D G S c room size name p vf vi s w) (hF : ∀ k, FV k ∨ k = K ∨ own vf k ∨ own vi k → F k)
    (ht : Heap.Touch (fun k => k = K ∨ own vi k) w w1) (hc : w1.heap[K]? = some (.cells (strmC name p vf V vi') 180 (0, 0))) (hr : Row w1 212 3 vi' ids'.length (knsV ids')) (ho : ∀ k, own vi' k → own vi k ∨ w.heap.size ≤ k) :
    NextSm W F K S c room size name p w ⟨s.v, ids'⟩ w1 := by
  have hni : ∀ k, own vi' k → W.heap.size ≤ k ∧ ¬ FV k ∧ k ≠ K ∧ ¬ own vf k := fun k hk => by
    rcases ho k hk with e | e
    · exact hP.ni k e
    · refine ⟨Nat.le_trans h.below.size e, fun e2 => ?_, fun e2 => ?_, fun e2 => ?_⟩
      · have := hP.vlt.bF k e2; omega
      · have := hP.ltK; omega
      · have := hP.fils.lt k e2; omega
  have hsV : Same FV w w1 := fun k hk hlt => ht.block k hlt fun e => by
    rcases e with rfl | e
    · exact hP.nK hk
    · exact (hP.ni k e).2.1 hk
  have hbw : Below W.heap.size W w1 := h.below.trans (ht.below h.below.size fun k hk => by
    rcases hk with rfl | hk
    · exact hP.oldK
    · exact (hP.ni k hk).1)
  refine ⟨⟨fun k => (F k ∨ w.heap.size ≤ k) ∧ k < w1.heap.size, ⟨⟨FV, V, D, G, vf, vi', ⟨hc, hP.vlt.kept hbw ht.size hsV, hP.whole, hP.fils.kept fun k hk hlt => ht.block k hlt fun e => ?_, hr, hP.oldK, hP.nK, hP.nf, hni⟩, fun k hk => ?_⟩, fun k hk => ?_, fun k hk => hk.2⟩, fun k hk => hk.1⟩, ht.mono fun k _ hk => hF k ?_⟩
  · rcases e with rfl | e
    · exact (hP.nf _ hk).2.2 rfl
    · exact (hP.ni k e).2.2.2 hk
  · rcases hk with hk | rfl | hk | hk
    · exact ⟨.inl (hF k (.inl hk)), Nat.lt_of_lt_of_le (hP.vlt.bF k hk) ht.size⟩
    · exact ⟨.inl (hF _ (.inr (.inl rfl))), Nat.lt_of_lt_of_le hP.ltK ht.size⟩
    · exact ⟨.inl (hF k (.inr (.inr (.inl hk)))), Nat.lt_of_lt_of_le (hP.fils.lt k hk) ht.size⟩
    · exact ⟨(ho k hk).imp (fun e => hF k (.inr (.inr (.inr e)))) id, hr.lt k hk⟩
  · rcases hk.1 with e | e
    · exact h.newF k e
    · exact Nat.le_trans h.below.size e
  · rcases hk with rfl | hk
    · exact .inr (.inl rfl)
    · exact .inr (.inr (.inr hk))

theorem SmAt.right (h : SmAt W F K S c room size name p s w) : ∃ I, Right s.v.L s.v.last I := by
  obtain ⟨FV, V, D, G, vf, vi, hP, _⟩ := h.ex
  exact hP.vlt.right

theorem SmAt.whole (h : SmAt W F K S c room size name p s w) : Whole c s.v := by
  obtain ⟨FV, V, D, G, vf, vi, hP, _⟩ := h.ex
  exact hP.whole

theorem SmAt.st (h : SmAt W F K S c room size name p s w) : ∃ F2, StoreAt W F2 S (16 * c) s.v.L s.v.last w := by
  obtain ⟨FV, V, D, G, vf, vi, hP, _⟩ := h.ex
  exact hP.vlt.st

/-- The cells as they are read. -/
theorem SmParts.cells (h : SmParts W FV K V D G S c room size name p vf vi s w) :
    w.cell? ⟨K, 1, none⟩ = some vf ∧ w.cell? ⟨K, 2, none⟩ = some (.int .i64 p.msgs) ∧ w.cell? ⟨K, 3, none⟩ = some (.int .i64 p.bytes) ∧ w.cell? ⟨K, 4, none⟩ = some (.int .i64 p.age) ∧ w.cell? ⟨K, 5, none⟩ = some (.int .i64 p.per) ∧ w.cell? ⟨K, 6, none⟩ = some (.int .i64 p.size) ∧
    w.cell? ⟨K, 7, none⟩ = some (.int .i64 p.disc) ∧ w.cell? ⟨K, 9, none⟩ = some (.int .i64 p.win) ∧ w.cell? ⟨K, 10, none⟩ = some (.pointer (some ⟨V, 0, none⟩)) ∧ w.cell? ⟨K, 11, none⟩ = some vi ∧ ∀ j, w.frozen? ⟨K, j, none⟩ = false := by
  have hc := h.cell
  refine ⟨?_, ?_, ?_, ?_, ?_, ?_, ?_, ?_, ?_, ?_, fun j => frozen_of_row w K j _ _ hc⟩ <;> (rw [cell_of_row w K _ _ _ _ hc]; rfl)
end
end Go.Proofs.YtbgchhgdlceceaaGreatDoor.Strm
