/- Parts of the proof, joined: How many messages are still to come; a delivery that is told: (*Consumer).left, (*Consumer).told, walked. -/
import Derived.Test.YtbgchhgdlceceaaGreatDoorPlansOwnUptoM41
namespace Go.Proofs.YtbgchhgdlceceaaGreatDoor.Con
open Go.RowKit Heap
open Subj (Tok TakerP ML errT errT_facts)
open Sto (StoreAt Right seekR tk recV parts sixC Parts below6 set6)
open Rec (Rc far)

abbrev tc : TypeId := 154
abbrev tp : TypeId := 168

section
variable {W w : World} {F : Nat → Prop} {D B K k : Nat} {L : List Rc} {last : Int} {t : TakerP} {vb v : Value} {c : Cn}

/-- A consumer and a store side by side. -/
structure PairAt (W : World) (F : Nat → Prop) (D B : Nat) (L : List Rc) (last : Int) (K : Nat) (t : TakerP) (vb v : Value) (c : Cn) (w : World) : Prop where
  st : StoreAt W F D B L last w
  con : CAt tc tp W K t vb v c w
  fK : ¬ F K
  fv : ∀ k, own v k → ¬ F k
  fb : ∀ k, own vb k → ¬ F k

variable {w1 : World} {L' : List Rc} {last' : Int} {B' : Nat} {c' : Cn}

theorem PairAt.next (h : PairAt W F D B L last K t vb v c w) (hb : Below w.heap.size w w1) : PairAt W F D B L last K t vb v c w1 := ⟨h.st.next hb, h.con.next hb, h.fK, h.fv, h.fb⟩

theorem PairAt.of (h : PairAt W F D B L last K t vb v c w) {v' : Value} (hc : CAt tc tp W K t vb v' c' w1) (ht : Heap.Touch (fun k => k = K ∨ own v k) w w1) (ho : ∀ k, own v' k → own v k ∨ w.heap.size ≤ k) : PairAt W F D B L last K t vb v' c' w1 := by
  refine ⟨h.st.kept hc.below ht.size fun k hk hlt => ht.block k hlt fun e => ?_, hc, h.fK, fun k hk hF => ?_, h.fb⟩
  · rcases e with rfl | e
    · exact h.fK hk
    · exact h.fv k e hk
  · rcases ho k hk with e | e
    · exact h.fv k e hF
    · have := h.st.bF k hF; omega

theorem PairAt.turn (h : PairAt W F D B L last K t vb v c w) (hn : NextC tc tp W K t vb v w c' w1) : ∃ v', PairAt W F D B L last K t vb v' c' w1 ∧ ∀ k, own v' k → own v k ∨ w.heap.size ≤ k := by
  obtain ⟨v', hC, ht, ho⟩ := hn
  exact ⟨v', h.of hC ht ho, ho⟩

theorem PairAt.store (h : PairAt W F D B L last K t vb v c w) (hn : Sto.NextSt W F D B' w L' last' w1) : ∃ F', PairAt W F' D B' L' last' K t vb v c w1 ∧ ∀ k, F' k → F k ∨ w.heap.size ≤ k := by
  obtain ⟨⟨F', hS, hF⟩, ht⟩ := hn
  refine ⟨F', ⟨hS, h.con.touch ht h.st.newF h.fK h.fv h.fb, fun hk => ?_, fun k hk hk2 => ?_, fun k hk hk2 => ?_⟩, hF⟩
  · rcases hF K hk with e | e
    · exact h.fK e
    · have := heap_lt h.con.cell; omega
  · rcases hF k hk2 with e | e
    · exact h.fv k hk e
    · have := h.con.row.lt k hk; omega
  · rcases hF k hk2 with e | e
    · exact h.fb k hk e
    · have := (h.con.fb k hk).1; omega

theorem PairAt.below (h : PairAt W F D B L last K t vb v c w) : Below W.heap.size W w := h.con.below

/-- Another count, another place. -/
theorem CAt.set (h : CAt tc tp W K t vb v c w) {j : Nat} {u : Value} (hc : (conC t vb v c).setIfInBounds j u = conC t vb v c') (hl : c'.l = c.l) : CAt tc tp W K t vb v c' (w.setCell ⟨K, j, none⟩ u) ∧ Heap.Touch (fun k => k = K ∨ own v k) w (w.setCell ⟨K, j, none⟩ u) := by
  have ht : Heap.Touch (fun k => k = K ∨ own v k) w (w.setCell ⟨K, j, none⟩ u) := (touch_K w K j u).mono fun k _ e => .inl e
  refine ⟨h.put ht ?_ ?_ (fun k hk => .inl hk) h.ne, ht⟩
  · rw [← hc]; exact heap_setCell_same _ _ _ _ _ _ h.cell
  · rw [hl]; exact h.row.kept fun k hk hlt => (touch_K w K j u).block k hlt (h.ne k hk)

theorem CAt.setPlace (h : CAt tc tp W K t vb v c w) (n : Int) : CAt tc tp W K t vb v ⟨n, c.count, c.l⟩ (w.setCell ⟨K, 10, none⟩ (.int .i64 n)) ∧ Heap.Touch (fun k => k = K ∨ own v k) w (w.setCell ⟨K, 10, none⟩ (.int .i64 n)) :=
  h.set (c' := ⟨n, c.count, c.l⟩) (by simp [conC]) rfl

end
end Go.Proofs.YtbgchhgdlceceaaGreatDoor.Con
