/- (*Index).Put, walked. -/
import Derived.Test.YtpmffneohcbhbaaDoorIdxFind
import Derived.Test.YtpmffneohcbhbaaDoorIdxIns
import Derived.Test.YtpmffneohcbhbaaDoorSubjTakes
namespace Go.Proofs.YtpmffneohcbhbaaDoor.Idx
open Go.RowKit Heap
open Subj (Tok ML pieces StrsAt strAt)

/-- The tokens of a right subject. -/
theorem err_toks {l : List UInt8} (h : Subj.err false l = 0) : (pieces l).length ≤ 8 ∧ ∀ t ∈ pieces l, t ≠ [] ∧ t.length ≤ 16 := by
  unfold Subj.err at h
  split at h
  · cases h
  · rename_i h8
    split at h
    · rename_i hok
      refine ⟨by omega, ?_⟩
      clear h h8
      revert hok
      generalize pieces l = ts
      intro hok
      induction ts with
      | nil => intro t ht; cases ht
      | cons a ts ih =>
        simp only [Subj.okPieces, Bool.false_and, Bool.false_or, Bool.and_eq_true] at hok
        intro t ht
        rcases List.mem_cons.1 ht with rfl | ht
        · have h1 := hok.1
          unfold Subj.tokenOk at h1
          simp only [Bool.and_eq_true, decide_eq_true_eq] at h1
          exact ⟨fun e => by subst e; simp at h1, h1.2⟩
        · exact ih hok.2 t ht
    · cases h

/-- The same is told. -/
def SameDen (H H' : Hp) (x : Nat) : Prop := ∀ ts m, Den H' x ts m ↔ Den H x ts m

/-- An index that has come of another one. -/
structure Next (W : World) (M : Nat → Prop) (x N : Nat) (cnt : Nat) (w : World) (H' : Hp) (w' : World) : Prop where
  good : Good N H' x
  mem : ∃ M' vf', IdxAt W M' x H' vf' cnt w' ∧ ∀ k, M' k → M k ∨ w.heap.size ≤ k
  touch : Heap.Touch M w w'

section
variable {W w : World} {M : Nat → Prop} {x : Nat} {H : Hp} {vf : Nat → Value} {cnt N : Nat}

theorem Next.refl (hG : Good N H x) (hM : IdxAt W M x H vf cnt w) : Next W M x N cnt w H w := ⟨hG, ⟨M, vf, hM, fun _ h => .inl h⟩, Heap.Touch.refl _ _⟩

theorem Next.below' {H' : Hp} {w' w2 : World} (h : Next W M x N cnt w H' w') (hb : Below w'.heap.size w' w2) : Next W M x N cnt w H' w2 := by
  obtain ⟨hG, ⟨M', vf', h1, h2⟩, h3⟩ := h
  exact ⟨hG, ⟨M', vf', h1.next hb, h2⟩, h3.after (Heap.Touch.ofBelow (hb.mono (Nat.le_refl _)))⟩

theorem Next.from {H' : Hp} {w0 w' : World} (h : Next W M x N cnt w H' w') (hb : Below w0.heap.size w0 w) : Next W M x N cnt w0 H' w' := by
  obtain ⟨hG, ⟨M', vf', h1, h2⟩, h3⟩ := h
  refine ⟨hG, ⟨M', vf', h1, fun k hk => ?_⟩, (Heap.Touch.ofBelow hb).trans h3 fun _ _ h => h⟩
  rcases h2 k hk with e | e
  · exact .inl e
  · exact .inr (Nat.le_trans hb.size e)

/-- One index comes of one that has come. -/
theorem Next.trans {H1 H2 : Hp} {M1 : Nat → Prop} {w1 w2 : World} {N2 cnt2 : Nat} (h1 : Next W M x N cnt w H1 w1) (hm : ∀ k, M1 k → M k ∨ w.heap.size ≤ k) (h2 : Next W M1 x N2 cnt2 w1 H2 w2) : Next W M x N2 cnt2 w H2 w2 := by
  obtain ⟨hG, ⟨M', vf', h3, h4⟩, h5⟩ := h2
  refine ⟨hG, ⟨M', vf', h3, fun k hk => ?_⟩, h1.touch.trans h5 fun k hk hf => ?_⟩
  · rcases h4 k hk with e | e
    · exact hm k e
    · exact .inr (Nat.le_trans h1.touch.size e)
  · rcases hm k hf with e | e
    · exact e
    · omega

/-- What a node has is set: in memory. -/
theorem next_set (hG : Good N H x) (hM : IdxAt W M x H vf cnt w) {c : Nat} {nd : NodeP} (hc : H c = some nd) (y : Bool) (n : Int) :
    Next W M x N cnt w (upd H c { nd with has := y, n := n }) ((w.setCell ⟨c, 2, none⟩ (.bool y)).setCell ⟨c, 3, none⟩ (.int .i64 n)) := by
  have hn := hM.node c nd hc
  have ht : Heap.Touch (fun k => k = c ∨ own (vf c) k) w ((w.setCell ⟨c, 2, none⟩ (.bool y)).setCell ⟨c, 3, none⟩ (.int .i64 n)) :=
    Heap.Touch.setCell (p := ⟨c, 3, none⟩) (Heap.Touch.setCell (F := fun k => k = c ∨ own (vf c) k) (p := ⟨c, 2, none⟩) (Heap.Touch.refl _ w) (.inl (.inl rfl)) _) (.inl (.inl rfl)) _
  have hr := (hM.row c nd hc).kept (w' := ((w.setCell ⟨c, 2, none⟩ (.bool y)).setCell ⟨c, 3, none⟩ (.int .i64 n))) (fun k hk hlt => by
    have e : k ≠ c := fun e => own_ne hn (hM.row c nd hc) (e ▸ hk)
    rw [Below.heap_setCell _ _ _ _ e, Below.heap_setCell _ _ _ _ e])
  obtain ⟨h1, h2⟩ := hM.set (nd' := { nd with has := y, n := n }) (v' := vf c) hc ht (node_has hn y n) hr (fun k hk => .inl hk)
  exact ⟨good_set hG hc y n, ⟨_, _, h1, fun k hk => hk.1⟩, h2⟩

/-- A kid more: in memory. -/
theorem next_ins (hG : Good N H x) (hM : IdxAt W M x H vf cnt w) {c i k : Nat} {nd : NodeP} {t : Tok} {wa w5 : World} {v' : Value} (hc : H c = some nd) (hp : Placed H nd.kids t i false) (hlen : nd.path.length < 8) (ht : t ≠ [] ∧ t.length ≤ 16)
    (hba : Below w.heap.size w wa) (hk : w.heap.size = k) (hka : wa.heap[k]? = some (.cells #[.string ⟨t.toArray⟩, .slice none 0 0, .bool false, .int .i64 0] 82 (0, 0))) (hsz : k < wa.heap.size)
    (hr : Row w5 85 1 v' (nd.kids.length + 1) ((kidsV nd.kids).take (i * 1) ++ [ptrV k] ++ (kidsV nd.kids).drop (i * 1))) (ht5 : Heap.Touch (own (vf c)) wa w5) (ho : ∀ j, own v' j → own (vf c) j ∨ wa.heap.size ≤ j) :
    Next W M x (N + 1) cnt w (insH H c nd i k t) (w5.setCell ⟨c, 1, none⟩ v') := by
  have hMa := hM.next hba
  have hn := hMa.node c nd hc
  have hn5 : w5.heap[c]? = some (nodeO x cnt c nd (vf c)) := (ht5.block c (hMa.lt hc) (own_ne hn (hMa.row c nd hc))).trans hn
  have htc : Heap.Touch (fun j => j = c ∨ own (vf c) j) wa (w5.setCell ⟨c, 1, none⟩ v') :=
    Heap.Touch.setCell (F := fun j => j = c ∨ own (vf c) j) (p := ⟨c, 1, none⟩) (ht5.mono fun j _ h => .inr h) (.inl (.inl rfl)) _
  have hHk : H k = none := hM.fresh (by omega)
  have hck : k ≠ c := fun e => by subst e; rw [hHk] at hc; cases hc
  have hrow : Row (w5.setCell ⟨c, 1, none⟩ v') 85 1 v' ({ nd with kids := nd.kids.take i ++ k :: nd.kids.drop i } : NodeP).kids.length (kidsV ({ nd with kids := nd.kids.take i ++ k :: nd.kids.drop i } : NodeP).kids) := by
    have e1 : (nd.kids.take i ++ k :: nd.kids.drop i).length = nd.kids.length + 1 := by
      have := hp.le
      simp only [List.length_append, List.length_cons, List.length_take, List.length_drop]; omega
    have e2 : kidsV (nd.kids.take i ++ k :: nd.kids.drop i) = (kidsV nd.kids).take (i * 1) ++ [ptrV k] ++ (kidsV nd.kids).drop (i * 1) := by
      simp [kidsV, List.map_take, List.map_drop]
    show Row _ _ 1 v' (nd.kids.take i ++ k :: nd.kids.drop i).length (kidsV (nd.kids.take i ++ k :: nd.kids.drop i))
    rw [e1, e2]
    refine hr.kept fun j hj _ => ?_
    rw [Below.heap_setCell _ _ _ _ (fun e => ?_)]
    exact own_ne hn5 hr (by rw [← show j = c from e]; exact hj)
  obtain ⟨h1, h2⟩ := hMa.set (nd' := { nd with kids := nd.kids.take i ++ k :: nd.kids.drop i }) (v' := v') hc htc (node_kids hn5 v' _) hrow ho
  have hxk : k ≠ x := fun e => by
    obtain ⟨rd, hr, _⟩ := hG.root
    rw [← e, hHk] at hr; cases hr
  have hMk : ¬ M k := fun h => by have := hM.bM k h; omega
  have hkb : (w5.setCell ⟨c, 1, none⟩ v').heap[k]? = some (nodeO x cnt k ⟨t, [], false, 0, nd.path ++ [t]⟩ (.slice none 0 0)) := by
    rw [h2.block k hsz hMk, hka]
    unfold nodeO
    rw [if_neg hxk]
  have h3 := h1.add hkb rfl (fun h => by
    rcases h.1 with h | h
    · exact hMk h
    · omega) (by have := hM.below.size; omega)
  have hG' := good_ins (i := i) (t := t) hG hc hHk (fun b y hb hky => by
    obtain ⟨kd, hkd, _⟩ := hG.kid b y k hb hky
    rw [hHk] at hkd; cases hkd) hlen ht hp.lo hp.hi'
  refine ⟨hG', ⟨_, _, h3, fun j hj => ?_⟩, (Heap.Touch.ofBelow hba).trans h2 fun _ _ h => h⟩
  rcases hj with hj | rfl
  · rcases hj.1 with hj | hj
    · exact .inl hj
    · exact .inr (Nat.le_trans hba.size hj)
  · exact .inr (by omega)
end
end Go.Proofs.YtpmffneohcbhbaaDoor.Idx
