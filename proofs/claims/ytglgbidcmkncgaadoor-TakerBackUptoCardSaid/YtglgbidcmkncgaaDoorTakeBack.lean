/- The list of times to wait, as it grows: plain facts of memory. -/
import Derived.Test.YtglgbidcmkncgaaDoorTakeTake
namespace Go.Proofs.YtglgbidcmkncgaaDoor.Subj
open Go.RowKit

theorem info_int : (Tryd.prog.info? 3).map (fun i => (i.zero, i.size, i.bytes)) = some (some (.int .i64 0), 1, 8) := by kernel_rfl

theorem news_int (w : World) (z : Int) (t : TypeId) : ∀ j u, ([Value.int .i64 z] : List Value)[j]? = some u → (w.alloc (.cells #[.int .i64 z] t)).cell? ((⟨w.heap.size, 0, none⟩ : Addr).add j) = some u := by
  intro j u hu
  rcases j with _ | j
  · simp only [List.getElem?_cons_zero, Option.some.injEq] at hu
    subst hu
    rw [Addr.add_lit, World.cell?_alloc_at _ _ _ _ rfl]; rfl
  · simp at hu

theorem StrsAt.touch {F : Nat → Prop} {w w' : World} {g off : Nat} {l : List Tok} (h : StrsAt w g off l) (ht : Heap.Touch F w w') (hg : ¬ F g) : StrsAt w' g off l := fun i hi =>
  (ht.cell (World.block_lt_of_cell? w _ (h i hi)) hg).trans (h i hi)

theorem TW.drewn {W : World} {B T R g : Nat} {r : List Tok} {ok : Bool} {arr : Array Value} {vb : Value} {back : List Int} {w : World} (h : TW W B T R g r ok arr vb back w) : TW W B T R g r ok arr vb back w.drew := by
  obtain ⟨off, hc, hTR, hr⟩ := h
  exact ⟨off, hc.next (Below.refl _ _).drew, hTR, hr⟩

/-- A number is told: the list grows by it. -/
theorem back_grow {W : World} {B T R g gs : Nat} {r : List Tok} {okk : Bool} {arr : Array Value} {vb : Value} {bk : List Int} {pcs : List Tok} {wr w' : World} (h : TW W B T R g r okk arr vb bk wr) (hst : StrsAt wr gs 0 pcs) (hgs : gs < wr.heap.size) (hRg : R < gs) (ho : ∀ j, Heap.own vb j → gs < j) (b : Bool) (z : Int)
    (hw' : w' = wr.drew.setCell ⟨R, 1, none⟩ (.bool b)) :
    TW W B T R g r b arr vb bk w' ∧ w'.heap[T]? = some (.cells arr 37 (0, 0)) ∧ (w'.alloc (.cells #[.int .i64 z] 3)).heap[T]? = some (.cells arr 37 (0, 0)) ∧ Heap.Row (w'.alloc (.cells #[.int .i64 z] 3)) 3 1 vb bk.length (intsV bk) ∧
      ∀ v2 w2, Heap.Row w2 3 1 v2 (bk.length + 1) (intsV bk ++ [.int .i64 z]) → Heap.Touch (Heap.own vb) (w'.alloc (.cells #[.int .i64 z] 3)) w2 → (∀ k, Heap.own v2 k → Heap.own vb k ∨ (w'.alloc (.cells #[.int .i64 z] 3)).heap.size ≤ k) →
        TW W B T R g r b arr v2 (bk ++ [z]) w2 ∧ StrsAt w2 gs 0 pcs ∧ gs < w2.heap.size ∧ (∀ j, Heap.own v2 j → gs < j) ∧ w2.heap[T]? = some (.cells arr 37 (0, 0)) := by
  have h0 : TW W B T R g r okk arr vb bk wr.drew := by
    obtain ⟨off, hc, hTR, hr⟩ := h
    exact ⟨off, hc.next (Below.refl _ _).drew, hTR, hr⟩
  have hb : Below wr.heap.size wr wr.drew := (Below.refl _ _).drew
  have h1 : TW W B T R g r b arr vb bk w' := by rw [hw']; exact h0.setOk b
  have ht1 : Heap.Touch (· = R) wr w' := by rw [hw']; exact (Heap.Touch.refl (· = R) wr).drew.setCell (.inl rfl) _
  obtain ⟨off, hc, hTR, hr⟩ := id h1
  have hba : Below w'.heap.size w' (w'.alloc (.cells #[.int .i64 z] 3)) := (Below.refl _ _).alloc (Nat.le_refl _) _
  have hca := hc.next hba
  have hsz : (w'.alloc (.cells #[.int .i64 z] 3)).heap.size = w'.heap.size + 1 := by simp
  have hs1 := ht1.size
  have hRs := Heap.heap_lt hr
  refine ⟨h1, hc.cells, hca.cells, hca.row, fun v2 w2 r2 t2 o2 => ?_⟩
  have hc2 := hca.reback r2 t2 (by omega) o2
  have hne : ∀ k, Heap.own vb k → R < k := hc.nb
  refine ⟨⟨off, hc2, hTR, ?_⟩, ?_, ?_, ?_, hc2.cells⟩
  · rw [t2.block R (by omega) (fun hk => by have := hne _ hk; omega)]
    exact (hba.block R hRs).trans hr
  · refine StrsAt.touch ?_ t2 (fun hk => by have := ho _ hk; omega)
    exact (hst.touch ht1 (by omega)).below hba
  · have := t2.size; omega
  · intro j hj
    rcases o2 j hj with hk | hk
    · exact ho j hk
    · omega

/-- So many of the times are read. -/
def BL (W : World) (B T R g gs : Nat) (nb fb : ByteArray) (src start ack wait most pend : Int) (push : Bool) (r : List Tok) (ok : Bool) (pcs : List Tok) (k : Nat) (w : World) : Prop :=
  ∃ vb okk, TW W B T R g r okk (tCells nb fb src start ack wait vb most pend push) vb ((pcs.take k).map numberOf) w ∧ okk = (ok && (pcs.take k).all fun x => decide (0 < numberOf x)) ∧ StrsAt w gs 0 pcs ∧ (gs < w.heap.size ∨ pcs.length = 0) ∧ R < gs ∧ (∀ j, Heap.own vb j → gs < j)

theorem BL.next {W : World} {B T R g gs : Nat} {nb fb : ByteArray} {src start ack wait most pend : Int} {push : Bool} {r : List Tok} {ok okk : Bool} {pcs : List Tok} {k : Nat} {vb : Value} {w : World} {z : Int}
    (_hT : TW W B T R g r okk (tCells nb fb src start ack wait vb most pend push) vb ((pcs.take k).map numberOf) w) (hok : okk = (ok && (pcs.take k).all fun x => decide (0 < numberOf x))) (_hst : StrsAt w gs 0 pcs) (_hg : gs < w.heap.size) (hR : R < gs) (_ho : ∀ j, Heap.own vb j → gs < j) (hk : k < pcs.length) (hz : z = numberOf (pcs.getD k [])) :
    ∀ v2 w2, (TW W B T R g r (okk && decide (0 < z)) (tCells nb fb src start ack wait vb most pend push) v2 ((pcs.take k).map numberOf ++ [z]) w2 ∧ StrsAt w2 gs 0 pcs ∧ gs < w2.heap.size ∧ (∀ j, Heap.own v2 j → gs < j) ∧ w2.heap[T]? = some (.cells (tCells nb fb src start ack wait vb most pend push) 37 (0, 0))) →
      w2.heap[T]? = some (.cells (tCells nb fb src start ack wait vb most pend push) 37 (0, 0)) ∧ BL W B T R g gs nb fb src start ack wait most pend push r ok pcs (k + 1) (w2.setCell ⟨T, 6, none⟩ v2) := by
  rintro v2 w2 ⟨h1, h2, h3, h4, h5⟩
  have ht : Heap.Touch (· = T) w2 (w2.setCell ⟨T, 6, none⟩ v2) := (Heap.Touch.refl (· = T) w2).setCell (.inl rfl) _
  have hTR : T < R := by obtain ⟨_, _, h, _⟩ := h1; exact h
  have e1 : (pcs.take (k + 1)).map numberOf = (pcs.take k).map numberOf ++ [z] := by
    rw [hz, List.take_add_one, List.getElem?_eq_getElem hk]
    show ((pcs.take k) ++ [pcs[k]]).map numberOf = _
    rw [List.map_append]
    simp [List.getD, hk]
  have e2 : ((pcs.take (k + 1)).all fun x => decide (0 < numberOf x)) = (((pcs.take k).all fun x => decide (0 < numberOf x)) && decide (0 < z)) := by
    rw [hz, List.take_add_one, List.getElem?_eq_getElem hk]
    show ((pcs.take k) ++ [pcs[k]]).all _ = _
    rw [List.all_append]
    simp only [List.all_cons, List.all_nil, Bool.and_true]
    simp [List.getD, hk]
  refine ⟨h5, v2, okk && decide (0 < z), ?_, ?_, h2.touch ht (by omega), .inl ?_, hR, h4⟩
  · rw [e1]; exact h1.setT 6 v2
  · rw [hok, e2, Bool.and_assoc]
  · have := ht.size; omega

end Go.Proofs.YtglgbidcmkncgaaDoor.Subj
