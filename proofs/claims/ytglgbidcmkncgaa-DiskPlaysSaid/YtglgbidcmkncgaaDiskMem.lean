/- A disk in memory: its three cells, the map of its files, each file's two cells. -/
import Derived.Test.YtglgbidcmkncgaaDiskPlain
import Derived.Maps.OwnSet
import Derived.Maps.RangeWalk
import Derived.Test.YtglgbidcmkncgaaChecked
namespace Go.Proofs.Ytglgbidcmkncgaa.Dsk
open Go.RowKit Go.Maps Heap

/-- How a pointer to a file reads: as the number of its block. -/
def ptrElem : Value → Option (DataW Unit × List MemPlace)
  | .pointer (some ⟨b, 0, none⟩) => some (.lit (.int .i64 b), [])
  | .pointer none => some (.lit (.bool false), [])
  | _ => none

theorem ptrElem_inv {v : Value} {b : Nat} {ps : List MemPlace} (h : ptrElem v = some (.lit (.int .i64 b), ps)) : v = .pointer (some ⟨b, 0, none⟩) := by
  unfold ptrElem at h
  split at h
  · rename_i b'
    simp only [Option.some.injEq, Prod.mk.injEq, DataW.lit.injEq, Lit.int.injEq, true_and] at h
    have : b' = b := by omega
    rw [this]
  · simp at h
  · cases h

theorem ptrElem_any {v : Value} {y : DataW Unit × List MemPlace} (h : ptrElem v = some y) : ∃ c : Option Nat, v = .pointer (c.map fun b => ⟨b, 0, none⟩) := by
  unfold ptrElem at h
  split at h
  · rename_i b; exact ⟨some b, rfl⟩
  · exact ⟨none, rfl⟩
  · cases h

theorem keyLaw : Keyed Try.prog 3 := int_keyed Try.underlying3
theorem zeroP (w : World) : (zeroValue 72).run Try.prog w = .ok (.pointer none) w := by kernel_rfl

theorem wf64 {n : Int} (h : -9223372036854775808 ≤ n) (h2 : n ≤ 9223372036854775807) : (Lit.int .i64 n).wf = true := WalkArith.wf_i64 ⟨h, h2⟩

theorem key64 {n : Int} (h : -9223372036854775808 ≤ n ∧ n ≤ 9223372036854775807) : keyOf Try.prog 3 (.int .i64 n) = some (.int .i64 n) := keyOf_int_mk Try.underlying3 (wf64 h.1 h.2)

theorem ownsMap_of_block {w w' : World} {b n : Nat} {X : DataW Unit} (h : w.ownsMap Try.prog 3 ptrElem b n X) (he : w'.heap[b]? = w.heap[b]?) : w'.ownsMap Try.prog 3 ptrElem b n X := by
  obtain ⟨es, clock, hb, r⟩ := h
  exact ⟨es, clock, he.trans hb, r⟩

structure DM (F : Nat → Prop) (D M : Nat) (β : Int → Nat) (X : DataW Unit) (room : Int) (A : List FileP) (w : World) : Prop where
  cells : w.heap[D]? = some (.cells #[.int .i64 room, .int .i64 (total A : Nat), .map (some M)] 71 (0, 0))
  own : w.ownsMap Try.prog 3 ptrElem M A.length X
  size : Maps.size X = A.length
  has : ∀ k : Int, Maps.has X (.int .i64 k) = (getF A k).isSome
  at_ : ∀ p ∈ A, ∀ z, X.atKey (.int .i64 p.n) z = .lit (.int .i64 (β p.n : Nat))
  files : ∀ p ∈ A, w.heap[β p.n]? = some (.cells #[.string ⟨p.text.toArray⟩, .int .i64 (p.sure : Nat)] 75 (0, 0))
  inj : ∀ p ∈ A, ∀ q ∈ A, β p.n = β q.n → p.n = q.n
  fD : F D
  fM : F M
  fF : ∀ p ∈ A, F (β p.n)

namespace DM
variable {F : Nat → Prop} {D M : Nat} {β : Int → Nat} {X : DataW Unit} {room : Int} {A : List FileP} {w w' : World}

theorem mono (h : DM F D M β X room A w) {G : Nat → Prop} (hG : ∀ k, F k → G k) : DM G D M β X room A w :=
  { h with fD := hG _ h.fD, fM := hG _ h.fM, fF := fun p hp => hG _ (h.fF p hp) }

theorem mapBlk (h : DM F D M β X room A w) : ∃ es c, w.heap[M]? = some (.map es c) := by
  obtain ⟨es, c, hb, _⟩ := h.own
  exact ⟨es, c, hb⟩

theorem neDM (h : DM F D M β X room A w) : D ≠ M := fun e => by
  obtain ⟨es, c, hb⟩ := h.mapBlk
  have := h.cells
  rw [e, hb] at this; cases this

theorem neDF (h : DM F D M β X room A w) {p : FileP} (hp : p ∈ A) : D ≠ β p.n := fun e => by
  have h1 := h.cells
  have h2 := h.files p hp
  rw [← e, h1] at h2
  simp at h2

theorem neMF (h : DM F D M β X room A w) {p : FileP} (hp : p ∈ A) : M ≠ β p.n := fun e => by
  obtain ⟨es, c, hb⟩ := h.mapBlk
  have h2 := h.files p hp
  rw [← e, hb] at h2; cases h2

theorem ltD (h : DM F D M β X room A w) : D < w.heap.size := heap_lt h.cells
theorem ltM (h : DM F D M β X room A w) : M < w.heap.size := by obtain ⟨es, c, hb⟩ := h.mapBlk; exact heap_lt hb
theorem ltF (h : DM F D M β X room A w) {p : FileP} (hp : p ∈ A) : β p.n < w.heap.size := heap_lt (h.files p hp)

/-- The disk stands while others are turned. -/
theorem kept (h : DM F D M β X room A w) (hs : Same F w w') : DM F D M β X room A w' :=
  { h with
    cells := (hs D h.fD h.ltD).trans h.cells
    own := ownsMap_of_block h.own (hs M h.fM h.ltM)
    files := fun p hp => (hs _ (h.fF p hp) (h.ltF hp)).trans (h.files p hp) }

/-- A file that is there is turned. -/
theorem set (h : DM F D M β X room A w) (hr : RightD room A) {p q : FileP} (hp : getF A q.n = some p) (ht : Heap.Touch (fun k => k = D ∨ k = β q.n) w w')
    (hD : w'.heap[D]? = some (.cells #[.int .i64 room, .int .i64 (total (setF A q) : Nat), .map (some M)] 71 (0, 0)))
    (hB : w'.heap[β q.n]? = some (.cells #[.string ⟨q.text.toArray⟩, .int .i64 (q.sure : Nat)] 75 (0, 0))) : DM F D M β X room (setF A q) w' := by
  obtain ⟨hpn, hpm⟩ := getF_n hp
  have hM := ht.block M h.ltM (by rintro (e | e); exact h.neDM e.symm; exact h.neMF hpm (by rw [hpn]; exact e))
  refine ⟨hD, ?_, ?_, fun k => ?_, fun x hx z => ?_, fun x hx => ?_, fun x hx y hy e => ?_, h.fD, h.fM, fun x hx => ?_⟩
  · rw [len_setF]; exact ownsMap_of_block h.own hM
  · rw [len_setF]; exact h.size
  · rw [h.has, getF_setF]
    by_cases e : k = q.n
    · rw [if_pos e, e, hp]; rfl
    · rw [if_neg e]
  · rcases mem_setF hr.sorted hx with rfl | ⟨hx, _⟩
    · rw [← hpn]; exact h.at_ p hpm z
    · exact h.at_ x hx z
  · rcases mem_setF hr.sorted hx with rfl | ⟨hx, hne⟩
    · exact hB
    · rw [ht.block _ (h.ltF hx) (by
        rintro (e | e)
        · exact h.neDF hx e.symm
        · exact hne ((h.inj x hx p hpm (by rw [hpn]; exact e)).trans hpn))]
      exact h.files x hx
  · have hx' : ∃ x' ∈ A, x'.n = x.n := by rcases mem_setF hr.sorted hx with rfl | ⟨hx, _⟩; exact ⟨p, hpm, hpn⟩; exact ⟨x, hx, rfl⟩
    have hy' : ∃ y' ∈ A, y'.n = y.n := by rcases mem_setF hr.sorted hy with rfl | ⟨hy, _⟩; exact ⟨p, hpm, hpn⟩; exact ⟨y, hy, rfl⟩
    obtain ⟨x', hx', ex⟩ := hx'
    obtain ⟨y', hy', ey⟩ := hy'
    rw [← ex, ← ey] at e ⊢
    exact h.inj x' hx' y' hy' e
  · rcases mem_setF hr.sorted hx with rfl | ⟨hx, _⟩
    · rw [← hpn]; exact h.fF p hpm
    · exact h.fF x hx

/-- A new file is laid. -/
theorem ins (h : DM F D M β X room A w) (hr : RightD room A) {q : FileP} {N : Nat} (hp : getF A q.n = none) (hN : w.heap.size ≤ N) (ht : Heap.Touch (fun k => k = D ∨ k = M) w w')
    (hD : w'.heap[D]? = some (.cells #[.int .i64 room, .int .i64 (total (insF A q) : Nat), .map (some M)] 71 (0, 0)))
    (hO : w'.ownsMap Try.prog 3 ptrElem M (A.length + 1) (X.put (.int .i64 q.n) (.lit (.int .i64 (N : Nat)))))
    (hB : w'.heap[N]? = some (.cells #[.string ⟨q.text.toArray⟩, .int .i64 (q.sure : Nat)] 75 (0, 0))) :
    DM (fun k => F k ∨ w.heap.size ≤ k) D M (fun k => if k = q.n then N else β k) (X.put (.int .i64 q.n) (.lit (.int .i64 (N : Nat)))) room (insF A q) w' := by
  have hne := getF_none hp
  have hmap := h.own.isMap
  have htidy := h.own.tidy keyLaw
  have hhas : Maps.has X (.int .i64 q.n) = false := by rw [h.has, hp]; rfl
  refine ⟨hD, ?_, ?_, fun k => ?_, fun x hx z => ?_, fun x hx => ?_, fun x hx y hy e => ?_, .inl h.fD, .inl h.fM, fun x hx => ?_⟩
  · rw [len_insF]; exact hO
  · rw [Maps.size_put htidy, hhas, len_insF, ← h.size]; rfl
  · rw [getF_insF hr.sorted q hne]
    by_cases e : k = q.n
    · rw [if_pos e, e, Maps.has_put_same hmap (show WideAt.IsKeyLit (.int .i64 q.n) from trivial)]; rfl
    · rw [if_neg e, Maps.has_put_other (by intro c; simp only [Lit.int.injEq, true_and] at c; exact e c), h.has]
  · rcases mem_insF.1 hx with rfl | hx
    · simp only [if_true]; exact Maps.atKey_put_same hmap (show WideAt.IsKeyLit (.int .i64 _) from trivial) _ _
    · have e := hne x hx
      simp only [if_neg e]
      rw [Maps.atKey_put_other (by intro c; simp only [Lit.int.injEq, true_and] at c; exact e c)]
      exact h.at_ x hx z
  · rcases mem_insF.1 hx with rfl | hx
    · simp only [if_true]; exact hB
    · simp only [if_neg (hne x hx)]
      rw [ht.block _ (h.ltF hx) (by rintro (e | e); exact h.neDF hx e.symm; exact h.neMF hx e.symm)]
      exact h.files x hx
  · rcases mem_insF.1 hx with ex | hx
    · rcases mem_insF.1 hy with ey | hy
      · rw [ex, ey]
      · rw [ex] at e
        simp only [if_true, if_neg (hne y hy)] at e
        have := h.ltF hy; omega
    · rcases mem_insF.1 hy with ey | hy
      · rw [ey] at e
        simp only [if_true, if_neg (hne x hx)] at e
        have := h.ltF hx; omega
      · simp only [if_neg (hne x hx), if_neg (hne y hy)] at e
        exact h.inj x hx y hy e
  · rcases mem_insF.1 hx with rfl | hx
    · simp only [if_true]; exact .inr hN
    · simp only [if_neg (hne x hx)]; exact .inl (h.fF x hx)

/-- A file is taken away. -/
theorem del (h : DM F D M β X room A w) (hr : RightD room A) {p : FileP} {n : Int} (hp : getF A n = some p) (ht : Heap.Touch (fun k => k = D ∨ k = M) w w')
    (hD : w'.heap[D]? = some (.cells #[.int .i64 room, .int .i64 (total (delF A n) : Nat), .map (some M)] 71 (0, 0)))
    (hO : w'.ownsMap Try.prog 3 ptrElem M A.length (X.del (.int .i64 n))) : DM F D M β (X.del (.int .i64 n)) room (delF A n) w' := by
  have htidy := h.own.tidy keyLaw
  have hhas : Maps.has X (.int .i64 n) = true := by rw [h.has, hp]; rfl
  have hsz : Maps.size (X.del (.int .i64 n)) = (delF A n).length := by
    have h1 := Maps.size_del (k := .int .i64 n) htidy
    rw [hhas, if_pos rfl, h.size] at h1
    have h2 := len_delF hr.sorted hp
    omega
  have hsub : ∀ x ∈ delF A n, x ∈ A ∧ x.n ≠ n := fun x hx => (mem_delF hr.sorted).1 hx
  refine ⟨hD, ?_, hsz, fun k => ?_, fun x hx z => ?_, fun x hx => ?_, fun x hx y hy e => h.inj x (hsub x hx).1 y (hsub y hy).1 e, h.fD, h.fM, fun x hx => h.fF x (hsub x hx).1⟩
  · rw [← hsz]
    obtain ⟨es, clock, hb, F', _, hX⟩ := hO
    exact ⟨es, clock, hb, F', by rw [hX]; simp [Maps.size, length_sorted], hX⟩
  · rw [getF_delF hr.sorted]
    by_cases e : k = n
    · rw [if_pos e, e, Maps.has_del_same]; rfl
    · rw [if_neg e, Maps.has_del_other (by intro c; simp only [Lit.int.injEq, true_and] at c; exact e c), h.has]
  · obtain ⟨hx, e⟩ := hsub x hx
    rw [Maps.atKey_del_other (by intro c; simp only [Lit.int.injEq, true_and] at c; exact e c)]
    exact h.at_ x hx z
  · obtain ⟨hx, e⟩ := hsub x hx
    rw [ht.block _ (h.ltF hx) (by rintro (e | e); exact h.neDF hx e.symm; exact h.neMF hx e.symm)]
    exact h.files x hx
end DM

/-- The disk at block D, of the blocks F. -/
structure DiskAt (W : World) (F : Nat → Prop) (D : Nat) (room : Int) (A : List FileP) (w : World) : Prop where
  right : RightD room A
  below : Below W.heap.size W w
  newF : ∀ k, F k → W.heap.size ≤ k
  mem : ∃ M β X, DM F D M β X room A w

/-- What has come to be since w. -/
abbrev Grow (F : Nat → Prop) (w : World) : Nat → Prop := fun k => F k ∨ w.heap.size ≤ k

/-! ### a look-up -/
section
variable {P : Program} (w : World) {ops : Array Oper} {rest : List Oper} {o : Oper} {a : Act} {Q : Exit → Act → World → Prop}

theorem look_hit (hg : o.guard = none) (m x : Operand) (hop : o.op = Op.lookup 69 m x true) (b n : Nat) (X : DataW Unit) (hm : a.eval m = .map (some b)) (hown : w.ownsMap Try.prog 3 ptrElem b n X)
    (k : Int) (hx : a.eval x = .int .i64 k) (hk : -9223372036854775808 ≤ k ∧ k ≤ 9223372036854775807) (B : Nat) (hhas : Maps.has X (.int .i64 k) = true) (hat : ∀ z, X.atKey (.int .i64 k) z = .lit (.int .i64 (B : Nat)))
    (hK : wpList Try.prog ops Q rest (a.put o.dst (.tuple #[.pointer (some ⟨B, 0, none⟩), .bool true])) w) : wpList Try.prog ops Q (o :: rest) a w :=
  wpList_lookup_own_ok w hg m x _ hop 3 72 keyLaw Try.underlying69 ptrElem (zeroP w) (.lit (.bool false)) [] rfl b n X hm hown _ _ hx (key64 hk) (fun v ps hv => by
    rw [hat] at hv
    obtain rfl := ptrElem_inv hv
    rw [hhas]; exact hK)

theorem look_miss (hg : o.guard = none) (m x : Operand) (hop : o.op = Op.lookup 69 m x true) (b n : Nat) (X : DataW Unit) (hm : a.eval m = .map (some b)) (hown : w.ownsMap Try.prog 3 ptrElem b n X)
    (k : Int) (hx : a.eval x = .int .i64 k) (hk : -9223372036854775808 ≤ k ∧ k ≤ 9223372036854775807) (hhas : Maps.has X (.int .i64 k) = false)
    (hK : wpList Try.prog ops Q rest (a.put o.dst (.tuple #[.pointer none, .bool false])) w) : wpList Try.prog ops Q (o :: rest) a w :=
  wpList_lookup_own_ok w hg m x _ hop 3 72 keyLaw Try.underlying69 ptrElem (zeroP w) (.lit (.bool false)) [] rfl b n X hm hown _ _ hx (key64 hk) (fun v ps hv => by
    rw [Maps.atKey_of_not_has hhas] at hv
    obtain rfl : v = .pointer none := by
      unfold ptrElem at hv
      split at hv
      · simp at hv
      · rfl
      · cases hv
    rw [hhas]; exact hK)

/-- 'd.files[n]' of a file that is there. -/
theorem look_at (hg : o.guard = none) (m x : Operand) (hop : o.op = Op.lookup 69 m x false) (b n : Nat) (X : DataW Unit) (hm : a.eval m = .map (some b)) (hown : w.ownsMap Try.prog 3 ptrElem b n X)
    (k : Int) (hx : a.eval x = .int .i64 k) (hk : -9223372036854775808 ≤ k ∧ k ≤ 9223372036854775807) (B : Nat) (hat : ∀ z, X.atKey (.int .i64 k) z = .lit (.int .i64 (B : Nat)))
    (hK : wpList Try.prog ops Q rest (a.put o.dst (.pointer (some ⟨B, 0, none⟩))) w) : wpList Try.prog ops Q (o :: rest) a w := by
  refine wpList_plain hg fun K' hK' => ?_
  obtain ⟨v, ps, hrun, hv⟩ := hown.lookup keyLaw Try.underlying69 (zeroP w) (zd := .lit (.bool false)) (zp := []) rfl (key64 hk)
  rw [hat] at hv
  obtain rfl := ptrElem_inv hv
  unfold Oper.wp
  simp [execOp, hop, hm, hx, hrun, Result.andThen]
  exact hK' _ _ hK
end

end Go.Proofs.Ytglgbidcmkncgaa.Dsk
