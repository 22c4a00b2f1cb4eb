/- Parts of the proof, joined: A disk in memory: its three cells, the map of its files, each file's two cells.; The disk's small calls: Used, Read, Sync.; The disk's Cut, Remove and Append. -/
import Derived.Test.YtbgchhgdlceceaaGreatDoorStrmBaseM7
import Derived.Maps.OwnSet
import Derived.Maps.RangeWalk
import Derived.RegionTactic
namespace Go.Proofs.YtbgchhgdlceceaaGreatDoor.Dsk
open Go.RowKit Go.Maps Heap

/-- How a pointer to a file reads: as the number of its block. -/
def ptrElem : Value → Option (DataW Unit × List MemPlace)
  | .pointer (some ⟨b, 0, none⟩) => some (.lit (.int .i64 b), [])
  | .pointer none => some (.lit (.bool false), [])
  | _ => none

theorem ptrElem_inv {v : Value} {b : Nat} {ps : List MemPlace} (h : ptrElem v = some (.lit (.int .i64 b), ps)) : v = .pointer (some ⟨b, 0, none⟩) := by
  unfold ptrElem at h
  split at h
  · rename_i b'
    simp only [Option.some.injEq, Prod.mk.injEq, DataW.lit.injEq, Lit.int.injEq, true_and] at h
    have : b' = b := by omega
    rw [this]
  · simp at h
  · cases h

theorem ptrElem_any {v : Value} {y : DataW Unit × List MemPlace} (h : ptrElem v = some y) : ∃ c : Option Nat, v = .pointer (c.map fun b => ⟨b, 0, none⟩) := by
  unfold ptrElem at h
  split at h
  · rename_i b; exact ⟨some b, rfl⟩
  · exact ⟨none, rfl⟩
  · cases h

theorem keyLaw : Keyed Tryz.prog 3 := int_keyed Tryz.underlying3
theorem zeroP (w : World) : (zeroValue 204).run Tryz.prog w = .ok (.pointer none) w := by kernel_rfl

theorem wf64 {n : Int} (h : -9223372036854775808 ≤ n) (h2 : n ≤ 9223372036854775807) : (Lit.int .i64 n).wf = true := WalkArith.wf_i64 ⟨h, h2⟩

theorem key64 {n : Int} (h : -9223372036854775808 ≤ n ∧ n ≤ 9223372036854775807) : keyOf Tryz.prog 3 (.int .i64 n) = some (.int .i64 n) := keyOf_int_mk Tryz.underlying3 (wf64 h.1 h.2)

theorem ownsMap_of_block {w w' : World} {b n : Nat} {X : DataW Unit} (h : w.ownsMap Tryz.prog 3 ptrElem b n X) (he : w'.heap[b]? = w.heap[b]?) : w'.ownsMap Tryz.prog 3 ptrElem b n X := by
  obtain ⟨es, clock, hb, r⟩ := h
  exact ⟨es, clock, he.trans hb, r⟩

structure DM (F : Nat → Prop) (D M : Nat) (β : Int → Nat) (X : DataW Unit) (room : Int) (A : List FileP) (w : World) : Prop where
  cells : w.heap[D]? = some (.cells #[.int .i64 room, .int .i64 (total A : Nat), .map (some M)] 189 (0, 0))
  own : w.ownsMap Tryz.prog 3 ptrElem M A.length X
  size : Maps.size X = A.length
  has : ∀ k : Int, Maps.has X (.int .i64 k) = (getF A k).isSome
  at_ : ∀ p ∈ A, ∀ z, X.atKey (.int .i64 p.n) z = .lit (.int .i64 (β p.n : Nat))
  files : ∀ p ∈ A, w.heap[β p.n]? = some (.cells #[.string ⟨p.text.toArray⟩, .int .i64 (p.sure : Nat)] 206 (0, 0))
  inj : ∀ p ∈ A, ∀ q ∈ A, β p.n = β q.n → p.n = q.n
  fD : F D
  fM : F M
  fF : ∀ p ∈ A, F (β p.n)

namespace DM
variable {F : Nat → Prop} {D M : Nat} {β : Int → Nat} {X : DataW Unit} {room : Int} {A : List FileP} {w w' : World}

theorem mono (h : DM F D M β X room A w) {G : Nat → Prop} (hG : ∀ k, F k → G k) : DM G D M β X room A w :=
  { h with fD := hG _ h.fD, fM := hG _ h.fM, fF := fun p hp => hG _ (h.fF p hp) }

theorem mapBlk (h : DM F D M β X room A w) : ∃ es c, w.heap[M]? = some (.map es c) := by
  obtain ⟨es, c, hb, _⟩ := h.own
  exact ⟨es, c, hb⟩

theorem neDM (h : DM F D M β X room A w) : D ≠ M := fun e => by
  obtain ⟨es, c, hb⟩ := h.mapBlk
  have := h.cells
  rw [e, hb] at this; cases this

theorem neDF (h : DM F D M β X room A w) {p : FileP} (hp : p ∈ A) : D ≠ β p.n := fun e => by
  have h1 := h.cells
  have h2 := h.files p hp
  rw [← e, h1] at h2
  simp at h2

theorem neMF (h : DM F D M β X room A w) {p : FileP} (hp : p ∈ A) : M ≠ β p.n := fun e => by
  obtain ⟨es, c, hb⟩ := h.mapBlk
  have h2 := h.files p hp
  rw [← e, hb] at h2; cases h2

theorem ltD (h : DM F D M β X room A w) : D < w.heap.size := heap_lt h.cells
theorem ltM (h : DM F D M β X room A w) : M < w.heap.size := by obtain ⟨es, c, hb⟩ := h.mapBlk; exact heap_lt hb
theorem ltF (h : DM F D M β X room A w) {p : FileP} (hp : p ∈ A) : β p.n < w.heap.size := heap_lt (h.files p hp)

/-- The disk stands while others are turned. -/
theorem kept (h : DM F D M β X room A w) (hs : Same F w w') : DM F D M β X room A w' :=
  { h with
    cells := (hs D h.fD h.ltD).trans h.cells
    own := ownsMap_of_block h.own (hs M h.fM h.ltM)
    files := fun p hp => (hs _ (h.fF p hp) (h.ltF hp)).trans (h.files p hp) }

/-- A file that is there is turned. -/
theorem set (h : DM F D M β X room A w) (hr : RightD room A) {p q : FileP} (hp : getF A q.n = some p) (ht : Heap.Touch (fun k => k = D ∨ k = β q.n) w w')
    (hD : w'.heap[D]? = some (.cells #[.int .i64 room, .int .i64 (total (setF A q) : Nat), .map (some M)] 189 (0, 0)))
    (hB : w'.heap[β q.n]? = some (.cells #[.string ⟨q.text.toArray⟩, .int .i64 (q.sure : Nat)] 206 (0, 0))) : DM F D M β X room (setF A q) w' := by
  obtain ⟨hpn, hpm⟩ := getF_n hp
  have hM := ht.block M h.ltM (by rintro (e | e); exact h.neDM e.symm; exact h.neMF hpm (by rw [hpn]; exact e))
  refine ⟨hD, ?_, ?_, fun k => ?_, fun x hx z => ?_, fun x hx => ?_, fun x hx y hy e => ?_, h.fD, h.fM, fun x hx => ?_⟩
  · rw [len_setF]; exact ownsMap_of_block h.own hM
  · rw [len_setF]; exact h.size
  · rw [h.has, getF_setF]
    by_cases e : k = q.n
    · rw [if_pos e, e, hp]; rfl
    · rw [if_neg e]
  · rcases mem_setF hr.sorted hx with rfl | ⟨hx, _⟩
    · rw [← hpn]; exact h.at_ p hpm z
    · exact h.at_ x hx z
  · rcases mem_setF hr.sorted hx with rfl | ⟨hx, hne⟩
    · exact hB
    · rw [ht.block _ (h.ltF hx) (by
        rintro (e | e)
        · exact h.neDF hx e.symm
        · exact hne ((h.inj x hx p hpm (by rw [hpn]; exact e)).trans hpn))]
      exact h.files x hx
  · have hx' : ∃ x' ∈ A, x'.n = x.n := by rcases mem_setF hr.sorted hx with rfl | ⟨hx, _⟩; exact ⟨p, hpm, hpn⟩; exact ⟨x, hx, rfl⟩
    have hy' : ∃ y' ∈ A, y'.n = y.n := by rcases mem_setF hr.sorted hy with rfl | ⟨hy, _⟩; exact ⟨p, hpm, hpn⟩; exact ⟨y, hy, rfl⟩
    obtain ⟨x', hx', ex⟩ := hx'
    obtain ⟨y', hy', ey⟩ := hy'
    rw [← ex, ← ey] at e ⊢
    exact h.inj x' hx' y' hy' e
  · rcases mem_setF hr.sorted hx with rfl | ⟨hx, _⟩
    · rw [← hpn]; exact h.fF p hpm
    · exact h.fF x hx

/-- A new file is laid. -/
theorem ins (h : DM F D M β X room A w) (hr : RightD room A) {q : FileP} {N : Nat} (hp : getF A q.n = none) (hN : w.heap.size ≤ N) (ht : Heap.Touch (fun k => k = D ∨ k = M) w w')
    (hD : w'.heap[D]? = some (.cells #[.int .i64 room, .int .i64 (total (insF A q) : Nat), .map (some M)] 189 (0, 0)))
    (hO : w'.ownsMap Tryz.prog 3 ptrElem M (A.length + 1) (X.put (.int .i64 q.n) (.lit (.int .i64 (N : Nat)))))
    (hB : w'.heap[N]? = some (.cells #[.string ⟨q.text.toArray⟩, .int .i64 (q.sure : Nat)] 206 (0, 0))) :
    DM (fun k => F k ∨ w.heap.size ≤ k) D M (fun k => if k = q.n then N else β k) (X.put (.int .i64 q.n) (.lit (.int .i64 (N : Nat)))) room (insF A q) w' := by
  have hne := getF_none hp
  have hmap := h.own.isMap
  have htidy := h.own.tidy keyLaw
  have hhas : Maps.has X (.int .i64 q.n) = false := by rw [h.has, hp]; rfl
  refine ⟨hD, ?_, ?_, fun k => ?_, fun x hx z => ?_, fun x hx => ?_, fun x hx y hy e => ?_, .inl h.fD, .inl h.fM, fun x hx => ?_⟩
  · rw [len_insF]; exact hO
  · rw [Maps.size_put htidy, hhas, len_insF, ← h.size]; rfl
  · rw [getF_insF hr.sorted q hne]
    by_cases e : k = q.n
    · rw [if_pos e, e, Maps.has_put_same hmap (show WideAt.IsKeyLit (.int .i64 q.n) from trivial)]; rfl
    · rw [if_neg e, Maps.has_put_other (by intro c; simp only [Lit.int.injEq, true_and] at c; exact e c), h.has]
  · rcases mem_insF.1 hx with rfl | hx
    · simp only [if_true]; exact Maps.atKey_put_same hmap (show WideAt.IsKeyLit (.int .i64 _) from trivial) _ _
    · have e := hne x hx
      simp only [if_neg e]
      rw [Maps.atKey_put_other (by intro c; simp only [Lit.int.injEq, true_and] at c; exact e c)]
      exact h.at_ x hx z
  · rcases mem_insF.1 hx with rfl | hx
    · simp only [if_true]; exact hB
    · simp only [if_neg (hne x hx)]
      rw [ht.block _ (h.ltF hx) (by rintro (e | e); exact h.neDF hx e.symm; exact h.neMF hx e.symm)]
      exact h.files x hx
  · rcases mem_insF.1 hx with ex | hx
    · rcases mem_insF.1 hy with ey | hy
      · rw [ex, ey]
      · rw [ex] at e
        simp only [if_true, if_neg (hne y hy)] at e
        have := h.ltF hy; omega
    · rcases mem_insF.1 hy with ey | hy
      · rw [ey] at e
        simp only [if_true, if_neg (hne x hx)] at e
        have := h.ltF hx; omega
      · simp only [if_neg (hne x hx), if_neg (hne y hy)] at e
        exact h.inj x hx y hy e
  · rcases mem_insF.1 hx with rfl | hx
    · simp only [if_true]; exact .inr hN
    · simp only [if_neg (hne x hx)]; exact .inl (h.fF x hx)

/-- A file is taken away. -/
theorem del (h : DM F D M β X room A w) (hr : RightD room A) {p : FileP} {n : Int} (hp : getF A n = some p) (ht : Heap.Touch (fun k => k = D ∨ k = M) w w')
    (hD : w'.heap[D]? = some (.cells #[.int .i64 room, .int .i64 (total (delF A n) : Nat), .map (some M)] 189 (0, 0)))
    (hO : w'.ownsMap Tryz.prog 3 ptrElem M A.length (X.del (.int .i64 n))) : DM F D M β (X.del (.int .i64 n)) room (delF A n) w' := by
  have htidy := h.own.tidy keyLaw
  have hhas : Maps.has X (.int .i64 n) = true := by rw [h.has, hp]; rfl
  have hsz : Maps.size (X.del (.int .i64 n)) = (delF A n).length := by
    have h1 := Maps.size_del (k := .int .i64 n) htidy
    rw [hhas, if_pos rfl, h.size] at h1
    have h2 := len_delF hr.sorted hp
    omega
  have hsub : ∀ x ∈ delF A n, x ∈ A ∧ x.n ≠ n := fun x hx => (mem_delF hr.sorted).1 hx
  refine ⟨hD, ?_, hsz, fun k => ?_, fun x hx z => ?_, fun x hx => ?_, fun x hx y hy e => h.inj x (hsub x hx).1 y (hsub y hy).1 e, h.fD, h.fM, fun x hx => h.fF x (hsub x hx).1⟩
  · rw [← hsz]
    obtain ⟨es, clock, hb, F', _, hX⟩ := hO
    exact ⟨es, clock, hb, F', by rw [hX]; simp [Maps.size, length_sorted], hX⟩
  · rw [getF_delF hr.sorted]
    by_cases e : k = n
    · rw [if_pos e, e, Maps.has_del_same]; rfl
    · rw [if_neg e, Maps.has_del_other (by intro c; simp only [Lit.int.injEq, true_and] at c; exact e c), h.has]
  · obtain ⟨hx, e⟩ := hsub x hx
    rw [Maps.atKey_del_other (by intro c; simp only [Lit.int.injEq, true_and] at c; exact e c)]
    exact h.at_ x hx z
  · obtain ⟨hx, e⟩ := hsub x hx
    rw [ht.block _ (h.ltF hx) (by rintro (e | e); exact h.neDF hx e.symm; exact h.neMF hx e.symm)]
    exact h.files x hx
end DM

/-- The disk at block D, of the blocks F. -/
structure DiskAt (W : World) (F : Nat → Prop) (D : Nat) (room : Int) (A : List FileP) (w : World) : Prop where
  right : RightD room A
  below : Below W.heap.size W w
  newF : ∀ k, F k → W.heap.size ≤ k
  mem : ∃ M β X, DM F D M β X room A w

/-- What has come to be since w. -/
abbrev Grow (F : Nat → Prop) (w : World) : Nat → Prop := fun k => F k ∨ w.heap.size ≤ k

/-! ### a look-up -/
section
variable {P : Program} (w : World) {ops : Array Oper} {rest : List Oper} {o : Oper} {a : Act} {Q : Exit → Act → World → Prop}

theorem look_hit (hg : o.guard = none) (m x : Operand) (hop : o.op = Op.lookup 187 m x true) (b n : Nat) (X : DataW Unit) (hm : a.eval m = .map (some b)) (hown : w.ownsMap Tryz.prog 3 ptrElem b n X)
    (k : Int) (hx : a.eval x = .int .i64 k) (hk : -9223372036854775808 ≤ k ∧ k ≤ 9223372036854775807) (B : Nat) (hhas : Maps.has X (.int .i64 k) = true) (hat : ∀ z, X.atKey (.int .i64 k) z = .lit (.int .i64 (B : Nat)))
    (hK : wpList Tryz.prog ops Q rest (a.put o.dst (.tuple #[.pointer (some ⟨B, 0, none⟩), .bool true])) w) : wpList Tryz.prog ops Q (o :: rest) a w :=
  wpList_lookup_own_ok w hg m x _ hop 3 204 keyLaw Tryz.underlying187 ptrElem (zeroP w) (.lit (.bool false)) [] rfl b n X hm hown _ _ hx (key64 hk) (fun v ps hv => by
    rw [hat] at hv
    obtain rfl := ptrElem_inv hv
    rw [hhas]; exact hK)

theorem look_miss (hg : o.guard = none) (m x : Operand) (hop : o.op = Op.lookup 187 m x true) (b n : Nat) (X : DataW Unit) (hm : a.eval m = .map (some b)) (hown : w.ownsMap Tryz.prog 3 ptrElem b n X)
    (k : Int) (hx : a.eval x = .int .i64 k) (hk : -9223372036854775808 ≤ k ∧ k ≤ 9223372036854775807) (hhas : Maps.has X (.int .i64 k) = false)
    (hK : wpList Tryz.prog ops Q rest (a.put o.dst (.tuple #[.pointer none, .bool false])) w) : wpList Tryz.prog ops Q (o :: rest) a w :=
  wpList_lookup_own_ok w hg m x _ hop 3 204 keyLaw Tryz.underlying187 ptrElem (zeroP w) (.lit (.bool false)) [] rfl b n X hm hown _ _ hx (key64 hk) (fun v ps hv => by
    rw [Maps.atKey_of_not_has hhas] at hv
    obtain rfl : v = .pointer none := by
      unfold ptrElem at hv
      split at hv
      · simp at hv
      · rfl
      · cases hv
    rw [hhas]; exact hK)

/-- 'd.files[n]' of a file that is there. -/
theorem look_at (hg : o.guard = none) (m x : Operand) (hop : o.op = Op.lookup 187 m x false) (b n : Nat) (X : DataW Unit) (hm : a.eval m = .map (some b)) (hown : w.ownsMap Tryz.prog 3 ptrElem b n X)
    (k : Int) (hx : a.eval x = .int .i64 k) (hk : -9223372036854775808 ≤ k ∧ k ≤ 9223372036854775807) (B : Nat) (hat : ∀ z, X.atKey (.int .i64 k) z = .lit (.int .i64 (B : Nat)))
    (hK : wpList Tryz.prog ops Q rest (a.put o.dst (.pointer (some ⟨B, 0, none⟩))) w) : wpList Tryz.prog ops Q (o :: rest) a w := by
  refine wpList_plain hg fun K' hK' => ?_
  obtain ⟨v, ps, hrun, hv⟩ := hown.lookup keyLaw Tryz.underlying187 (zeroP w) (zd := .lit (.bool false)) (zp := []) rfl (key64 hk)
  rw [hat] at hv
  obtain rfl := ptrElem_inv hv
  unfold Oper.wp
  simp [execOp, hop, hm, hx, hrun, Result.andThen]
  exact hK' _ _ hK
end

end Go.Proofs.YtbgchhgdlceceaaGreatDoor.Dsk

namespace Go.Proofs.YtbgchhgdlceceaaGreatDoor.Dsk
open Go.RowKit Go.Maps Heap

theorem twoC {B : Nat} {w : World} {t : TypeId} {a0 a1 : Value} (h : w.heap[B]? = some (.cells #[a0, a1] t (0, 0))) :
    w.cell? ⟨B, 0, none⟩ = some a0 ∧ w.cell? ⟨B, 1, none⟩ = some a1 ∧ ∀ j, w.frozen? ⟨B, j, none⟩ = false := by
  refine ⟨?_, ?_, fun j => ?_⟩
  · rw [cell_of_row w B 0 _ _ _ h]; rfl
  · rw [cell_of_row w B 1 _ _ _ h]; rfl
  · exact frozen_of_row w B j _ _ h

theorem threeC {B : Nat} {w : World} {t : TypeId} {a0 a1 a2 : Value} (h : w.heap[B]? = some (.cells #[a0, a1, a2] t (0, 0))) :
    w.cell? ⟨B, 0, none⟩ = some a0 ∧ w.cell? ⟨B, 1, none⟩ = some a1 ∧ w.cell? ⟨B, 2, none⟩ = some a2 ∧ ∀ j, w.frozen? ⟨B, j, none⟩ = false := by
  refine ⟨?_, ?_, ?_, fun j => ?_⟩
  · rw [cell_of_row w B 0 _ _ _ h]; rfl
  · rw [cell_of_row w B 1 _ _ _ h]; rfl
  · rw [cell_of_row w B 2 _ _ _ h]; rfl
  · exact frozen_of_row w B j _ _ h

section
variable {W w : World} {F : Nat → Prop} {D : Nat} {room : Int} {A : List FileP}

theorem read_any (h : DiskAt W F D room A w) (n : Int) (hk : -9223372036854775808 ≤ n ∧ n ≤ 9223372036854775807) : Calls Tryz.prog 108 #[.pointer (some ⟨D, 0, none⟩), .int .i64 n] w fun e w' => e = .returned (.tuple #[.string ⟨(readD A n).1.toArray⟩, .int .i64 ((readD A n).2 : Nat)]) ∧ w = w' := by
  obtain ⟨M, β, X, hm⟩ := h.mem
  obtain ⟨c0, c1, c2, cf⟩ := threeC hm.cells
  have hown := Lib.hid hm.own
  cases hg : getF A n with
  | some p =>
    have hhas : Maps.has X (.int .i64 n) = true := by rw [hm.has, hg]; rfl
    have hat : ∀ z, X.atKey (.int .i64 n) z = .lit (.int .i64 (β p.n : Nat)) := fun z => by have := hm.at_ p (getF_n hg).2 z; rw [(getF_n hg).1] at this; rw [(getF_n hg).1]; exact this
    obtain ⟨f0, f1, ff⟩ := twoC (hm.files p (getF_n hg).2)
    have hr : readD A n = (p.text, 0) := by unfold readD; rw [hg]
    rw [hr]
    have HHAS := Lib.hid hhas; have HAT := Lib.hid hat; have HK := Lib.hid hk
    clear hm h hg hr hhas hat hk
    go_enter Tryz.func108, Tryz.ntmps108
    go_wp2_with (first | (at_lookup; refine look_hit _ rfl _ _ rfl M _ X rfl hown.out n rfl HK.out (β p.n) HHAS.out HAT.out ?_))
    go_ret2
    exact ⟨rfl, rfl⟩
  | none =>
    have hhas : Maps.has X (.int .i64 n) = false := by rw [hm.has, hg]; rfl
    have hr : readD A n = ([], 4) := by unfold readD; rw [hg]
    rw [hr]
    have HHAS := Lib.hid hhas; have HK := Lib.hid hk
    clear hm h hg hr hhas hk
    go_enter Tryz.func108, Tryz.ntmps108
    go_wp2_with (first | (at_lookup; refine look_miss _ rfl _ _ rfl M _ X rfl hown.out n rfl HK.out HHAS.out ?_))
    go_ret2
    exact ⟨rfl, rfl⟩

/-- Of whatever two cells are written the disk's others stand. -/
theorem DiskAt.next {w' : World} {G : Nat → Prop} {A' : List FileP} (h : DiskAt W F D room A w) (hr : RightD room A') (ht : Heap.Touch F w w') (hG : ∀ k, G k → W.heap.size ≤ k) (hm : ∃ M β X, DM G D M β X room A' w') : DiskAt W G D room A' w' :=
  ⟨hr, h.below.trans (ht.below h.below.size h.newF), hG, hm⟩

theorem Grow.new (h : DiskAt W F D room A w) : ∀ k, Grow F w k → W.heap.size ≤ k := by
  rintro k (hk | hk)
  · exact h.newF k hk
  · exact Nat.le_trans h.below.size hk

/-- A disk of fewer blocks is one of more. -/
theorem DiskAt.mono {G : Nat → Prop} (h : DiskAt W F D room A w) (hG : ∀ k, F k → G k) (hn : ∀ k, G k → W.heap.size ≤ k) : DiskAt W G D room A w := by
  obtain ⟨M, β, X, hm⟩ := h.mem
  exact ⟨h.right, h.below, hn, M, β, X, hm.mono hG⟩

theorem DiskAt.kept {w' : World} (h : DiskAt W F D room A w) (hb : Below W.heap.size w w') (hs : Same F w w') : DiskAt W F D room A w' := by
  obtain ⟨M, β, X, hm⟩ := h.mem
  exact ⟨h.right, h.below.trans hb, h.newF, M, β, X, hm.kept hs⟩

set_option maxRecDepth 100000 in
theorem sync_any (h : DiskAt W F D room A w) (n : Int) (hk : -9223372036854775808 ≤ n ∧ n ≤ 9223372036854775807) : Calls Tryz.prog 104 #[.pointer (some ⟨D, 0, none⟩), .int .i64 n] w fun e w' => e = .returned (.int .i64 ((syncD A n).2 : Nat)) ∧ DiskAt W F D room (syncD A n).1 w' ∧ Heap.Touch F w w' := by
  obtain ⟨M, β, X, hm⟩ := h.mem
  obtain ⟨c0, c1, c2, cf⟩ := threeC hm.cells
  have hown := Lib.hid hm.own
  cases hg : getF A n with
  | some p =>
    obtain ⟨hpn, hpm⟩ := getF_n hg
    have hhas : Maps.has X (.int .i64 n) = true := by rw [hm.has, hg]; rfl
    have hat : ∀ z, X.atKey (.int .i64 n) z = .lit (.int .i64 (β p.n : Nat)) := fun z => by have := hm.at_ p hpm z; rw [hpn] at this; rw [hpn]; exact this
    have hf := hm.files p hpm
    obtain ⟨f0, f1, ff⟩ := twoC hf
    have hsize : (ByteArray.mk p.text.toArray).size = p.text.length := by show p.text.toArray.size = _; rw [List.size_toArray]
    have hr : syncD A n = (setF A ⟨n, p.text, p.text.length⟩, 0) := by unfold syncD; rw [hg]
    rw [hr]
    have hend : DiskAt W F D room (setF A ⟨n, p.text, p.text.length⟩) (w.setCell ⟨β p.n, 1, none⟩ (.int .i64 (p.text.length : Nat))) ∧ Heap.Touch F w (w.setCell ⟨β p.n, 1, none⟩ (.int .i64 (p.text.length : Nat))) := by
      have ht : Heap.Touch (fun k => k = β n) w (w.setCell ⟨β p.n, 1, none⟩ (.int .i64 (p.text.length : Nat))) := (Heap.Touch.refl _ w).setCell (.inl (by rw [hpn])) _
      have htF : Heap.Touch F w (w.setCell ⟨β p.n, 1, none⟩ (.int .i64 (p.text.length : Nat))) := ht.mono fun k _ e => by subst e; rw [← hpn]; exact hm.fF p hpm
      have htot : total (setF A ⟨n, p.text, p.text.length⟩) = total A := by have := total_setF (q := ⟨n, p.text, p.text.length⟩) h.right.sorted hg; simp only at this; omega
      refine ⟨h.next (h.right.set hg _ rfl (Nat.le_refl _) (by have := h.right.fits; simp only; omega)) htF h.newF ⟨M, β, X, hm.set (q := ⟨n, p.text, p.text.length⟩) h.right hg (ht.mono fun k _ e => .inr e) ?_ ?_⟩, htF⟩
      · rw [heap_setCell_other _ _ _ _ (by rw [← hpn] at *; exact hm.neDF hpm), htot]; exact hm.cells
      · rw [hpn] at hf ⊢
        rw [heap_setCell_same _ _ _ _ _ _ hf]; rfl
    have HHAS := Lib.hid hhas; have HAT := Lib.hid hat; have HK := Lib.hid hk; have HEND := Lib.hid hend
    clear hm h hg hr hhas hat hk hf hpm hpn hend
    go_enter Tryz.func104, Tryz.ntmps104
    go_wp2_with (first | (at_lookup; refine look_hit _ rfl _ _ rfl M _ X rfl hown.out n rfl HK.out (β p.n) HHAS.out HAT.out ?_))
    go_ret
    exact ⟨rfl, HEND.out⟩
  | none =>
    have hhas : Maps.has X (.int .i64 n) = false := by rw [hm.has, hg]; rfl
    have hr : syncD A n = (A, 4) := by unfold syncD; rw [hg]
    rw [hr]
    have HHAS := Lib.hid hhas; have HK := Lib.hid hk; have HH := Lib.hid h
    clear hm h hg hr hhas hk
    go_enter Tryz.func104, Tryz.ntmps104
    go_wp2_with (first | (at_lookup; refine look_miss _ rfl _ _ rfl M _ X rfl hown.out n rfl HK.out HHAS.out ?_))
    go_ret
    exact ⟨rfl, HH.out, Heap.Touch.refl _ _⟩
end
end Go.Proofs.YtbgchhgdlceceaaGreatDoor.Dsk

namespace Go.Proofs.YtbgchhgdlceceaaGreatDoor.Dsk
open Go.RowKit Go.Maps Heap

theorem text_of (l : List UInt8) : ∃ T : ByteArray, T = ⟨l.toArray⟩ ∧ T.size = l.length ∧ T.data.toList = l := ⟨_, rfl, by show l.toArray.size = _; rw [List.size_toArray], rfl⟩

theorem take_text {T : ByteArray} {l : List UInt8} (h : T.data.toList = l) (k : Nat) : (⟨(l.take k).toArray⟩ : ByteArray) = T.extract 0 k := by
  cases T with
  | mk d =>
    rw [ByteArray.extract_mk]
    apply ByteArray.ext
    apply Array.ext'
    rw [← h]
    simp

theorem app_text {T S : ByteArray} {l m : List UInt8} (h : T.data.toList = l) (h2 : S.data.toList = m) : (⟨(l ++ m).toArray⟩ : ByteArray) = T ++ S := by
  apply ByteArray.ext
  apply Array.ext'
  rw [← h, ← h2]
  simp

section
variable {W w : World} {F : Nat → Prop} {D : Nat} {room : Int} {A : List FileP}

/-- Both cells of a file and the sum are written. -/
theorem DiskAt.put {M : Nat} {β : Int → Nat} {X : DataW Unit} {w' : World} (h : DiskAt W F D room A w) (hm : DM F D M β X room A w) {n : Int} {p q : FileP} (hg : getF A n = some p) (hq : q.n = n) (hr : RightD room (setF A q)) (ht : Heap.Touch (fun k => k = D ∨ k = β p.n) w w')
    (hD : w'.heap[D]? = some (.cells #[.int .i64 room, .int .i64 (total (setF A q) : Nat), .map (some M)] 189 (0, 0)))
    (hB : w'.heap[β p.n]? = some (.cells #[.string ⟨q.text.toArray⟩, .int .i64 (q.sure : Nat)] 206 (0, 0))) : DiskAt W F D room (setF A q) w' ∧ Heap.Touch F w w' := by
  obtain ⟨hpn, hpm⟩ := getF_n hg
  have htF : Heap.Touch F w w' := ht.mono fun k _ e => by
    rcases e with rfl | rfl
    · exact hm.fD
    · exact hm.fF p hpm
  subst hq
  rw [hpn] at ht hB
  exact ⟨h.next hr htF h.newF ⟨M, β, X, hm.set h.right hg ht hD hB⟩, htF⟩

set_option maxHeartbeats 1000000 in
set_option maxRecDepth 100000 in
theorem cut_any (h : DiskAt W F D room A w) (n size : Int) (hk : -9223372036854775808 ≤ n ∧ n ≤ 9223372036854775807) : Calls Tryz.prog 102 #[.pointer (some ⟨D, 0, none⟩), .int .i64 n, .int .i64 size] w fun e w' => e = .returned (.int .i64 ((cutD A n size).2 : Nat)) ∧ DiskAt W F D room (cutD A n size).1 w' ∧ Heap.Touch F w w' := by
  obtain ⟨M, β, X, hm⟩ := h.mem
  obtain ⟨c0, c1, c2, cf⟩ := threeC hm.cells
  have hown := Lib.hid hm.own
  cases hg : getF A n with
  | some p =>
    obtain ⟨hpn, hpm⟩ := getF_n hg
    have hhas : Maps.has X (.int .i64 n) = true := by rw [hm.has, hg]; rfl
    have hat : ∀ z, X.atKey (.int .i64 n) z = .lit (.int .i64 (β p.n : Nat)) := fun z => by have := hm.at_ p hpm z; rw [hpn] at this; rw [hpn]; exact this
    have hf := hm.files p hpm
    obtain ⟨T, hT, hTs, hTl⟩ := text_of p.text
    rw [← hT] at hf
    obtain ⟨f0, f1, ff⟩ := twoC hf
    have hneDB := hm.neDF hpm
    have hlen := h.right.len hpm
    have hfit := h.right.fits; have hsm := h.right.small; have hle := le_total hpm
    by_cases hbad : size < 0 ∨ (p.text.length : Int) < size
    · have hr : cutD A n size = (A, 1) := by unfold cutD; rw [hg]; simp only; rw [if_pos hbad]
      rw [hr]
      have HHAS := Lib.hid hhas; have HAT := Lib.hid hat; have HK := Lib.hid hk; have HH := Lib.hid h
      rcases hbad with hb | hb
      · clear hm hg hr hhas hat hk hf hpm hpn h hle hT hTl hneDB hTs
        go_enter Tryz.func102, Tryz.ntmps102
        go_wp2_with (first | (at_lookup; refine look_hit _ rfl _ _ rfl M _ X rfl hown.out n rfl HK.out (β p.n) HHAS.out HAT.out ?_))
        go_ret
        exact ⟨rfl, HH.out, Heap.Touch.refl _ _⟩
      · have hb' : (T.size : Int) < size := by omega
        clear hm hg hr hhas hat hk hf hpm hpn h hle hT hTl hneDB hTs
        go_enter Tryz.func102, Tryz.ntmps102
        go_wp2_with (first | (at_lookup; refine look_hit _ rfl _ _ rfl M _ X rfl hown.out n rfl HK.out (β p.n) HHAS.out HAT.out ?_))
        go_ret
        exact ⟨rfl, HH.out, Heap.Touch.refl _ _⟩
    · obtain ⟨k, rfl⟩ : ∃ k : Nat, size = (k : Int) := ⟨size.toNat, by omega⟩
      have hkl : k ≤ T.size := by omega
      have hr : cutD A n k = (setF A ⟨n, p.text.take k, k⟩, 0) := by unfold cutD; rw [hg]; simp only; rw [if_neg hbad]; rfl
      rw [hr]
      have htk : (p.text.take k).length = k := by rw [List.length_take]; omega
      have htot : (total (setF A ⟨n, p.text.take k, k⟩) : Int) = (total A : Int) - (T.size - k) := by have := total_setF (q := ⟨n, p.text.take k, k⟩) h.right.sorted hg; simp only [htk] at this; omega
      have w1 : IntKind.i64.wrap ((T.size : Int) - k) = (T.size : Int) - k := IntWalk.i64_in _ (by omega)
      have w2 : IntKind.i64.wrap ((total A : Int) - ((T.size : Int) - k)) = (total A : Int) - ((T.size : Int) - k) := IntWalk.i64_in _ (by omega)
      have hend : ∀ w' : World, w' = (((w.setCell ⟨D, 1, none⟩ (.int .i64 ((total A : Int) - ((T.size : Int) - k)))).setCell ⟨β p.n, 0, none⟩ (.string (T.extract 0 k))).setCell ⟨β p.n, 1, none⟩ (.int .i64 k)).drew → DiskAt W F D room (setF A ⟨n, p.text.take k, k⟩) w' ∧ Heap.Touch F w w' := by
        rintro w' rfl
        refine h.put hm hg rfl (h.right.set hg _ rfl (by simp only [htk]; omega) (by simp only [htk]; omega)) ((((Heap.Touch.refl _ w).setCell (.inl (.inl rfl)) _).setCell (.inl (.inr rfl)) _).setCell (.inl (.inr rfl)) _).drew ?_ ?_
        · show (World.setCell _ _ _).heap[D]? = _
          rw [heap_setCell_other _ _ _ _ hneDB, heap_setCell_other _ _ _ _ hneDB, heap_setCell_same _ _ _ _ _ _ hm.cells, htot]; rfl
        · have f1 := heap_setCell_other w ⟨D, 1, none⟩ (β p.n) (.int .i64 ((total A : Int) - ((T.size : Int) - k))) (Ne.symm hneDB)
          have f2 := heap_setCell_same _ (β p.n) 0 _ _ (.string (T.extract 0 k)) (f1.trans hf)
          show (World.setCell _ _ _).heap[β p.n]? = _
          rw [heap_setCell_same _ _ _ _ _ _ f2]
          show _ = some (Obj.cells #[.string ⟨(p.text.take k).toArray⟩, .int .i64 (k : Nat)] _ _)
          rw [take_text hTl]; rfl
      have HHAS := Lib.hid hhas; have HAT := Lib.hid hat; have HK := Lib.hid hk; have HEND := Lib.hid hend
      clear hm h hg hr hhas hat hk hf hpm hpn hend htot hT hTl hle htk hbad hTs hlen hfit hsm
      go_enter Tryz.func102, Tryz.ntmps102
      go_wp2_with (first | (at_lookup; refine look_hit _ rfl _ _ rfl M _ X rfl hown.out n rfl HK.out (β p.n) HHAS.out HAT.out ?_))
      go_region
      go_wp2
      go_ret
      exact ⟨rfl, HEND.out _ rfl⟩
  | none =>
    have hhas : Maps.has X (.int .i64 n) = false := by rw [hm.has, hg]; rfl
    have hr : cutD A n size = (A, 4) := by unfold cutD; rw [hg]
    rw [hr]
    have HHAS := Lib.hid hhas; have HK := Lib.hid hk; have HH := Lib.hid h
    clear hm h hg hr hhas hk
    go_enter Tryz.func102, Tryz.ntmps102
    go_wp2_with (first | (at_lookup; refine look_miss _ rfl _ _ rfl M _ X rfl hown.out n rfl HK.out HHAS.out ?_))
    go_ret
    exact ⟨rfl, HH.out, Heap.Touch.refl _ _⟩

end
end Go.Proofs.YtbgchhgdlceceaaGreatDoor.Dsk
