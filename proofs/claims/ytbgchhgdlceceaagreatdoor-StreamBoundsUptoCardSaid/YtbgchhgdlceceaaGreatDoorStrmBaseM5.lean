/- Parts of the proof, joined: The laws of filters, of the Lean functions. No program here.; The laws SubjectTwo, SubjectThree, SubjectSelf, walked: each returns true.; rillref.Subject, Filter, walked; and these and subject's as calls that keep.; The law SubjectSays, walked: it returns true.; Regions that draw their order and whose operations only make memory (none turns what is there): walked once, in an order of one's own. Over any program.; What the walks of package record lean on.; Encode and Coded, walked.; rillref.takes, walked by its own recursion; Takes.; rillref.overlap, walked by its own recursion; Overlap.; rillref.covers, walked by its own recursion; Covers.; The law SubjectMatches, walked: it returns true. -/
import Derived.Test.YtbgchhgdlceceaaGreatDoorStrmBaseM4
import Derived.StillTail
import Derived.Below
import Derived.Deep.Draws
import Derived.Outline
namespace Go.Proofs.YtbgchhgdlceceaaGreatDoor.Subj

theorem okPieces_wild : ∀ l : List Tok, okPieces false l = true → okPieces true l = true
  | [], _ => rfl
  | t :: ts, h => by
    simp only [okPieces, Bool.false_and, Bool.false_or, Bool.and_eq_true] at h ⊢
    exact ⟨by rw [h.1]; simp, okPieces_wild ts h.2⟩

theorem token_plain (t : Tok) (h : tokenOk t = true) : t ≠ [42] ∧ t ≠ [62] := by
  constructor
  · intro e; subst e; exact absurd h (by decide)
  · intro e; subst e; exact absurd h (by decide)

theorem takes_plain : ∀ f s : List Tok, okPieces false f = true → (takes f s = true ↔ f = s)
  | [], s, _ => by simp [takes]
  | t :: f, s, h => by
    simp only [okPieces, Bool.false_and, Bool.false_or, Bool.and_eq_true] at h
    obtain ⟨h1, h2⟩ := token_plain t h.1
    cases s with
    | nil => simp [takes, h2]
    | cons x s =>
      simp [takes, h1, h2]
      intro _
      exact takes_plain f s h.2

/-- The text of pieces. -/
def joined : List Tok → List UInt8
  | [] => []
  | [t] => t
  | t :: u :: ts => t ++ 46 :: joined (u :: ts)

theorem joined_pieces : ∀ l : List UInt8, joined (pieces l) = l
  | [] => rfl
  | b :: l => by
    have ih := joined_pieces l
    unfold pieces
    split
    · rename_i h
      cases hp : pieces l with
      | nil => exact absurd hp (pieces_ne l)
      | cons p ps =>
        rw [hp] at ih
        simp [joined, ih, h]
    · split
      · rename_i p ps hp
        rw [hp] at ih
        cases ps with
        | nil => simp [joined] at ih ⊢; exact ih
        | cons q ps => simp [joined] at ih ⊢; exact ih
      · rename_i hp
        exact absurd hp (pieces_ne l)

theorem pieces_inj {a b : List UInt8} (h : pieces a = pieces b) : a = b := by
  rw [← joined_pieces a, ← joined_pieces b, h]

theorem err_zero (wild : Bool) (l : List UInt8) : err wild l = 0 ↔ (pieces l).length ≤ 8 ∧ okPieces wild (pieces l) = true := by
  unfold err
  split
  · constructor
    · intro h; cases h
    · rintro ⟨h, _⟩; omega
  · split
    · rename_i h1 h2; exact ⟨fun _ => ⟨by omega, h2⟩, fun _ => rfl⟩
    · rename_i h1 h2; exact ⟨fun h => (by cases h), fun ⟨_, h⟩ => absurd h h2⟩

theorem err_wild (l : List UInt8) (h : err false l = 0) : err true l = 0 := by
  rw [err_zero] at h ⊢
  exact ⟨h.1, okPieces_wild _ h.2⟩

end Go.Proofs.YtbgchhgdlceceaaGreatDoor.Subj

namespace Go.Proofs.YtbgchhgdlceceaaGreatDoor.Subj
open Go.RowKit

/-! ### What 'is' tells, on lists -/

/-! ### The calls, from a world to a world -/

/-- What every call keeps: the length's cell is there; nothing of the first world is turned. -/
def Inv (w0 w : World) : Prop := ML w ∧ Below w0.heap.size w0 w

theorem Inv.refl {w : World} (h : ML w) : Inv w w := ⟨h, Below.refl _ _⟩
theorem Inv.step {w0 w w' : World} (h : Inv w0 w) (hb : Below w.heap.size w w') : Inv w0 w' := ⟨h.1.below hb, h.2.trans (hb.mono h.2.size)⟩

end Go.Proofs.YtbgchhgdlceceaaGreatDoor.Subj

namespace Go.Proofs.YtbgchhgdlceceaaGreatDoor.Subj
open Go.RowKit

/-- A call that returns a number and keeps. -/
def IntRet (w0 : World) (n : Nat) (e : Ending) (w' : World) : Prop := e = .returned (.int .i64 n) ∧ Inv w0 w'

theorem filterN_inv {w0 : World} (s : ByteArray) (hs : s.size ≤ 1048576) (w : World) (h : Inv w0 w) : Calls Tryz.prog 156 #[.string s] w (IntRet w0 (err true s.data.toList)) :=
  (filter_any s w hs h.1).mono fun _ _ ⟨a, b⟩ => ⟨a, h.step b⟩
end Go.Proofs.YtbgchhgdlceceaaGreatDoor.Subj

namespace Go.Proofs.YtbgchhgdlceceaaGreatDoor.Subj
open Go.RowKit
end Go.Proofs.YtbgchhgdlceceaaGreatDoor.Subj

namespace Go.Proofs.YtbgchhgdlceceaaGreatDoor.Grow
open Go Go.RowKit

section
variable {P : Program} {ops : Array Oper} {md : Region.Mode}

/-- What an operation yields: something of which R holds, in a world that goes on from the one that it got. -/
def upon (P : Program) (w : World) (R : Value → World → Prop) : Result Next → Prop
  | .ok (.value u) w' => Below w.heap.size w w' ∧ R u w'
  | .ok .skip w' => Below w.heap.size w w' ∧ R undef w'
  | .ok (.enter f args) w' => w' = w ∧ Calls P f args w (fun e w'' => ∃ v, e = .returned v ∧ Below w.heap.size w w'' ∧ R v w'')
  | _ => False

def growAt (P : Program) (o : Oper) (a : Act) (w : World) (R : Value → World → Prop) : Prop := upon P w R ((execOp a.eval o).run P w)

/-- It stays, whatever is made. -/
def Stable (G : World → Prop) : Prop := ∀ w w', G w → Below w.heap.size w w' → G w'

def gOp (P : Program) (ops : Array Oper) (i : Nat) (G : World → Prop) (K : (World → Prop) → Act → Prop) (a : Act) : Prop :=
  match ops[i]? with
  | none => False
  | some o =>
    if Region.wanted o (yielded ops a.tmps) then
      ∃ R : Value → World → Prop, (∀ v, Stable (R v)) ∧ (∀ w, G w → growAt P o a w R) ∧ ∀ v, (∃ w, G w ∧ R v w) → K (fun w => G w ∧ R v w) (a.put o.dst v)
    else K G (a.put o.dst undef)

def GY (P : Program) (ops : Array Oper) (G : World → Prop) (o : Oper) (v : Value) (a : Act) : Prop :=
  (Region.wanted o (yielded ops a.tmps) = true ∧ ∀ w, G w → growAt P o a w (fun u _ => u = v)) ∨
  (Region.wanted o (yielded ops a.tmps) = false ∧ v = undef)

theorem GY.mono {G G' : World → Prop} {o : Oper} {v : Value} {a : Act} (h : GY P ops G o v a) (hG : ∀ w, G' w → G w) : GY P ops G' o v a := by
  rcases h with ⟨h1, h2⟩ | h
  · exact .inl ⟨h1, fun w hw => h2 w (hG w hw)⟩
  · exact .inr h

theorem GY.of_same {G : World → Prop} {o : Oper} {v : Value} {a a' : Act} (hy : GY P ops G o v a) (he : execOp a'.eval o = execOp a.eval o)
    (hw : Region.wanted o (yielded ops a'.tmps) = Region.wanted o (yielded ops a.tmps)) : GY P ops G o v a' := by
  unfold GY growAt at *
  rw [he, hw]
  exact hy

theorem gOp_mono {i : Nat} {G G' : World → Prop} {K K' : (World → Prop) → Act → Prop} {a : Act} (hG : ∀ w, G' w → G w)
    (hK : ∀ (H H' : World → Prop) a, (∀ w, H' w → H w) → (∀ w, H' w → G' w) → K H a → K' H' a) (h : gOp P ops i G K a) : gOp P ops i G' K' a := by
  unfold gOp at *
  split
  · rename_i ho; simp only [ho] at h
  · rename_i o ho
    simp only [ho] at h
    split
    · rename_i hw
      simp only [hw, if_true] at h
      obtain ⟨R, hs, h1, h2⟩ := h
      exact ⟨R, hs, fun w hw' => h1 w (hG w hw'), fun v ⟨w, hw', hr⟩ => hK _ _ _ (fun w hh => ⟨hG w hh.1, hh.2⟩) (fun _ hh => hh.1) (h2 v ⟨w, hG w hw', hr⟩)⟩
    · rename_i hw
      simp only [hw] at h
      exact hK _ _ _ hG (fun _ hh => hh) h

theorem GY.gOp {i : Nat} {o : Oper} {v : Value} {G : World → Prop} {K : (World → Prop) → Act → Prop} {a : Act} (hi : ops[i]? = some o) (hy : GY P ops G o v a)
    (hm : ∀ (H H' : World → Prop) a, (∀ w, H' w → H w) → K H a → K H' a) (h : K G (a.put o.dst v)) : Grow.gOp P ops i G K a := by
  unfold Grow.gOp
  simp only [hi]
  rcases hy with ⟨hw, hv⟩ | ⟨hw, rfl⟩
  · simp only [hw, if_true]
    refine ⟨fun u _ => u = v, fun u w w' h _ => h, hv, fun u ⟨_, _, hu⟩ => ?_⟩
    subst hu
    exact hm _ _ _ (fun _ hh => hh.1) h
  · simp only [hw, Bool.false_eq_true, if_false]; exact h

theorem growAt_put {o : Oper} (hs : ∀ cs b, o.op ≠ .select cs b) {a : Act} {dst : Option Tmp} {v : Value} (h : ∀ d, dst = some d → d ∉ o.looksAt ops) {w : World} {R : Value → World → Prop} :
    growAt P o (a.put dst v) w R ↔ growAt P o a w R := by
  unfold growAt
  rw [execOp_put o hs a dst v h]

theorem gOp_put {j : Nat} {oi oj : Oper} {v : Value} (hj : ops[j]? = some oj) (hap : oi.apart ops oj = true)
    (hsi : ∀ cs b, oi.op ≠ .select cs b) (hsj : ∀ cs b, oj.op ≠ .select cs b) {G : World → Prop} {K : (World → Prop) → Act → Prop} {a : Act}
    (hy : GY P ops G oi v a) (h : gOp P ops j G K (a.put oi.dst v)) :
    gOp P ops j G (fun G' a' => (∀ w, G' w → G w) ∧ GY P ops G' oi v a' ∧ K G' (a'.put oi.dst v)) a := by
  obtain ⟨h1, h2, h3⟩ := Oper.apart_spec hap
  have keep : ∀ (a : Act), GY P ops G oi v a → ∀ u, GY P ops G oi v (a.put oj.dst u) := fun a hy u =>
    hy.of_same (execOp_put oi hsi a oj.dst u h3) (wanted_put oi a oj.dst u h3)
  unfold gOp at *
  simp only [hj] at *
  rw [wanted_put oj a oi.dst v h1] at h
  split
  · rename_i hw
    simp only [hw, if_true] at h
    obtain ⟨R, hs, hu, hn⟩ := h
    refine ⟨R, hs, fun w hw' => (growAt_put hsj h1).1 (hu w hw'), fun u hx => ⟨fun _ hh => hh.1, (keep a hy u).mono fun _ hh => hh.1, ?_⟩⟩
    rw [← Act.put_comm a v u h2]
    exact hn u hx
  · rename_i hw
    simp only [hw] at h
    exact ⟨fun _ hh => hh, keep a hy _, by rw [← Act.put_comm a v undef h2]; exact h⟩

/-- Whatever order is picked from here on, till the head is done. -/
def anyL (P : Program) (md : Region.Mode) (ops : Array Oper) (n : Nat) (L : Array Bool → (World → Prop) → Act → Prop) : Nat → Array Bool → (World → Prop) → Act → Prop
  | 0, listed, G, a => L listed G a
  | f + 1, listed, G, a =>
    Region.ready md ops listed ≠ [] ∧ ∀ i ∈ Region.ready md ops listed, i < n ∧ gOp P ops i G (anyL P md ops n L f (listed.setIfInBounds i true)) a

theorem anyL_mono {n : Nat} {L : Array Bool → (World → Prop) → Act → Prop} (hL : ∀ l (H H' : World → Prop) a, (∀ w, H' w → H w) → L l H a → L l H' a) :
    ∀ (f : Nat) (listed : Array Bool) (G G' : World → Prop) (a : Act), (∀ w, G' w → G w) → anyL P md ops n L f listed G a → anyL P md ops n L f listed G' a
  | 0, _, _, _, _, hG, h => hL _ _ _ _ hG h
  | f + 1, _, _, _, _, hG, h => ⟨h.1, fun i hi => ⟨(h.2 i hi).1, gOp_mono hG (fun _ _ _ hH _ hk => anyL_mono hL f _ _ _ _ hH hk) (h.2 i hi).2⟩⟩

theorem wpOp_of_gOp {i : Nat} {G : World → Prop} {K : (World → Prop) → Act → Prop} {K' : Act → World → Prop} {Q' : Exit → Act → World → Prop} {a : Act} {w : World}
    (hst : Stable G) (hG : G w) (hK : ∀ (H : World → Prop) a w, Stable H → H w → K H a → K' a w) (h : gOp P ops i G K a) : wpOp P ops Q' i K' a w := by
  unfold gOp at h
  unfold wpOp
  split
  · rename_i ho; simp only [ho] at h
  · rename_i o ho
    simp only [ho] at h
    split
    · rename_i hw
      simp only [hw, if_true] at h
      obtain ⟨R, hs, h1, h2⟩ := h
      have h3 := h1 w hG
      refine .inl ?_
      unfold growAt at h3
      unfold Oper.wp
      have on : ∀ v w', Below w.heap.size w w' → R v w' → K' (a.put o.dst v) w' := fun v w' hb hr =>
        have hG' := hst w w' hG hb
        hK _ _ _ (fun x x' hx hb' => ⟨hst x x' hx.1 hb', hs v x x' hx.2 hb'⟩) ⟨hG', hr⟩ (h2 v ⟨w', hG', hr⟩)
      generalize (execOp a.eval o).run P w = r at *
      cases r with
      | ok x w' =>
        cases x <;> simp only [upon] at h3 <;> simp only [Oper.upon]
        case value u => exact on _ _ h3.1 h3.2
        case skip => exact on _ _ h3.1 h3.2
        case enter f args =>
          obtain ⟨e1, hc⟩ := h3
          rw [e1]
          exact hc.mono fun e w'' ⟨v, he, hb, hr⟩ => by subst he; exact on _ _ hb hr
      | halt x w' => simp only [upon] at h3
    · rename_i hw
      simp only [hw] at h
      exact hK _ _ _ hst hG h

theorem wpAny_of_anyL {n g : Nat} {L : Array Bool → (World → Prop) → Act → Prop} {Q' : Exit → Act → World → Prop} (hL : ∀ listed G a w, Stable G → G w → L listed G a → wpAny P md ops Q' g listed a w) :
    ∀ (f : Nat) (listed : Array Bool) (G : World → Prop) (a : Act) (w : World), Stable G → G w → anyL P md ops n L f listed G a → wpAny P md ops Q' (f + g) listed a w
  | 0, listed, G, a, w, hs, hG, h => by rw [Nat.zero_add]; exact hL _ _ _ _ hs hG h
  | f + 1, listed, G, a, w, hs, hG, h => by
    rw [show f + 1 + g = (f + g) + 1 by omega]
    exact ⟨fun h0 => absurd h0 h.1, fun i hi => wpOp_of_gOp hs hG (fun H a' w' hs' hG' h' => wpAny_of_anyL hL f _ H a' w' hs' hG' h') (h.2 i hi).2⟩

theorem anyL_first {n i : Nat} {oi : Oper} {v : Value} {L : Array Bool → (World → Prop) → Act → Prop} (hi : ops[i]? = some oi) (hsel : ∀ (j : Nat) (o : Oper) cs b, ops[j]? = some o → o.op ≠ .select cs b)
    (hL : ∀ l (H H' : World → Prop) a, (∀ w, H' w → H w) → L l H a → L l H' a) (hin : i < n)
    (htail : ∀ listed, HeadInv md ops n listed → listed.getD i true = false → ∀ t, n ≤ t → t ∉ Region.ready md ops listed)
    (hdone : ∀ listed G a, L listed G a → ∀ j ∈ Region.ready md ops listed, n ≤ j) :
    ∀ (f : Nat) (listed : Array Bool) (G : World → Prop) (a : Act), HeadInv md ops n listed →
      (∀ j oj, ops[j]? = some oj → j ≠ i → listed.getD j true = false → (∀ e ∈ oj.after, Region.binds md e = true → e.on ≠ i) → oi.apart ops oj = true) →
      i ∈ Region.ready md ops listed → GY P ops G oi v a →
      anyL P md ops n L f (listed.setIfInBounds i true) G (a.put oi.dst v) → anyL P md ops n L (f + 1) listed G a := by
  intro f
  induction f with
  | zero =>
    intro listed G a inv _ hr hy H
    have hun := (mem_ready.1 hr).1
    refine ⟨fun h => (by rw [h] at hr; cases hr), fun j hj => ?_⟩
    have hjn : j < n := by
      rcases Nat.lt_or_ge j n with h | h
      · exact h
      · exact absurd hj (htail listed inv hun j h)
    refine ⟨hjn, ?_⟩
    by_cases hji : j = i
    · subst hji; exact hy.gOp hi (fun _ _ _ hh hk => anyL_mono hL 0 _ _ _ _ hh hk) H
    · have := hdone _ _ _ H j (ready_mono hj hji)
      omega
  | succ f ih =>
    intro listed G a inv hfree hr hy H
    have hun := (mem_ready.1 hr).1
    refine ⟨fun h => (by rw [h] at hr; cases hr), fun j hj => ?_⟩
    have hjn : j < n := by
      rcases Nat.lt_or_ge j n with h | h
      · exact h
      · exact absurd hj (htail listed inv hun j h)
    refine ⟨hjn, ?_⟩
    by_cases hji : j = i
    · subst hji; exact hy.gOp hi (fun _ _ _ hh hk => anyL_mono hL (f + 1) _ _ _ _ hh hk) H
    · have h1 := (H.2 j (ready_mono hj hji)).2
      obtain ⟨hjun, oj, hoj, hall⟩ := mem_ready.1 hj
      have hnot : ∀ e ∈ oj.after, Region.binds md e = true → e.on ≠ i := fun e he hb heq => by
        have h1 := hall e he hb
        rw [heq, getD_both hun] at h1
        cases h1
      have h2 := gOp_put hoj (hfree j oj hoj hji hjun hnot) (fun cs b => hsel i oi cs b hi) (fun cs b => hsel j oj cs b hoj) hy h1
      have hfree' : ∀ k ok, ops[k]? = some ok → k ≠ i → (listed.setIfInBounds j true).getD k true = false →
          (∀ e ∈ ok.after, Region.binds md e = true → e.on ≠ i) → oi.apart ops ok = true := fun k ok hk hki hun hno => by
        refine hfree k ok hk hki ?_ hno
        by_cases hjk : j = k
        · subst hjk; exact hjun
        · rw [getD_set_ne true hjk] at hun; exact hun
      refine gOp_mono (fun _ h => h) (fun H H' a' hH _ h3 => ih (listed.setIfInBounds j true) H' a' (inv.set hj hjn) hfree' (ready_mono hr (Ne.symm hji)) (h3.2.1.mono hH) ?_) h2
      rw [Array.setIfInBounds_comm _ _ hji]
      exact anyL_mono hL f _ _ _ _ hH h3.2.2

/-! ### An order of one's own -/

/-- (index, alone?): each may come up; it is taken first where it is apart from all others, or stands alone. -/
def schedB (md : Region.Mode) (ops : Array Oper) (n : Nat) : List (Nat × Bool) → Array Bool → Bool
  | [], listed => (Region.ready md ops listed).all fun j => decide (n ≤ j)
  | (i, s) :: rest, listed => decide (i < n) && (Region.ready md ops listed).contains i && (if s then decide (Region.ready md ops listed = [i]) else Region.free md ops listed i) &&
      schedB md ops n rest (listed.setIfInBounds i true)

/-- The walk in that order. -/
def sched (P : Program) (ops : Array Oper) (L : (World → Prop) → Act → Prop) : List (Nat × Bool) → (World → Prop) → Act → Prop
  | [], G, a => L G a
  | (i, s) :: rest, G, a =>
    match ops[i]? with
    | none => False
    | some o =>
      if Region.wanted o (yielded ops a.tmps) then
        match s with
        | false => ∃ v, (∀ w, G w → growAt P o a w (fun u _ => u = v)) ∧ sched P ops L rest G (a.put o.dst v)
        | true => ∃ R : Value → World → Prop, (∀ v, Stable (R v)) ∧ (∀ w, G w → growAt P o a w R) ∧ ∀ v, (∃ w, G w ∧ R v w) → sched P ops L rest (fun w => G w ∧ R v w) (a.put o.dst v)
      else sched P ops L rest G (a.put o.dst undef)

theorem anyL_sched {n : Nat} {L : Array Bool → (World → Prop) → Act → Prop} (hsel : Region.noSelect ops = true) (hn : n ≤ ops.size)
    (hL : ∀ l (H H' : World → Prop) a, (∀ w, H' w → H w) → L l H a → L l H' a)
    (htail : ∀ i, i < n → ∀ listed, HeadInv md ops n listed → listed.getD i true = false → ∀ t, n ≤ t → t ∉ Region.ready md ops listed)
    (hdone : ∀ listed G a, L listed G a → ∀ j ∈ Region.ready md ops listed, n ≤ j) :
    ∀ (l : List (Nat × Bool)) (listed : Array Bool) (G : World → Prop) (a : Act), HeadInv md ops n listed → schedB md ops n l listed = true →
      sched P ops (L (l.foldl (fun b x => b.setIfInBounds x.1 true) listed)) l G a → anyL P md ops n L l.length listed G a
  | [], _, _, _, _, _, h => h
  | (i, s) :: l, listed, G, a, inv, hB, h => by
    simp only [schedB, Bool.and_eq_true, decide_eq_true_eq] at hB
    obtain ⟨⟨⟨hin, hr⟩, hs⟩, hB'⟩ := hB
    have hr' : i ∈ Region.ready md ops listed := by simpa using hr
    have inv' := inv.set hr' hin
    obtain ⟨hun, oi, hoi, _⟩ := mem_ready.1 hr'
    have rec_ := fun G a h => anyL_sched hsel hn hL htail hdone l (listed.setIfInBounds i true) G a inv' hB' h
    simp only [sched, hoi] at h
    cases s with
    | false =>
      simp only [Bool.false_eq_true, if_false] at hs
      have hy : ∃ v, GY P ops G oi v a ∧ sched P ops (L (((i, false) :: l).foldl (fun b x => b.setIfInBounds x.1 true) listed)) l G (a.put oi.dst v) := by
        by_cases hw : Region.wanted oi (yielded ops a.tmps) = true
        · simp only [hw, if_true] at h
          obtain ⟨v, h1, h2⟩ := h
          exact ⟨v, .inl ⟨hw, h1⟩, h2⟩
        · simp only [hw] at h
          exact ⟨undef, .inr ⟨by simpa using hw, rfl⟩, h⟩
      obtain ⟨v, hy, hk⟩ := hy
      exact anyL_first hoi (Region.noSelect_spec hsel) hL hin (htail i hin) hdone l.length listed G a inv (Region.free_spec hoi hs) hr' hy (rec_ _ _ hk)
    | true =>
      simp only [if_true, decide_eq_true_eq] at hs
      refine ⟨fun h => (by rw [h] at hr'; cases hr'), fun j hj => ?_⟩
      rw [hs] at hj
      obtain rfl : j = i := by simpa using hj
      refine ⟨hin, ?_⟩
      unfold gOp
      simp only [hoi]
      by_cases hw : Region.wanted oi (yielded ops a.tmps) = true
      · simp only [hw, if_true] at h ⊢
        obtain ⟨R, hst, h1, h2⟩ := h
        exact ⟨R, hst, h1, fun v hv => rec_ _ _ (h2 v hv)⟩
      · simp only [hw] at h ⊢
        exact rec_ _ _ h

theorem headInv_start (n : Nat) : HeadInv md ops n (Array.replicate ops.size false) := by
  refine ⟨by simp, fun j oj _ hl => ?_, fun t _ ht => ?_⟩
  · rw [getD_replicate_false] at hl; cases hl
  · simp [ht]

/-- A region all of whose operations only make. -/
theorem wp_region {id : Nat} {Q : Exit → Act → World → Prop} {a : Act} {w : World} {l : List Oper} (σ : List (Nat × Bool)) (hm : P.follows .mixedOrders = true)
    (hB : (Region.noSelect l.toArray && decide (σ.length = l.length) && schedB .any l.toArray l.length σ (Array.replicate l.length false)) = true)
    (h : sched P l.toArray (fun G a => ∀ w, G w → Q .normal a w) σ (fun W => Below w.heap.size w W) a) : (Code.region id l.toArray true).wp P Q a w := by
  simp only [Bool.and_eq_true, decide_eq_true_eq] at hB
  obtain ⟨⟨hs, hlen⟩, hB⟩ := hB
  refine wp_region_any hm ?_
  have hno : ∀ listed j, j ∈ Region.ready .any l.toArray listed → j < l.length := fun listed j hj => by
    obtain ⟨_, oj, hoj, _⟩ := mem_ready.1 hj
    have := (Array.getElem?_eq_some_iff.1 hoj).1
    simpa using this
  have key := anyL_sched (P := P) (md := .any) (n := l.length) (L := fun listed G a => Region.ready .any l.toArray listed = [] ∧ ∀ w, G w → Q .normal a w) hs (by simp)
    (fun _ _ _ _ hH h => ⟨h.1, fun w hw => h.2 w (hH w hw)⟩) (fun _ _ listed _ _ t ht hr => by have := hno _ _ hr; omega) (fun listed G a h j hj => by rw [h.1] at hj; cases hj)
    σ (Array.replicate l.length false) (fun W => Below w.heap.size w W) a (by have := headInv_start (md := .any) (ops := l.toArray) l.length; simpa using this) hB
  have hend : ∀ (σ : List (Nat × Bool)) (listed : Array Bool), schedB .any l.toArray l.length σ listed = true → Region.ready .any l.toArray (σ.foldl (fun b x => b.setIfInBounds x.1 true) listed) = [] := by
    intro σ
    induction σ with
    | nil =>
      intro listed h
      simp only [schedB, List.all_eq_true, decide_eq_true_eq] at h
      rw [List.eq_nil_iff_forall_not_mem]
      intro j hj
      have h1 := h j hj
      have h2 := hno _ _ hj
      omega
    | cons x σ ih =>
      intro listed h
      obtain ⟨i, s⟩ := x
      simp only [schedB, Bool.and_eq_true] at h
      exact ih _ h.2
  have hsched : ∀ (σ : List (Nat × Bool)) (L L' : (World → Prop) → Act → Prop) (G : World → Prop) (a : Act), (∀ G a, L G a → L' G a) → sched P l.toArray L σ G a → sched P l.toArray L' σ G a := by
    intro σ
    induction σ with
    | nil => intro L L' G a hh h; exact hh _ _ h
    | cons x σ ih =>
      intro L L' G a hh h
      obtain ⟨i, s⟩ := x
      simp only [sched] at h ⊢
      split
      · rename_i ho; simp only [ho] at h
      · rename_i o ho
        simp only [ho] at h
        split
        · rename_i hw
          simp only [hw, if_true] at h
          cases s with
          | false => obtain ⟨v, h1, h2⟩ := h; exact ⟨v, h1, ih _ _ _ _ hh h2⟩
          | true => obtain ⟨R, h0, h1, h2⟩ := h; exact ⟨R, h0, h1, fun v hv => ih _ _ _ _ hh (h2 v hv)⟩
        · rename_i hw
          simp only [hw] at h
          exact ih _ _ _ _ hh h
  have := wpAny_of_anyL (P := P) (md := .any) (ops := l.toArray) (n := l.length) (g := 0) (Q' := Q) (L := fun listed G a => Region.ready .any l.toArray listed = [] ∧ ∀ w, G w → Q .normal a w)
    (fun listed G a w _ hG h => ⟨h.1, h.2 w hG⟩) σ.length (Array.replicate l.length false) (fun W => Below w.heap.size w W) a { w with drawn := w.drawn + 1 }
    (fun x x' hx hb => hx.trans (hb.mono hx.size)) ((Below.refl w.heap.size w).drew) (key (hsched _ _ _ _ _ (fun G a h => ⟨hend _ _ hB, h⟩) h))
  simpa [hlen] using this

/-! ### The class as a variable of a kind of its own: the walk's simp goes through it -/

structure Over (w : World) where
  val : World
  below : Below w.heap.size w val

@[go_sem] theorem below_self (w : World) : Below w.heap.size w w = True := by simp [Below.refl]

instance (w : World) : Nonempty (Over w) := ⟨⟨w, Below.refl _ _⟩⟩

theorem sched_iff {L : (World → Prop) → Act → Prop} (hL : ∀ (H H' : World → Prop) a, (∀ w, H' w → H w) → L H a → L H' a) :
    ∀ (l : List (Nat × Bool)) (G G' : World → Prop) (a : Act), (∀ w, G' w → G w) → sched P ops L l G a → sched P ops L l G' a
  | [], _, _, _, hG, h => hL _ _ _ hG h
  | (i, s) :: l, G, G', a, hG, h => by
    simp only [sched] at h ⊢
    split
    · rename_i ho; simp only [ho] at h
    · rename_i o ho
      simp only [ho] at h
      split
      · rename_i hw
        simp only [hw, if_true] at h
        cases s with
        | false => obtain ⟨v, h1, h2⟩ := h; exact ⟨v, fun w hw => h1 w (hG w hw), sched_iff hL l _ _ _ hG h2⟩
        | true =>
          obtain ⟨R, h0, h1, h2⟩ := h
          exact ⟨R, h0, fun w hw => h1 w (hG w hw), fun v ⟨w, hv, hr⟩ => sched_iff hL l _ _ _ (fun w hh => ⟨hG w hh.1, hh.2⟩) (h2 v ⟨w, hG w hv, hr⟩)⟩
      · rename_i hw
        simp only [hw] at h
        exact sched_iff hL l _ _ _ hG h

/-- What stands behind the region, in every world of the class. -/
def After (Q : Exit → Act → World → Prop) (G : World → Prop) (a : Act) : Prop := ∀ w, G w → Q .normal a w
theorem after_mono (Q : Exit → Act → World → Prop) : ∀ (H H' : World → Prop) a, (∀ w, H' w → H w) → After Q H a → After Q H' a := fun _ _ _ hH h w hw => h w (hH w hw)

theorem wp_region_over {id : Nat} {Q : Exit → Act → World → Prop} {a : Act} {w : World} {l : List Oper} (σ : List (Nat × Bool)) (hm : P.follows .mixedOrders = true)
    (hB : (Region.noSelect l.toArray && decide (σ.length = l.length) && schedB .any l.toArray l.length σ (Array.replicate l.length false)) = true)
    (h : sched P l.toArray (After Q) σ (fun W => ∃ X : Over w, W = X.val) a) : (Code.region id l.toArray true).wp P Q a w :=
  wp_region σ hm hB (sched_iff (L := After Q) (after_mono Q) σ _ _ a (fun W hW => ⟨⟨W, hW⟩, rfl⟩) h)

theorem over_stable (w : World) : Stable (fun W => ∃ X : Over w, W = X.val) := by
  rintro _ w' ⟨X, rfl⟩ hb
  exact ⟨⟨w', X.below.trans (hb.mono X.below.size)⟩, rfl⟩

theorem after_over {Q : Exit → Act → World → Prop} {a : Act} {w : World} (h : ∀ w', Below w.heap.size w w' → Q .normal a w') : After Q (fun W => ∃ X : Over w, W = X.val) a := by
  rintro _ ⟨X, rfl⟩
  exact h _ X.below

variable {L : (World → Prop) → Act → Prop} {G : World → Prop} {a : Act} {rest : List (Nat × Bool)}

theorem sched_nil (h : L G a) : sched P ops L [] G a := h

theorem sched_q {i : Nat} {o : Oper} (ho : ops[i]? = some o)
    (h : ∀ K : (World → Prop) → Act → Prop, (∀ a, sched P ops L rest G a → K G a) → if Region.wanted o (yielded ops a.tmps) then ∃ v, (∀ w, G w → growAt P o a w (fun u _ => u = v)) ∧ K G (a.put o.dst v) else K G (a.put o.dst undef)) :
    sched P ops L ((i, false) :: rest) G a := by
  simp only [sched, ho]
  exact h (sched P ops L rest) (fun _ h => h)

/-- At block g lie these bytes. -/
def BytesAt (g : Nat) (l : List UInt8) (w : World) : Prop := ∀ j, j < l.length → w.cell? ⟨g, j, none⟩ = some (.int .u8 (l.getD j 0).toNat)

theorem BytesAt.stable (g : Nat) (l : List UInt8) : Stable (BytesAt g l) := fun w _w' h hb j hj =>
  (hb.cell (World.block_lt_of_cell? w _ (h j hj))).trans (h j hj)

/-- 'string([]byte{..})': two operations, one alone, then its reader. -/
theorem sched_bytes (hL : ∀ (H H' : World → Prop) a, (∀ w, H' w → H w) → L H a → L H' a) {i j : Nat} {oi oj : Oper} {di dj : Tmp} (bs : List UInt8) {B : ByteArray} (hB : B.data.toList = bs) {T E S : TypeId} {n : Nat} {xs : Array (Nat × Operand)}
    (hi : ops[i]? = some oi) (hj : ops[j]? = some oj) (hgi : oi.guard = none) (hgj : oj.guard = none) (hdi : oi.dst = some di) (hdj : oj.dst = some dj) (_hoi : oi.op = .buildSlice T n xs) (hoj : oj.op = .convert T S (.tmp di))
    (hT : P.underlying T = some (.slice E)) (hE : P.underlying E = some (.int .u8)) (hS : P.underlying S = some .string) (hlt : di < a.tmps.size)
    (hrun : ∀ w, ∃ C : Array Value, (execOp a.eval oi).run P w = .ok (.value (.slice (some ⟨w.heap.size, 0, none⟩) bs.length bs.length)) (w.alloc (.cells C E)) ∧ C = (bs.map fun b => Value.int .u8 b.toNat).toArray)
    (_hG : Stable G) (h : ∀ v, sched P ops L rest G ((a.put (some di) v).put (some dj) (.string B))) :
    sched P ops L ((i, true) :: (j, false) :: rest) G a := by
  obtain rfl : B = ⟨bs.toArray⟩ := by apply ByteArray.ext; rw [← hB]
  simp only [sched, hi, hj]
  have hwi : Region.wanted oi (yielded ops a.tmps) = true := by simp [Region.wanted, hgi]
  rw [if_pos hwi]
  refine ⟨fun v w => ∃ g, v = .slice (some ⟨g, 0, none⟩) bs.length bs.length ∧ BytesAt g bs w, ?_, ?_, ?_⟩
  · rintro v w w' ⟨g, e, hb⟩ hbel
    exact ⟨g, e, BytesAt.stable g bs w w' hb hbel⟩
  · intro w hw
    obtain ⟨C, hr, hC⟩ := hrun w
    unfold growAt
    rw [hr]
    refine ⟨(Below.refl _ _).alloc (Nat.le_refl _) _, w.heap.size, rfl, fun q hq => ?_⟩
    rw [World.cell?_alloc_at _ _ _ _ rfl, hC]
    simp [hq, List.getD]
  · rintro v ⟨w0, _, g, rfl, _⟩
    have hwj : Region.wanted oj (yielded ops (a.put oi.dst (.slice (some ⟨g, 0, none⟩) bs.length bs.length)).tmps) = true := by simp [Region.wanted, hgj]
    rw [if_pos hwj]
    refine ⟨.string ⟨bs.toArray⟩, ?_, ?_⟩
    · rintro w ⟨_, g', e, hb⟩
      obtain rfl : g = g' := by injection e with e; injection e with e; injection e
      have hev : (a.put oi.dst (.slice (some ⟨g, 0, none⟩) bs.length bs.length)).eval (.tmp di) = .slice (some ⟨g, 0, none⟩) bs.length bs.length := by
        rw [hdi]; simp [Act.eval, Act.put, hlt]
      have hc := run_string_cells (P := P) (w := w) T S E ⟨g, 0, none⟩ bs.length bs hT hE hS (fun q hq => by
        have := hb q hq
        have hadd : (⟨g, 0, none⟩ : Addr).add q = ⟨g, q, none⟩ := by unfold Addr.add; split <;> simp_all
        rw [hadd]; exact this)
      unfold growAt execOp
      simp only [hoj, hev, Sem.run_bind, hc, Result.andThen_ok, Sem.run_pure]
      exact ⟨Below.refl _ _, rfl⟩
    · rw [hdi, hdj]; exact sched_iff hL rest _ _ _ (fun _ hh => hh.1) (h _)

end
end Go.Proofs.YtbgchhgdlceceaaGreatDoor.Grow

namespace Go.Proofs.YtbgchhgdlceceaaGreatDoor.Rec
end Go.Proofs.YtbgchhgdlceceaaGreatDoor.Rec

namespace Go.Proofs.YtbgchhgdlceceaaGreatDoor.Rec
open Go.RowKit Subj Pack Crc Grow

attribute [local go_sem] Grow.growAt Grow.upon

end Go.Proofs.YtbgchhgdlceceaaGreatDoor.Rec

namespace Go.Proofs.YtbgchhgdlceceaaGreatDoor.Subj
open Go.RowKit

theorem Strs.cons {w : World} {v : Value} {x : Tok} {l : List Tok} (h : Strs w v (x :: l)) :
    ∃ g off cap, v = .slice (some ⟨g, off, none⟩) (l.length + 1) cap ∧ l.length + 1 ≤ cap ∧ w.cell? ⟨g, off, none⟩ = some (.string ⟨x.toArray⟩) ∧
      Strs w (.slice (if cap = 1 then some ⟨g, off, none⟩ else some ⟨g, off + 1, none⟩) l.length (cap - 1)) l := by
  obtain ⟨ao, cap, rfl, hc, ha⟩ := h
  obtain ⟨g, off, rfl, hs⟩ := ha (by simp)
  refine ⟨g, off, cap, rfl, by simpa using hc, ?_, ⟨_, cap - 1, rfl, by simp at hc; omega, fun hne => ⟨g, off + 1, ?_, hs.tail⟩⟩⟩
  · have := hs 0 (by simp)
    simpa [strAt] using this
  · have := List.length_pos_iff.2 hne
    simp at hc
    rw [if_neg (by omega)]

theorem Strs.nil {w : World} {v : Value} (h : Strs w v []) : ∃ ao cap, v = .slice ao 0 cap := by
  obtain ⟨ao, cap, rfl, _, _⟩ := h
  exact ⟨ao, cap, rfl⟩

theorem Strs.drewN {w : World} {v : Value} {l : List Tok} (h : Strs w v l) (n : Nat) : Strs (w.drewN n) v l := h
theorem Strs.below {w w' : World} {v : Value} {l : List Tok} (h : Strs w v l) (hb : Below w.heap.size w w') : Strs w' v l := by
  obtain ⟨ao, cap, rfl, hc, ha⟩ := h
  exact ⟨ao, cap, rfl, hc, fun hne => let ⟨g, off, e, hs⟩ := ha hne; ⟨g, off, e, hs.below hb⟩⟩
theorem Strs.own {w : World} {base n : Nat} {v : Value} {l : List Tok} (h : w.ownsRow base 9 1 v n (strsV l)) : Strs w v l := by
  have hn : l.length = n := by have := h.1; simpa [strsV_len] using this
  subst hn
  have h0 := h
  rcases h.2 with ⟨rfl, e⟩ | ⟨g, cap, cur, rfl, _, _, hle, _⟩
  · exact ⟨none, 0, by rw [e], by omega, fun hne => absurd (List.eq_nil_of_length_eq_zero e) hne⟩
  · exact ⟨_, cap, rfl, hle, fun _ => ⟨g, 0, rfl, fun i hi => by rw [Nat.zero_add, h0.cellAt i (by omega), strsV_get _ _ hi]⟩⟩

theorem nat_beq_zero (n : Nat) : ((n : Int) == 0) = decide (n = 0) := by
  rw [Bool.eq_iff_iff]; simp
theorem bytes_toList (x : Tok) : (ByteArray.mk x.toArray).toList = x := by
  rw [ByteArray.toList_eq]

end Go.Proofs.YtbgchhgdlceceaaGreatDoor.Subj

namespace Go.Proofs.YtbgchhgdlceceaaGreatDoor.Subj
open Go.RowKit

end Go.Proofs.YtbgchhgdlceceaaGreatDoor.Subj

namespace Go.Proofs.YtbgchhgdlceceaaGreatDoor.Subj
open Go.RowKit
end Go.Proofs.YtbgchhgdlceceaaGreatDoor.Subj

namespace Go.Proofs.YtbgchhgdlceceaaGreatDoor.Subj
open Go.RowKit

theorem dec0 {n : Nat} (h : n ≠ 0) : ((n : Int) == 0) = false := by simp; omega

end Go.Proofs.YtbgchhgdlceceaaGreatDoor.Subj
