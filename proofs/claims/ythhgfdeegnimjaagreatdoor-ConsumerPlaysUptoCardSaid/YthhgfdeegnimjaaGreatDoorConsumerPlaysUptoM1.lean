/- Parts of the proof, joined: Small laws on rows of bytes and on worlds, over any program: for the walks.; Subjects and filters over lists of bytes: their tokens, what is right, who takes, overlaps, covers whom; and the laws of these. No program here. -/
import Derived.WalkKit
import Derived.WalkSpells
import Derived.WalkLawsBesides
import Derived.Maps.AppendAt
import Derived.Lib.Hide
import Derived.ProofKit
import Derived.ChangeSame
import Derived.Lib.Strings
import Derived.Lib.SplitLaws
namespace Go.Proofs.YthhgfdeegnimjaaGreatDoor
open Go.RowKit

theorem ret_int {k : IntKind} {a b : Int} (h : a = b) : Ending.returned (.int k a) = .returned (.int k b) := by rw [h]
theorem ret_bool {a b : Bool} (h : a = b) : Ending.returned (.bool a) = .returned (.bool b) := by rw [h]
theorem below_drewN {B : Nat} {a w : World} (h : Below B a w) (n : Nat) : Below B a (w.drewN n) := h.trans ⟨rfl, rfl, rfl, Nat.le_refl _, fun _ _ => rfl⟩

/-- The text of one cell that holds a byte. -/
def byteStr : Option Value → ByteArray
  | some (.int .u8 n) => ⟨#[UInt8.ofNat n.toNat]⟩
  | _ => ByteArray.empty
def isByte : Option Value → Bool
  | some (.int .u8 _) => true
  | _ => false
@[go_sem] theorem byteStr_some (n : Int) : byteStr (some (.int .u8 n)) = ⟨#[UInt8.ofNat n.toNat]⟩ := rfl
@[go_sem] theorem isByte_some (n : Int) : isByte (some (.int .u8 n)) = true := rfl

theorem bcell {W w1 : World} {B : Nat} (hb : Below B W w1) : (∀ b o, b < B → w1.cell? ⟨b, o, none⟩ = W.cell? ⟨b, o, none⟩) ∧ (∀ b o, b < B → w1.frozen? ⟨b, o, none⟩ = W.frozen? ⟨b, o, none⟩) :=
  ⟨fun b o h => hb.cell (p := ⟨b, o, none⟩) h, fun b o h => hb.frozen (p := ⟨b, o, none⟩) h⟩

/-! ### The row's last step, where of the new blocks nothing is known -/
section
open Go.WideShapes Go.ChangeShapes
variable {H : Type} {enc : TypeId × Value → H} {P : Program}
theorem post_of_below {f : Func} {s : ChangeSpec} {apart fresh handsOn again : Bool} {W W' : World} {args : Array Value} {v : Value} {ds gs : List (DataW H)} {before pa pv : List MemPlace}
    (hW : DataW.Whole enc P f.params.toList s.vars apart W args.toList ds gs before)
    (hres : ∀ (b : Nat) (sp : Nat → Bool) (hd : Bool), DataW.TrodAll enc P W' b sp hd f.resultTypes.toList (v.resultList f.resultTypes.size) (s.fn H (ds ++ gs)).results [])
    (hargs : ∀ sp : Nat → Bool, (∀ p ∈ before, sp p.block = true) → DataW.TrodAll enc P W' 0 sp true f.params.toList args.toList (s.fn H (ds ++ gs)).args pa)
    (hvars : ∀ sp : Nat → Bool, (∀ p ∈ before, sp p.block = true) → DataW.TrodVars enc P W' sp s.vars (s.fn H (ds ++ gs)).vars pv)
    (hps : before = pa ++ pv) (hb : Below W.heap.size W W')
    (hok : ∀ (j : Nat) (t : TypeId) (r : Value), f.resultTypes[j]? = some t → (v.resultList f.resultTypes.size)[j]? = some r → Value.okWide P W' .any 0 t r) :
    s.post enc P f apart fresh handsOn again W args v W' := by
  have hlt : ∀ p ∈ before, p.block < W.heap.size := fun p hp => hW.lt p hp
  have hold : ∀ p ∈ before, (fun b => decide (b < W.heap.size)) p.block = true := fun p hp => by simpa using hlt p hp
  refine ⟨ds, gs, before, [], pa, pv, hW, hres _ _ _, hargs _ hold, hvars _ hold, World.keptBut_mono (fun p hp => ⟨hp, ?_⟩) (hb.frame (· ∈ before)), fun _ => ?_⟩
  · rw [hps, List.mem_append] at hp
    exact Or.inr hp
  · obtain ⟨_, _, _, _, _, hz, hn⟩ := hW
    refine ⟨hok, _, _, ([] ++ pa) ++ pv, ⟨[] ++ pa, pv, trodAll_append (hargs _ (fun _ _ => rfl)) (hres _ _ _), hvars _ (fun _ _ => rfl), rfl, ?_, ?_⟩, ?_⟩
    · intro b off hp
      have hin : MemPlace.cell b off ∈ before := by rw [hps]; simpa using hp
      rw [hb.frozen (hlt _ hin)]
      exact hz b off hin
    · intro ha
      have := hn ha
      rw [hps] at this
      simpa using this
    · intro p hp _
      rw [hps]
      simpa using hp
end

end Go.Proofs.YthhgfdeegnimjaaGreatDoor

namespace Go.Proofs.YthhgfdeegnimjaaGreatDoor.Subj

abbrev Tok := List UInt8

/-- A text's pieces between dots. -/
def pieces : List UInt8 → List Tok
  | [] => [[]]
  | b :: l => if b = 46 then [] :: pieces l else
    match pieces l with
    | p :: ps => (b :: p) :: ps
    | [] => [[b]]

theorem pieces_ne (l : List UInt8) : pieces l ≠ [] := by
  cases l with
  | nil => simp [pieces]
  | cons b l =>
    unfold pieces
    split
    · simp
    · split <;> simp

theorem pieces_len (l : List UInt8) : (pieces l).length = l.count 46 + 1 := by
  induction l with
  | nil => simp [pieces]
  | cons b l ih =>
    unfold pieces
    by_cases h : b = 46
    · rw [if_pos h, List.length_cons, ih, h]; simp
    · rw [if_neg h, List.count_cons_of_ne (by simpa using h)]
      split
      · rename_i p ps e
        rw [e] at ih
        simpa using ih
      · rename_i e
        exact absurd e (pieces_ne l)

open Go.Lib in
theorem index_dot (l : List UInt8) : (index l [46] = -1 ∧ pieces l = [l]) ∨ ∃ i : Nat, index l [46] = i ∧ i < l.length ∧ pieces l = l.take i :: pieces (l.drop (i + 1)) := by
  induction l with
  | nil => left; exact ⟨by simp [index], rfl⟩
  | cons b l ih =>
    by_cases h : b = 46
    · right
      subst h
      refine ⟨0, by rw [index]; simp [List.isPrefixOf], by simp, ?_⟩
      simp [pieces]
    · have hp : ([46] : List UInt8).isPrefixOf (b :: l) = false := by simp [List.isPrefixOf, Ne.symm h]
      have hix : index (b :: l) [46] = if index l [46] == -1 then -1 else index l [46] + 1 := by rw [index, hp]; simp
      rcases ih with ⟨h1, h2⟩ | ⟨i, h1, h2, h3⟩
      · left
        refine ⟨by rw [hix, h1]; rfl, ?_⟩
        unfold pieces
        rw [if_neg h, h2]
      · right
        refine ⟨i + 1, ?_, by simp; omega, ?_⟩
        · rw [hix, h1, if_neg (by intro e; have := beq_iff_eq.1 e; omega)]; omega
        · conv => lhs; unfold pieces
          rw [if_neg h, h3]
          simp

open Go.Lib in
theorem splitK_pieces : ∀ (k : Nat) (l : List UInt8), (pieces l).length ≤ k + 1 → splitK [46] 0 k l = pieces l
  | 0, l, h => by
    rcases index_dot l with ⟨_, h2⟩ | ⟨i, _, _, h3⟩
    · rw [h2]; rfl
    · rw [h3] at h
      have := List.length_pos_iff.2 (pieces_ne (l.drop (i + 1)))
      rw [List.length_cons] at h; omega
  | k + 1, l, h => by
    unfold splitK
    rcases index_dot l with ⟨h1, h2⟩ | ⟨i, h1, h2, h3⟩
    · rw [h1, h2]; rfl
    · rw [h1, if_neg (by intro e; have := beq_iff_eq.1 e; omega), h3]
      have := splitK_pieces k (l.drop (i + 1)) (by rw [h3] at h; simpa using h)
      rw [show ((i : Int).toNat + ([46] : List UInt8).length) = i + 1 from rfl, this]
      rfl

/-- A byte of a token. -/
def byteOk (b : UInt8) : Bool := decide (33 ≤ b.toNat) && decide (b.toNat ≤ 126) && b.toNat != 42 && b.toNat != 62

def tokenOk (t : Tok) : Bool := t.all byteOk && decide (1 ≤ t.length) && decide (t.length ≤ 16)

/-- Are all tokens right? -/
def okPieces (wild : Bool) : List Tok → Bool
  | [] => true
  | t :: ts => ((wild && (t == [42] || (t == [62] && ts.isEmpty))) || tokenOk t) && okPieces wild ts

/-- What is wrong with a subject (wild: a filter): 0: nothing; 2: too many tokens; 3: a token. -/
def err (wild : Bool) (l : List UInt8) : Nat := if 8 < (pieces l).length then 2 else if okPieces wild (pieces l) then 0 else 3

/-- Does a filter take a row of tokens? -/
def takes : List Tok → List Tok → Bool
  | [], s => s.isEmpty
  | t :: f, s => if t == [62] then !s.isEmpty else match s with
    | [] => false
    | x :: s => (t == [42] || t == x) && takes f s

def overlap : List Tok → List Tok → Bool
  | [], g => g.isEmpty
  | _ :: _, [] => false
  | x :: f, y :: g => if x == [62] || y == [62] then true else (x == y || x == [42] || y == [42]) && overlap f g

end Go.Proofs.YthhgfdeegnimjaaGreatDoor.Subj
