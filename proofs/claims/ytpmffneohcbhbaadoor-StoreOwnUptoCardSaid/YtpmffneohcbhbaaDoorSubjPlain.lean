/- Subjects and filters over lists of bytes: their tokens, what is right, who takes, overlaps, covers whom; and the laws of these. No program here. -/
import Derived.Lib.SplitLaws
namespace Go.Proofs.YtpmffneohcbhbaaDoor.Subj

abbrev Tok := List UInt8

/-- A text's pieces between dots. -/
def pieces : List UInt8 → List Tok
  | [] => [[]]
  | b :: l => if b = 46 then [] :: pieces l else
    match pieces l with
    | p :: ps => (b :: p) :: ps
    | [] => [[b]]

theorem pieces_ne (l : List UInt8) : pieces l ≠ [] := by
  cases l with
  | nil => simp [pieces]
  | cons b l =>
    unfold pieces
    split
    · simp
    · split <;> simp

theorem pieces_len (l : List UInt8) : (pieces l).length = l.count 46 + 1 := by
  induction l with
  | nil => simp [pieces]
  | cons b l ih =>
    unfold pieces
    by_cases h : b = 46
    · rw [if_pos h, List.length_cons, ih, h]; simp
    · rw [if_neg h, List.count_cons_of_ne (by simpa using h)]
      split
      · rename_i p ps e
        rw [e] at ih
        simpa using ih
      · rename_i e
        exact absurd e (pieces_ne l)

open Go.Lib in
theorem index_dot (l : List UInt8) : (index l [46] = -1 ∧ pieces l = [l]) ∨ ∃ i : Nat, index l [46] = i ∧ i < l.length ∧ pieces l = l.take i :: pieces (l.drop (i + 1)) := by
  induction l with
  | nil => left; exact ⟨by simp [index], rfl⟩
  | cons b l ih =>
    by_cases h : b = 46
    · right
      subst h
      refine ⟨0, by rw [index]; simp [List.isPrefixOf], by simp, ?_⟩
      simp [pieces]
    · have hp : ([46] : List UInt8).isPrefixOf (b :: l) = false := by simp [List.isPrefixOf, Ne.symm h]
      have hix : index (b :: l) [46] = if index l [46] == -1 then -1 else index l [46] + 1 := by rw [index, hp]; simp
      rcases ih with ⟨h1, h2⟩ | ⟨i, h1, h2, h3⟩
      · left
        refine ⟨by rw [hix, h1]; rfl, ?_⟩
        unfold pieces
        rw [if_neg h, h2]
      · right
        refine ⟨i + 1, ?_, by simp; omega, ?_⟩
        · rw [hix, h1, if_neg (by intro e; have := beq_iff_eq.1 e; omega)]; omega
        · conv => lhs; unfold pieces
          rw [if_neg h, h3]
          simp

open Go.Lib in
theorem splitK_pieces : ∀ (k : Nat) (l : List UInt8), (pieces l).length ≤ k + 1 → splitK [46] 0 k l = pieces l
  | 0, l, h => by
    rcases index_dot l with ⟨_, h2⟩ | ⟨i, _, _, h3⟩
    · rw [h2]; rfl
    · rw [h3] at h
      have := List.length_pos_iff.2 (pieces_ne (l.drop (i + 1)))
      rw [List.length_cons] at h; omega
  | k + 1, l, h => by
    unfold splitK
    rcases index_dot l with ⟨h1, h2⟩ | ⟨i, h1, h2, h3⟩
    · rw [h1, h2]; rfl
    · rw [h1, if_neg (by intro e; have := beq_iff_eq.1 e; omega), h3]
      have := splitK_pieces k (l.drop (i + 1)) (by rw [h3] at h; simpa using h)
      rw [show ((i : Int).toNat + ([46] : List UInt8).length) = i + 1 from rfl, this]
      rfl

/-- A byte of a token. -/
def byteOk (b : UInt8) : Bool := decide (33 ≤ b.toNat) && decide (b.toNat ≤ 126) && b.toNat != 42 && b.toNat != 62

def tokenOk (t : Tok) : Bool := t.all byteOk && decide (1 ≤ t.length) && decide (t.length ≤ 16)

/-- Are all tokens right? -/
def okPieces (wild : Bool) : List Tok → Bool
  | [] => true
  | t :: ts => ((wild && (t == [42] || (t == [62] && ts.isEmpty))) || tokenOk t) && okPieces wild ts

/-- What is wrong with a subject (wild: a filter): 0: nothing; 2: too many tokens; 3: a token. -/
def err (wild : Bool) (l : List UInt8) : Nat := if 8 < (pieces l).length then 2 else if okPieces wild (pieces l) then 0 else 3

/-- Does a filter take a row of tokens? -/
def takes : List Tok → List Tok → Bool
  | [], s => s.isEmpty
  | t :: f, s => if t == [62] then !s.isEmpty else match s with
    | [] => false
    | x :: s => (t == [42] || t == x) && takes f s

def overlap : List Tok → List Tok → Bool
  | [], g => g.isEmpty
  | _ :: _, [] => false
  | x :: f, y :: g => if x == [62] || y == [62] then true else (x == y || x == [42] || y == [42]) && overlap f g

def covers : List Tok → List Tok → Bool
  | [], g => g.isEmpty
  | _ :: _, [] => false
  | x :: f, y :: g => if x == [62] then true else y != [62] && (x == [42] || x == y) && covers f g

end Go.Proofs.YtpmffneohcbhbaaDoor.Subj
