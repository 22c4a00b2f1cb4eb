/- How a consumer's text is read: in plain Lean. -/
import Derived.Test.YtglgbidcmkncgaaDoorTakePlain
namespace Go.Proofs.YtglgbidcmkncgaaDoor.Subj

structure TakerP where
  name : List UInt8
  filt : List UInt8
  src : Int
  start : Int
  ack : Int
  wait : Int
  back : List Int
  most : Int
  pend : Int
  push : Bool

/-- The beginnings of the options, in their order: "from=", "ack=", "wait=", "backoff=", "most=", "pending=", "push". -/
def heads : List Tok := [[102, 114, 111, 109, 61], [97, 99, 107, 61], [119, 97, 105, 116, 61], [98, 97, 99, 107, 111, 102, 102, 61], [109, 111, 115, 116, 61], [112, 101, 110, 100, 105, 110, 103, 61], [112, 117, 115, 104]]

def lastW : Tok := [108, 97, 115, 116]
def newW : Tok := [110, 101, 119]
def noneW : Tok := [110, 111, 110, 101]
def allW : Tok := [97, 108, 108]

/-- An option is laid into a plan; none: it is none. -/
def optT (i : Nat) (v : Tok) (t : TakerP) : Option TakerP :=
  match i with
  | 0 => if v = lastW then some { t with src := 1 } else if v = newW then some { t with src := 2 } else if 0 < numberOf v then some { t with src := 3, start := numberOf v } else none
  | 1 => if v = noneW then some { t with ack := 0 } else if v = allW then some { t with ack := 1 } else none
  | 2 => if 0 < numberOf v then some { t with wait := numberOf v } else none
  | 3 => if ((piecesC 44 v).all fun x => decide (0 < numberOf x)) = true then some { t with back := t.back ++ (piecesC 44 v).map numberOf } else none
  | 4 => if 0 < numberOf v then some { t with most := numberOf v } else none
  | 5 => if 0 < numberOf v then some { t with pend := numberOf v } else none
  | _ => if v = [] then some { t with push := true } else none

/-- What is told from the option i on. -/
def seqF : Nat → Nat → List Tok → TakerP → Option TakerP
  | 0, _, r, t => if r = [] then some t else none
  | k + 1, i, r, t =>
    match r with
    | [] => seqF k (i + 1) [] t
    | x :: r' => if (heads.getD i []).isPrefixOf x = true then (optT i (x.drop (heads.getD i []).length) t).bind (seqF k (i + 1) r') else seqF k (i + 1) (x :: r') t

def seqT (i : Nat) (r : List Tok) (t : TakerP) : Option TakerP := seqF (7 - i) i r t

theorem seqT_end (r : List Tok) (t : TakerP) : seqT 7 r t = if r = [] then some t else none := rfl

theorem seqT_no {i : Nat} (hi : i < 7) (x : Tok) (r : List Tok) (t : TakerP) (h : (heads.getD i []).isPrefixOf x = false) : seqT i (x :: r) t = seqT (i + 1) (x :: r) t := by
  unfold seqT
  obtain ⟨k, hk⟩ : ∃ k, 7 - i = k + 1 := ⟨6 - i, by omega⟩
  have hk2 : 7 - (i + 1) = k := by omega
  rw [hk, hk2]
  conv => lhs; unfold seqF
  simp only [h, Bool.false_eq_true, if_false]

theorem seqT_yes {i : Nat} (hi : i < 7) (x : Tok) (r : List Tok) (t : TakerP) (h : (heads.getD i []).isPrefixOf x = true) : seqT i (x :: r) t = (optT i (x.drop (heads.getD i []).length) t).bind (seqT (i + 1) r) := by
  unfold seqT
  obtain ⟨k, hk⟩ : ∃ k, 7 - i = k + 1 := ⟨6 - i, by omega⟩
  have hk2 : 7 - (i + 1) = k := by omega
  rw [hk, hk2]
  conv => lhs; unfold seqF
  simp only [h, if_true]

theorem seqT_none {i : Nat} (hi : i < 7) (t : TakerP) : seqT i [] t = seqT (i + 1) [] t := by
  unfold seqT
  obtain ⟨k, hk⟩ : ∃ k, 7 - i = k + 1 := ⟨6 - i, by omega⟩
  have hk2 : 7 - (i + 1) = k := by omega
  rw [hk, hk2]
  rfl

theorem seqF_nil : ∀ (k i : Nat) (t : TakerP), seqF k i [] t = some t
  | 0, _, _ => rfl
  | k + 1, i, t => seqF_nil k (i + 1) t

theorem seqT_nil (i : Nat) (t : TakerP) : seqT i [] t = some t := seqF_nil _ _ _

/-- The plan ahead of its options. -/
def startT (n f : List UInt8) : TakerP := ⟨n, f, 0, 0, 2, 0, [], 0, 0, false⟩

def errT (t : TakerP) : Nat := takerErr t.name t.filt t.src t.start t.ack t.wait t.back t.most t.pend

def ansT : Option TakerP → Option TakerP × Nat
  | some t => if errT t = 0 then (some t, 0) else (none, errT t)
  | none => (none, 3)

/-- What 'Parse' answers. -/
def parseT (s : List UInt8) : Option TakerP × Nat :=
  if 1024 < s.length then (none, 2)
  else
    match piecesC 32 s with
    | n :: f :: r => ansT (seqT 0 r (startT n f))
    | _ => (none, 3)

theorem optT_name {i : Nat} {v : Tok} {t t' : TakerP} (h : optT i v t = some t') : t'.name = t.name ∧ t'.filt = t.filt := by
  unfold optT at h
  split at h
  all_goals
    first
      | (split at h
         · simp only [Option.some.injEq] at h; subst h; exact ⟨rfl, rfl⟩
         · split at h
           · simp only [Option.some.injEq] at h; subst h; exact ⟨rfl, rfl⟩
           · split at h
             · simp only [Option.some.injEq] at h; subst h; exact ⟨rfl, rfl⟩
             · cases h)
      | (split at h
         · simp only [Option.some.injEq] at h; subst h; exact ⟨rfl, rfl⟩
         · split at h
           · simp only [Option.some.injEq] at h; subst h; exact ⟨rfl, rfl⟩
           · cases h)
      | (split at h
         · simp only [Option.some.injEq] at h; subst h; exact ⟨rfl, rfl⟩
         · cases h)
end Go.Proofs.YtglgbidcmkncgaaDoor.Subj
