/- Consumers' plans in plain Lean: what is wrong with one. -/
import Derived.Test.YtglgbidcmkncgaaDoorPlanPlain
namespace Go.Proofs.YtglgbidcmkncgaaDoor.Subj

/-- A number in its bounds. -/
def inB (n lo hi : Int) : Bool := decide (lo ≤ n) && decide (n ≤ hi)

def timesOk (ack wait : Int) (back : List Int) (most pend : Int) : Bool :=
  if ack == 0 then (wait == 0) && (((back.length : Nat) : Int) == 0) && (most == 0) && (pend == 0)
  else inB wait 1 100000 && inB most 0 20 && inB pend 0 50 && back.all fun z => inB z 1 100000

def startOk (src start : Int) : Bool := if src == 3 then inB start 1 999999999 else start == 0

def argsOk (src start ack wait : Int) (back : List Int) (most pend : Int) : Bool :=
  inB src 0 3 && startOk src start && inB ack 0 2 && timesOk ack wait back most pend

/-- What 'Check' answers. -/
def takerErr (name filt : List UInt8) (src start ack wait : Int) (back : List Int) (most pend : Int) : Nat :=
  if nameOk name = true then
    if err true filt = 0 then if 5 < back.length then 2 else if argsOk src start ack wait back most pend = true then 0 else 1
    else err true filt
  else 3

theorem any_not (p : Int → Bool) (l : List Int) : (!(l.any fun z => !p z)) = l.all p := by
  induction l with
  | nil => rfl
  | cons a l ih => rw [List.any_cons, List.all_cons, Bool.not_or, ih, Bool.not_not]

theorem all_takeI (p : Int → Bool) (l : List Int) (k : Nat) (hk : k < l.length) : (l.take (k + 1)).all p = ((l.take k).all p && p (l.getD k 0)) := by
  have e : l.getD k 0 = l[k] := by simp [List.getD, hk]
  rw [List.take_add_one, List.getElem?_eq_getElem hk, e]
  show (l.take k ++ [l[k]]).all p = _
  rw [List.all_append, List.all_cons, List.all_nil, Bool.and_true]

end Go.Proofs.YtglgbidcmkncgaaDoor.Subj
