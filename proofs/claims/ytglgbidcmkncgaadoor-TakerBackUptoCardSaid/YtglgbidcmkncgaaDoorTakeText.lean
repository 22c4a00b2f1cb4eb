/- How a consumer's plan is printed: in plain Lean. -/
import Derived.Test.YtglgbidcmkncgaaDoorTakeSeq
import Derived.Test.YtglgbidcmkncgaaDoorPlanPrint
import Derived.Lib.Join
import Derived.Lib.ItoaNum
namespace Go.Proofs.YtglgbidcmkncgaaDoor.Subj

def fromE : Tok := [102, 114, 111, 109, 61]
def waitE : Tok := [119, 97, 105, 116, 61]
def backE : Tok := [98, 97, 99, 107, 111, 102, 102, 61]
def mostE : Tok := [109, 111, 115, 116, 61]
def pendE : Tok := [112, 101, 110, 100, 105, 110, 103, 61]

def fromWs (src start : Int) : List Tok :=
  if src == 1 then [[102, 114, 111, 109, 61, 108, 97, 115, 116]] else if src == 2 then [[102, 114, 111, 109, 61, 110, 101, 119]] else if src == 3 then [fromE ++ Lib.itoa start] else []
def ackWs (ack : Int) : List Tok :=
  if ack == 0 then [[97, 99, 107, 61, 110, 111, 110, 101]] else if ack == 1 then [[97, 99, 107, 61, 97, 108, 108]] else []
def numWs (e : Tok) (n : Int) : List Tok := if 0 < n then [e ++ Lib.itoa n] else []
def listT (back : List Int) : List UInt8 := Lib.join (back.map Lib.itoa) [44]
def backWs (back : List Int) : List Tok := if 0 < back.length then [backE ++ listT back] else []
def pushWs (push : Bool) : List Tok := if push then [[112, 117, 115, 104]] else []

/-- The words of a consumer's text. -/
def wordsT (t : TakerP) : List Tok :=
  [t.name, t.filt] ++ fromWs t.src t.start ++ ackWs t.ack ++ numWs waitE t.wait ++ backWs t.back ++ numWs mostE t.most ++ numWs pendE t.pend ++ pushWs t.push

def textT (t : TakerP) : List UInt8 := Lib.join (wordsT t) [32]

def flatS (r : List Tok) : List UInt8 := r.flatMap fun t => [32] ++ t

theorem join_flat (a : Tok) : ∀ r : List Tok, Lib.join (a :: r) [32] = a ++ flatS r
  | [] => by simp [Lib.join, List.intercalate, flatS]
  | b :: r => by
    have ih := join_flat b r
    have e : Lib.join (a :: b :: r) [32] = a ++ [32] ++ Lib.join (b :: r) [32] := by
      simp [Lib.join, List.intercalate, List.intersperse]
    rw [e, ih]
    simp [flatS]

theorem textT_flat (t : TakerP) : textT t = t.name ++ ([32] ++ t.filt) ++ flatS (fromWs t.src t.start) ++ flatS (ackWs t.ack) ++ flatS (numWs waitE t.wait) ++ flatS (backWs t.back) ++ flatS (numWs mostE t.most) ++ flatS (numWs pendE t.pend) ++ flatS (pushWs t.push) := by
  unfold textT wordsT
  simp only [List.cons_append, List.nil_append, List.append_assoc]
  rw [join_flat]
  simp [flatS, List.flatMap_append]

/-- What a right plan's parts are. -/
theorem errT_facts {t : TakerP} (h : errT t = 0) : nameOk t.name = true ∧ err true t.filt = 0 ∧ t.back.length ≤ 5 ∧ argsOk t.src t.start t.ack t.wait t.back t.most t.pend = true := by
  unfold errT takerErr at h
  split at h
  · rename_i h1
    split at h
    · rename_i h2
      split at h
      · cases h
      · split at h
        · rename_i h3 h4; exact ⟨h1, h2, by omega, h4⟩
        · cases h
    · contradiction
  · cases h

theorem inB_iff {n lo hi : Int} : inB n lo hi = true ↔ lo ≤ n ∧ n ≤ hi := by
  unfold inB; rw [Bool.and_eq_true, decide_eq_true_eq, decide_eq_true_eq]

theorem argsOk_facts {src start ack wait : Int} {back : List Int} {most pend : Int} (h : argsOk src start ack wait back most pend = true) :
    (0 ≤ src ∧ src ≤ 3) ∧ (src = 3 → 1 ≤ start ∧ start ≤ 999999999) ∧ (0 ≤ start ∧ start ≤ 999999999) ∧ (0 ≤ ack ∧ ack ≤ 2) ∧ (0 ≤ wait ∧ wait ≤ 100000) ∧ (ack ≠ 0 → 1 ≤ wait) ∧ (ack = 0 → wait = 0) ∧ (0 ≤ most ∧ most ≤ 20) ∧ (0 ≤ pend ∧ pend ≤ 50) ∧ ∀ k, k < back.length → 1 ≤ back.getD k 0 ∧ back.getD k 0 ≤ 100000 := by
  unfold argsOk at h
  simp only [Bool.and_eq_true] at h
  obtain ⟨⟨⟨h1, h2⟩, h3⟩, h4⟩ := h
  rw [inB_iff] at h1 h3
  have hst : (src = 3 → 1 ≤ start ∧ start ≤ 999999999) ∧ (0 ≤ start ∧ start ≤ 999999999) := by
    unfold startOk at h2
    by_cases e : src = 3
    · rw [e, if_pos (show ((3 : Int) == 3) = true from rfl), inB_iff] at h2
      exact ⟨fun _ => h2, by omega⟩
    · rw [if_neg (by simpa using e), beq_iff_eq] at h2
      exact ⟨fun e2 => absurd e2 e, by omega⟩
  refine ⟨h1, hst.1, hst.2, h3, ?_⟩
  unfold timesOk at h4
  by_cases e : ack = 0
  · rw [e, if_pos (show ((0 : Int) == 0) = true from rfl)] at h4
    simp only [Bool.and_eq_true, beq_iff_eq] at h4
    obtain ⟨⟨⟨g1, g2⟩, g3⟩, g4⟩ := h4
    exact ⟨by omega, fun h => absurd e h, fun _ => g1, by omega, by omega, fun k hk => by omega⟩
  · rw [if_neg (by simpa using e)] at h4
    simp only [Bool.and_eq_true] at h4
    obtain ⟨⟨⟨g1, g2⟩, g3⟩, g4⟩ := h4
    rw [inB_iff] at g1 g2 g3
    refine ⟨by omega, fun _ => g1.1, fun h => absurd h e, by omega, by omega, fun k hk => ?_⟩
    rw [List.all_eq_true] at g4
    have := g4 (back.getD k 0) (by simp [List.getD, hk])
    rwa [inB_iff] at this

theorem listT_take {back : List Int} {k : Nat} (hk : k < back.length) (hp : 0 < k) : listT (back.take (k + 1)) = listT (back.take k) ++ [44] ++ Lib.itoa (back.getD k 0) := by
  unfold listT
  rw [List.take_add_one, List.getElem?_eq_getElem hk]
  have hne : (back.take k).map Lib.itoa ≠ [] := by
    intro e; have := congrArg List.length e; rw [List.length_map, List.length_take, List.length_nil] at this; omega
  show joinC ((back.take k ++ [back[k]]).map Lib.itoa) = joinC ((back.take k).map Lib.itoa) ++ [44] ++ _
  rw [List.map_append]
  show joinC ((back.take k).map Lib.itoa ++ [Lib.itoa back[k]]) = _
  rw [joinC_snoc _ hne]
  simp [List.getD, hk]

theorem listT_one {back : List Int} (hk : 0 < back.length) : listT (back.take 1) = Lib.itoa (back.getD 0 0) := by
  cases back with
  | nil => simp at hk
  | cons a r =>
    show joinC [Lib.itoa a] = _
    rw [joinC_one]; rfl
end Go.Proofs.YtglgbidcmkncgaaDoor.Subj
