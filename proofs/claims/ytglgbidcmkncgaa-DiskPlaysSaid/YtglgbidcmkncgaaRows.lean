/-
  No cell of these rows narrows 'for every input' (looked for: loops, veiled, ifaces, maps, wideKeys, modest, calm, conditions, laid).
  DERIVED. THE GIVEN ROWS OF THIS SEAT. 4 by the template 'for every input the law returns true; each argument reads behind the call as it read before'; 0 by the template 'total and deterministic' (their statements: YtglgbidcmkncgaaTotals.lean).
  GIVEN WITH THE SEED: the statements are not yours to turn. If you find one false, say at which input.
  Laid BY PROGRAM, IN A SANDBOX (cutbox-rows.mjs): the forced cells as the released guide's own fill.sh prints them over the translation 6e6556ef8fd2601a… (all of the seat's roots in one cut). By AI agents, Wed Nov 11 2026. No macro, syntax, notation, axiom, sorry.
-/
import Derived.Test.YtglgbidcmkncgaaChecked
import GoSem.Claim
import GoSem.ClaimJoined
import GoSem.ClaimMapViews
import Derived.JoinedTies
import Derived.KernelRfl
namespace Go.Proofs.Ytglgbidcmkncgaa
/- THE CELL 'sum', in the pinned program and in every row, IS THE sha256 OF THE DUMP (.gsa) THAT YtglgbidcmkncgaaProg.lean LOADS. Nothing in Lean hashes anything: it is a label: what it is worth is what the hold of that sum in a sandbox is worth. -/
noncomputable def Try.pinned : Pinned := { name := "ytglgbidcmkncgaa", sum := "6e6556ef8fd2601ae186e9422bbe0749d923cc3548c35960dcbd68cf51c7d4fb", checked := Try.checked }
namespace Rows
def none {H : Type} : Left H := { results := [], args := [] }

/-- 'rillkeep.PullsCount': WHATEVER THE INPUT: true; the input reads as it did. -/
def pullsCountSpec : ChangeSpec := { name := "pullsCount", fn := fun _ => fun
  | [d1, d2] => { results := [.lit (.bool true)], args := [d1, d2] }
  | _ => none }
def pullsCountRow : OpenClaim := { program := "ytglgbidcmkncgaa", sum := "6e6556ef8fd2601ae186e9422bbe0749d923cc3548c35960dcbd68cf51c7d4fb", func := "rillbook/rillkeep.PullsCount", spec := "pullsCount", unfollowed := true, recurses := true, apart := false }
def PullsCountSaid : Prop := pullsCountRow.holds Try.pinned (OpenSpec.ofChange pullsCountSpec)

/-- ITS FALSE NEIGHBOUR: 'it returns false'. Refute it at one input. -/
def pullsCountWrong : ChangeSpec := { name := "pullsCount", fn := fun _ => fun
  | [d1, d2] => { results := [.lit (.bool false)], args := [d1, d2] }
  | _ => none }
def PullsCountWrongFalsely : Prop := pullsCountRow.holds Try.pinned (OpenSpec.ofChange pullsCountWrong)

/-- 'rilllaw.PullsPlay': WHATEVER THE INPUT: true; the input reads as it did. -/
def pullsPlaySpec : ChangeSpec := { name := "pullsPlay", fn := fun _ => fun
  | [d] => { results := [.lit (.bool true)], args := [d] }
  | _ => none }
def pullsPlayRow : OpenClaim := { program := "ytglgbidcmkncgaa", sum := "6e6556ef8fd2601ae186e9422bbe0749d923cc3548c35960dcbd68cf51c7d4fb", func := "rillbook/rilllaw.PullsPlay", spec := "pullsPlay", unfollowed := true, recurses := true, apart := false }
def PullsPlaySaid : Prop := pullsPlayRow.holds Try.pinned (OpenSpec.ofChange pullsPlaySpec)

/-- ITS FALSE NEIGHBOUR: 'it returns false'. Refute it at one input. -/
def pullsPlayWrong : ChangeSpec := { name := "pullsPlay", fn := fun _ => fun
  | [d] => { results := [.lit (.bool false)], args := [d] }
  | _ => none }
def PullsPlayWrongFalsely : Prop := pullsPlayRow.holds Try.pinned (OpenSpec.ofChange pullsPlayWrong)

/-- 'rillkeep.DiskSure': WHATEVER THE INPUT: true; the input reads as it did. -/
def diskSureSpec : ChangeSpec := { name := "diskSure", fn := fun _ => fun
  | [d1, d2, d3] => { results := [.lit (.bool true)], args := [d1, d2, d3] }
  | _ => none }
def diskSureRow : OpenClaim := { program := "ytglgbidcmkncgaa", sum := "6e6556ef8fd2601ae186e9422bbe0749d923cc3548c35960dcbd68cf51c7d4fb", func := "rillbook/rillkeep.DiskSure", spec := "diskSure", recurses := true, apart := false }
def DiskSureSaid : Prop := diskSureRow.holds Try.pinned (OpenSpec.ofChange diskSureSpec)

/-- ITS FALSE NEIGHBOUR: 'it returns false'. Refute it at one input. -/
def diskSureWrong : ChangeSpec := { name := "diskSure", fn := fun _ => fun
  | [d1, d2, d3] => { results := [.lit (.bool false)], args := [d1, d2, d3] }
  | _ => none }
def DiskSureWrongFalsely : Prop := diskSureRow.holds Try.pinned (OpenSpec.ofChange diskSureWrong)

/-- 'rilllaw.DiskPlays': WHATEVER THE INPUT: true; the input reads as it did. -/
def diskPlaysSpec : ChangeSpec := { name := "diskPlays", fn := fun _ => fun
  | [d1, d2, d3] => { results := [.lit (.bool true)], args := [d1, d2, d3] }
  | _ => none }
def diskPlaysRow : OpenClaim := { program := "ytglgbidcmkncgaa", sum := "6e6556ef8fd2601ae186e9422bbe0749d923cc3548c35960dcbd68cf51c7d4fb", func := "rillbook/rilllaw.DiskPlays", spec := "diskPlays", inPlace := ["slices.overlaps[rillbook/rillref.Paper]"], unfollowed := true, recurses := true, apart := false }
def DiskPlaysSaid : Prop := diskPlaysRow.holds Try.pinned (OpenSpec.ofChange diskPlaysSpec)

/-- ITS FALSE NEIGHBOUR: 'it returns false'. Refute it at one input. -/
def diskPlaysWrong : ChangeSpec := { name := "diskPlays", fn := fun _ => fun
  | [d1, d2, d3] => { results := [.lit (.bool false)], args := [d1, d2, d3] }
  | _ => none }
def DiskPlaysWrongFalsely : Prop := diskPlaysRow.holds Try.pinned (OpenSpec.ofChange diskPlaysWrong)

/- THE SECOND FORM. 'bulk': how many values and letters a reading holds, each counted each time it is reached (what is shared counts as often as it is met; a slice's spare places count too). A statement '..UptoSaid' is the law's where the arguments, and the package variables that the reading takes, are together of bulk at most 1048576: NARROWER than '..Said'. Prove '..Said' where nothing that the law and all that it calls make is longer than what came in: it says more and counts as full. Else prove '..UptoSaid'. A law counts once. -/
mutual
def uptoBulk {H : Type} : DataW H → Nat
  | .lit (.string bytes) => bytes.length + 1
  | .lit _ => 1
  | .nil => 1
  | .ptr d => uptoBulk d + 1
  | .slice elems spare => uptoBulkAll elems + uptoBulkAll spare + 1
  | .agg parts => uptoBulkAll parts + 1
  | .iface _ d => uptoBulk d + 1
  | .map entries => uptoBulkEntries entries + 1
  | .held _ => 1
def uptoBulkAll {H : Type} : List (DataW H) → Nat
  | [] => 0
  | d :: r => uptoBulk d + uptoBulkAll r
def uptoBulkEntries {H : Type} : List (Lit × DataW H) → Nat
  | [] => 0
  | x :: r => uptoBulkEntry x + uptoBulkEntries r
def uptoBulkEntry {H : Type} : Lit × DataW H → Nat
  | (.string bytes, d) => bytes.length + uptoBulk d + 1
  | (_, d) => uptoBulk d + 1
 end
def uptoSmall : (H : Type) → List (DataW H) → Bool := fun _ ds => decide (uptoBulkAll ds ≤ 1048576)
def OpenSpec.upto (s : _root_.Go.ChangeSpec) : _root_.Go.OpenSpec := { _root_.Go.OpenSpec.ofChange s with cond := some uptoSmall }

/-- 'rillkeep.PullsCount', WHERE WHAT IT READS IS OF BULK AT MOST 1048576: true; the input reads as it did. -/
def pullsCountUptoRow : OpenClaim := { program := "ytglgbidcmkncgaa", sum := "6e6556ef8fd2601ae186e9422bbe0749d923cc3548c35960dcbd68cf51c7d4fb", func := "rillbook/rillkeep.PullsCount", spec := "pullsCount", unfollowed := true, recurses := true, apart := false, narrowed := true }
def PullsCountUptoSaid : Prop := pullsCountUptoRow.holds Try.pinned (OpenSpec.upto pullsCountSpec)

/-- 'rilllaw.PullsPlay', WHERE WHAT IT READS IS OF BULK AT MOST 1048576: true; the input reads as it did. -/
def pullsPlayUptoRow : OpenClaim := { program := "ytglgbidcmkncgaa", sum := "6e6556ef8fd2601ae186e9422bbe0749d923cc3548c35960dcbd68cf51c7d4fb", func := "rillbook/rilllaw.PullsPlay", spec := "pullsPlay", unfollowed := true, recurses := true, apart := false, narrowed := true }
def PullsPlayUptoSaid : Prop := pullsPlayUptoRow.holds Try.pinned (OpenSpec.upto pullsPlaySpec)

/-- 'rillkeep.DiskSure', WHERE WHAT IT READS IS OF BULK AT MOST 1048576: true; the input reads as it did. -/
def diskSureUptoRow : OpenClaim := { program := "ytglgbidcmkncgaa", sum := "6e6556ef8fd2601ae186e9422bbe0749d923cc3548c35960dcbd68cf51c7d4fb", func := "rillbook/rillkeep.DiskSure", spec := "diskSure", recurses := true, apart := false, narrowed := true }
def DiskSureUptoSaid : Prop := diskSureUptoRow.holds Try.pinned (OpenSpec.upto diskSureSpec)

/-- 'rilllaw.DiskPlays', WHERE WHAT IT READS IS OF BULK AT MOST 1048576: true; the input reads as it did. -/
def diskPlaysUptoRow : OpenClaim := { program := "ytglgbidcmkncgaa", sum := "6e6556ef8fd2601ae186e9422bbe0749d923cc3548c35960dcbd68cf51c7d4fb", func := "rillbook/rilllaw.DiskPlays", spec := "diskPlays", inPlace := ["slices.overlaps[rillbook/rillref.Paper]"], unfollowed := true, recurses := true, apart := false, narrowed := true }
def DiskPlaysUptoSaid : Prop := diskPlaysUptoRow.holds Try.pinned (OpenSpec.upto diskPlaysSpec)

end Rows
end Go.Proofs.Ytglgbidcmkncgaa
