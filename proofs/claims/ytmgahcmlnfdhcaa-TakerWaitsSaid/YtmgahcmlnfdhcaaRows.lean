/-
  No cell of these rows narrows 'for every input' (looked for: loops, veiled, ifaces, maps, wideKeys, modest, calm, conditions, laid).
  DERIVED. THE GIVEN ROWS OF THIS SEAT. 8 by the template 'for every input the law returns true; each argument reads behind the call as it read before'; 0 by the template 'total and deterministic' (their statements: YtmgahcmlnfdhcaaTotals.lean).
  GIVEN WITH THE SEED: the statements are not yours to turn. If you find one false, say at which input.
  Laid BY PROGRAM, IN A SANDBOX (cutbox-rows.mjs): the forced cells as the released guide's own fill.sh prints them over the translation efd927866e32e271… (all of the seat's roots in one cut). By AI agents, Wed Nov 11 2026. No macro, syntax, notation, axiom, sorry.
-/
import Derived.Test.YtmgahcmlnfdhcaaChecked
import GoSem.Claim
import GoSem.ClaimJoined
import GoSem.ClaimMapViews
import Derived.JoinedTies
import Derived.KernelRfl
namespace Go.Proofs.Ytmgahcmlnfdhcaa
/- THE CELL 'sum', in the pinned program and in every row, IS THE sha256 OF THE DUMP (.gsa) THAT YtmgahcmlnfdhcaaProg.lean LOADS. Nothing in Lean hashes anything: it is a label: what it is worth is what the hold of that sum in a sandbox is worth. -/
noncomputable def Try.pinned : Pinned := { name := "ytmgahcmlnfdhcaa", sum := "efd927866e32e2712f33e9f14f89c38d63e53ab5e487a8ff185f57c953225331", checked := Try.checked }
namespace Rows
def none {H : Type} : Left H := { results := [], args := [] }

/-- 'rilllaw.Names': WHATEVER THE INPUT: true; the input reads as it did. -/
def namesSpec : ChangeSpec := { name := "names", fn := fun _ => fun
  | [] => { results := [.lit (.bool true)], args := [] }
  | _ => none }
def namesRow : OpenClaim := { program := "ytmgahcmlnfdhcaa", sum := "efd927866e32e2712f33e9f14f89c38d63e53ab5e487a8ff185f57c953225331", func := "rillbook/rilllaw.Names", spec := "names", apart := false }
def NamesSaid : Prop := namesRow.holds Try.pinned (OpenSpec.ofChange namesSpec)

/-- ITS FALSE NEIGHBOUR: 'it returns false'. Refute it at one input. -/
def namesWrong : ChangeSpec := { name := "names", fn := fun _ => fun
  | [] => { results := [.lit (.bool false)], args := [] }
  | _ => none }
def NamesWrongFalsely : Prop := namesRow.holds Try.pinned (OpenSpec.ofChange namesWrong)

/-- 'rillkeep.PackSums': WHATEVER THE INPUT: true; the input reads as it did. -/
def packSumsSpec : ChangeSpec := { name := "packSums", fn := fun _ => fun
  | [d1, d2, d3] => { results := [.lit (.bool true)], args := [d1, d2, d3] }
  | _ => none }
def packSumsRow : OpenClaim := { program := "ytmgahcmlnfdhcaa", sum := "efd927866e32e2712f33e9f14f89c38d63e53ab5e487a8ff185f57c953225331", func := "rillbook/rillkeep.PackSums", spec := "packSums", apart := false }
def PackSumsSaid : Prop := packSumsRow.holds Try.pinned (OpenSpec.ofChange packSumsSpec)

/-- ITS FALSE NEIGHBOUR: 'it returns false'. Refute it at one input. -/
def packSumsWrong : ChangeSpec := { name := "packSums", fn := fun _ => fun
  | [d1, d2, d3] => { results := [.lit (.bool false)], args := [d1, d2, d3] }
  | _ => none }
def PackSumsWrongFalsely : Prop := packSumsRow.holds Try.pinned (OpenSpec.ofChange packSumsWrong)

/-- 'rillkeep.TakerWaits': WHATEVER THE INPUT: true; the input reads as it did. -/
def takerWaitsSpec : ChangeSpec := { name := "takerWaits", fn := fun _ => fun
  | [d1, d2] => { results := [.lit (.bool true)], args := [d1, d2] }
  | _ => none }
def takerWaitsRow : OpenClaim := { program := "ytmgahcmlnfdhcaa", sum := "efd927866e32e2712f33e9f14f89c38d63e53ab5e487a8ff185f57c953225331", func := "rillbook/rillkeep.TakerWaits", spec := "takerWaits", apart := false }
def TakerWaitsSaid : Prop := takerWaitsRow.holds Try.pinned (OpenSpec.ofChange takerWaitsSpec)

/-- ITS FALSE NEIGHBOUR: 'it returns false'. Refute it at one input. -/
def takerWaitsWrong : ChangeSpec := { name := "takerWaits", fn := fun _ => fun
  | [d1, d2] => { results := [.lit (.bool false)], args := [d1, d2] }
  | _ => none }
def TakerWaitsWrongFalsely : Prop := takerWaitsRow.holds Try.pinned (OpenSpec.ofChange takerWaitsWrong)

/-- 'rillkeep.PackOne': WHATEVER THE INPUT: true; the input reads as it did. -/
def packOneSpec : ChangeSpec := { name := "packOne", fn := fun _ => fun
  | [d] => { results := [.lit (.bool true)], args := [d] }
  | _ => none }
def packOneRow : OpenClaim := { program := "ytmgahcmlnfdhcaa", sum := "efd927866e32e2712f33e9f14f89c38d63e53ab5e487a8ff185f57c953225331", func := "rillbook/rillkeep.PackOne", spec := "packOne", apart := false }
def PackOneSaid : Prop := packOneRow.holds Try.pinned (OpenSpec.ofChange packOneSpec)

/-- ITS FALSE NEIGHBOUR: 'it returns false'. Refute it at one input. -/
def packOneWrong : ChangeSpec := { name := "packOne", fn := fun _ => fun
  | [d] => { results := [.lit (.bool false)], args := [d] }
  | _ => none }
def PackOneWrongFalsely : Prop := packOneRow.holds Try.pinned (OpenSpec.ofChange packOneWrong)

/-- 'rillkeep.PackBack': WHATEVER THE INPUT: true; the input reads as it did. -/
def packBackSpec : ChangeSpec := { name := "packBack", fn := fun _ => fun
  | [d1, d2, d3, d4] => { results := [.lit (.bool true)], args := [d1, d2, d3, d4] }
  | _ => none }
def packBackRow : OpenClaim := { program := "ytmgahcmlnfdhcaa", sum := "efd927866e32e2712f33e9f14f89c38d63e53ab5e487a8ff185f57c953225331", func := "rillbook/rillkeep.PackBack", spec := "packBack", apart := false }
def PackBackSaid : Prop := packBackRow.holds Try.pinned (OpenSpec.ofChange packBackSpec)

/-- ITS FALSE NEIGHBOUR: 'it returns false'. Refute it at one input. -/
def packBackWrong : ChangeSpec := { name := "packBack", fn := fun _ => fun
  | [d1, d2, d3, d4] => { results := [.lit (.bool false)], args := [d1, d2, d3, d4] }
  | _ => none }
def PackBackWrongFalsely : Prop := packBackRow.holds Try.pinned (OpenSpec.ofChange packBackWrong)

/-- 'rilllaw.PackSays': WHATEVER THE INPUT: true; the input reads as it did. -/
def packSaysSpec : ChangeSpec := { name := "packSays", fn := fun _ => fun
  | [d1, d2, d3] => { results := [.lit (.bool true)], args := [d1, d2, d3] }
  | _ => none }
def packSaysRow : OpenClaim := { program := "ytmgahcmlnfdhcaa", sum := "efd927866e32e2712f33e9f14f89c38d63e53ab5e487a8ff185f57c953225331", func := "rillbook/rilllaw.PackSays", spec := "packSays", recurses := true, apart := false }
def PackSaysSaid : Prop := packSaysRow.holds Try.pinned (OpenSpec.ofChange packSaysSpec)

/-- ITS FALSE NEIGHBOUR: 'it returns false'. Refute it at one input. -/
def packSaysWrong : ChangeSpec := { name := "packSays", fn := fun _ => fun
  | [d1, d2, d3] => { results := [.lit (.bool false)], args := [d1, d2, d3] }
  | _ => none }
def PackSaysWrongFalsely : Prop := packSaysRow.holds Try.pinned (OpenSpec.ofChange packSaysWrong)

/-- 'rillkeep.PullsCount': WHATEVER THE INPUT: true; the input reads as it did. -/
def pullsCountSpec : ChangeSpec := { name := "pullsCount", fn := fun _ => fun
  | [d1, d2] => { results := [.lit (.bool true)], args := [d1, d2] }
  | _ => none }
def pullsCountRow : OpenClaim := { program := "ytmgahcmlnfdhcaa", sum := "efd927866e32e2712f33e9f14f89c38d63e53ab5e487a8ff185f57c953225331", func := "rillbook/rillkeep.PullsCount", spec := "pullsCount", unfollowed := true, recurses := true, apart := false }
def PullsCountSaid : Prop := pullsCountRow.holds Try.pinned (OpenSpec.ofChange pullsCountSpec)

/-- ITS FALSE NEIGHBOUR: 'it returns false'. Refute it at one input. -/
def pullsCountWrong : ChangeSpec := { name := "pullsCount", fn := fun _ => fun
  | [d1, d2] => { results := [.lit (.bool false)], args := [d1, d2] }
  | _ => none }
def PullsCountWrongFalsely : Prop := pullsCountRow.holds Try.pinned (OpenSpec.ofChange pullsCountWrong)

/-- 'rilllaw.PullsPlay': WHATEVER THE INPUT: true; the input reads as it did. -/
def pullsPlaySpec : ChangeSpec := { name := "pullsPlay", fn := fun _ => fun
  | [d] => { results := [.lit (.bool true)], args := [d] }
  | _ => none }
def pullsPlayRow : OpenClaim := { program := "ytmgahcmlnfdhcaa", sum := "efd927866e32e2712f33e9f14f89c38d63e53ab5e487a8ff185f57c953225331", func := "rillbook/rilllaw.PullsPlay", spec := "pullsPlay", unfollowed := true, recurses := true, apart := false }
def PullsPlaySaid : Prop := pullsPlayRow.holds Try.pinned (OpenSpec.ofChange pullsPlaySpec)

/-- ITS FALSE NEIGHBOUR: 'it returns false'. Refute it at one input. -/
def pullsPlayWrong : ChangeSpec := { name := "pullsPlay", fn := fun _ => fun
  | [d] => { results := [.lit (.bool false)], args := [d] }
  | _ => none }
def PullsPlayWrongFalsely : Prop := pullsPlayRow.holds Try.pinned (OpenSpec.ofChange pullsPlayWrong)

/- THE SECOND FORM. 'bulk': how many values and letters a reading holds, each counted each time it is reached (what is shared counts as often as it is met; a slice's spare places count too). A statement '..UptoSaid' is the law's where the arguments, and the package variables that the reading takes, are together of bulk at most 1048576: NARROWER than '..Said'. Prove '..Said' where nothing that the law and all that it calls make is longer than what came in: it says more and counts as full. Else prove '..UptoSaid'. A law counts once. -/
mutual
def uptoBulk {H : Type} : DataW H → Nat
  | .lit (.string bytes) => bytes.length + 1
  | .lit _ => 1
  | .nil => 1
  | .ptr d => uptoBulk d + 1
  | .slice elems spare => uptoBulkAll elems + uptoBulkAll spare + 1
  | .agg parts => uptoBulkAll parts + 1
  | .iface _ d => uptoBulk d + 1
  | .map entries => uptoBulkEntries entries + 1
  | .held _ => 1
def uptoBulkAll {H : Type} : List (DataW H) → Nat
  | [] => 0
  | d :: r => uptoBulk d + uptoBulkAll r
def uptoBulkEntries {H : Type} : List (Lit × DataW H) → Nat
  | [] => 0
  | x :: r => uptoBulkEntry x + uptoBulkEntries r
def uptoBulkEntry {H : Type} : Lit × DataW H → Nat
  | (.string bytes, d) => bytes.length + uptoBulk d + 1
  | (_, d) => uptoBulk d + 1
 end
def uptoSmall : (H : Type) → List (DataW H) → Bool := fun _ ds => decide (uptoBulkAll ds ≤ 1048576)
def OpenSpec.upto (s : _root_.Go.ChangeSpec) : _root_.Go.OpenSpec := { _root_.Go.OpenSpec.ofChange s with cond := some uptoSmall }

/-- 'rilllaw.Names', WHERE WHAT IT READS IS OF BULK AT MOST 1048576: true; the input reads as it did. -/
def namesUptoRow : OpenClaim := { program := "ytmgahcmlnfdhcaa", sum := "efd927866e32e2712f33e9f14f89c38d63e53ab5e487a8ff185f57c953225331", func := "rillbook/rilllaw.Names", spec := "names", apart := false, narrowed := true }
def NamesUptoSaid : Prop := namesUptoRow.holds Try.pinned (OpenSpec.upto namesSpec)

/-- 'rillkeep.PackSums', WHERE WHAT IT READS IS OF BULK AT MOST 1048576: true; the input reads as it did. -/
def packSumsUptoRow : OpenClaim := { program := "ytmgahcmlnfdhcaa", sum := "efd927866e32e2712f33e9f14f89c38d63e53ab5e487a8ff185f57c953225331", func := "rillbook/rillkeep.PackSums", spec := "packSums", apart := false, narrowed := true }
def PackSumsUptoSaid : Prop := packSumsUptoRow.holds Try.pinned (OpenSpec.upto packSumsSpec)

/-- 'rillkeep.TakerWaits', WHERE WHAT IT READS IS OF BULK AT MOST 1048576: true; the input reads as it did. -/
def takerWaitsUptoRow : OpenClaim := { program := "ytmgahcmlnfdhcaa", sum := "efd927866e32e2712f33e9f14f89c38d63e53ab5e487a8ff185f57c953225331", func := "rillbook/rillkeep.TakerWaits", spec := "takerWaits", apart := false, narrowed := true }
def TakerWaitsUptoSaid : Prop := takerWaitsUptoRow.holds Try.pinned (OpenSpec.upto takerWaitsSpec)

/-- 'rillkeep.PackOne', WHERE WHAT IT READS IS OF BULK AT MOST 1048576: true; the input reads as it did. -/
def packOneUptoRow : OpenClaim := { program := "ytmgahcmlnfdhcaa", sum := "efd927866e32e2712f33e9f14f89c38d63e53ab5e487a8ff185f57c953225331", func := "rillbook/rillkeep.PackOne", spec := "packOne", apart := false, narrowed := true }
def PackOneUptoSaid : Prop := packOneUptoRow.holds Try.pinned (OpenSpec.upto packOneSpec)

/-- 'rillkeep.PackBack', WHERE WHAT IT READS IS OF BULK AT MOST 1048576: true; the input reads as it did. -/
def packBackUptoRow : OpenClaim := { program := "ytmgahcmlnfdhcaa", sum := "efd927866e32e2712f33e9f14f89c38d63e53ab5e487a8ff185f57c953225331", func := "rillbook/rillkeep.PackBack", spec := "packBack", apart := false, narrowed := true }
def PackBackUptoSaid : Prop := packBackUptoRow.holds Try.pinned (OpenSpec.upto packBackSpec)

/-- 'rilllaw.PackSays', WHERE WHAT IT READS IS OF BULK AT MOST 1048576: true; the input reads as it did. -/
def packSaysUptoRow : OpenClaim := { program := "ytmgahcmlnfdhcaa", sum := "efd927866e32e2712f33e9f14f89c38d63e53ab5e487a8ff185f57c953225331", func := "rillbook/rilllaw.PackSays", spec := "packSays", recurses := true, apart := false, narrowed := true }
def PackSaysUptoSaid : Prop := packSaysUptoRow.holds Try.pinned (OpenSpec.upto packSaysSpec)

/-- 'rillkeep.PullsCount', WHERE WHAT IT READS IS OF BULK AT MOST 1048576: true; the input reads as it did. -/
def pullsCountUptoRow : OpenClaim := { program := "ytmgahcmlnfdhcaa", sum := "efd927866e32e2712f33e9f14f89c38d63e53ab5e487a8ff185f57c953225331", func := "rillbook/rillkeep.PullsCount", spec := "pullsCount", unfollowed := true, recurses := true, apart := false, narrowed := true }
def PullsCountUptoSaid : Prop := pullsCountUptoRow.holds Try.pinned (OpenSpec.upto pullsCountSpec)

/-- 'rilllaw.PullsPlay', WHERE WHAT IT READS IS OF BULK AT MOST 1048576: true; the input reads as it did. -/
def pullsPlayUptoRow : OpenClaim := { program := "ytmgahcmlnfdhcaa", sum := "efd927866e32e2712f33e9f14f89c38d63e53ab5e487a8ff185f57c953225331", func := "rillbook/rilllaw.PullsPlay", spec := "pullsPlay", unfollowed := true, recurses := true, apart := false, narrowed := true }
def PullsPlayUptoSaid : Prop := pullsPlayUptoRow.holds Try.pinned (OpenSpec.upto pullsPlaySpec)

end Rows
end Go.Proofs.Ytmgahcmlnfdhcaa
