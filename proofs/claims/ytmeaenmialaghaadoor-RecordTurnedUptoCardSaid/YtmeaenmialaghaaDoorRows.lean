/-
  NARROWER THAN 'FOR EVERY INPUT', by the rows' own cells (each row's printed sentence says how): SubjectSays: laid · SubjectMatches: laid · SubjectTwo: laid · SubjectThree: laid · RecordSays: laid · SubjectSelf: laid · RecordReads: laid · RecordBack: laid · RecordTurned: laid · RecordOne: laid · SubjectShows: laid.
  DERIVED. THE GIVEN ROWS OF THIS SEAT. 11 by the template 'for every input the law returns true; each argument reads behind the call as it read before'; 0 by the template 'total and deterministic' (their statements: YtmeaenmialaghaaDoorTotals.lean).
  GIVEN WITH THE SEED: the statements are not yours to turn. If you find one false, say at which input.
  Laid BY PROGRAM, IN A SANDBOX (cutbox-rows.mjs): the forced cells as the released guide's own fill.sh prints them over the translation b1ad269f91098136… (all of the seat's roots in one cut). By AI agents, Wed Nov 11 2026. No macro, syntax, notation, axiom, sorry.
-/
import Derived.Test.YtmeaenmialaghaaDoorChecked
import GoSem.PinnedTables
import GoSem.Claim
import GoSem.ClaimJoined
import GoSem.ClaimMapViews
import Derived.JoinedTies
import Derived.KernelRfl
namespace Go.Proofs.YtmeaenmialaghaaDoor
/- THE CELL 'sum', in the pinned program and in every row, IS THE sha256 OF THE DUMP (.gsa) THAT YtmeaenmialaghaaDoorProg.lean LOADS. Nothing in Lean hashes anything: it is a label: what it is worth is what the hold of that sum in a sandbox is worth. -/
noncomputable def Tryd.pinned : Pinned := { name := "ytmeaenmialaghaadoor", sum := "b1ad269f910981369f34e42d20ff162d4a8a91354a46ae40560e5dc01e6ca37a", checked := Tryd.checked }
namespace Rows
def none {H : Type} : Left H := { results := [], args := [] }

/- WHAT THE LISTED PACKAGE-LEVEL VARIABLES READ AS WHEN THE CALL BEGINS. Each datum BY PROGRAM (the guide's laid-datum.mjs) off the statement by which the dump's own 'gosem.cut.vars' lays the variable. In a bare row this is a premise. The card (YtmeaenmialaghaaDoorCards.lean) ties it to the program's text. -/
def laid_unicode_utf8_acceptRanges {H : Type} : DataW H := .agg [.agg [.lit (.int .u8 128), .lit (.int .u8 191)], .agg [.lit (.int .u8 160), .lit (.int .u8 191)], .agg [.lit (.int .u8 128), .lit (.int .u8 159)], .agg [.lit (.int .u8 144), .lit (.int .u8 191)], .agg [.lit (.int .u8 128), .lit (.int .u8 143)], .agg [.lit (.int .u8 0), .lit (.int .u8 0)], .agg [.lit (.int .u8 0), .lit (.int .u8 0)], .agg [.lit (.int .u8 0), .lit (.int .u8 0)], .agg [.lit (.int .u8 0), .lit (.int .u8 0)], .agg [.lit (.int .u8 0), .lit (.int .u8 0)], .agg [.lit (.int .u8 0), .lit (.int .u8 0)], .agg [.lit (.int .u8 0), .lit (.int .u8 0)], .agg [.lit (.int .u8 0), .lit (.int .u8 0)], .agg [.lit (.int .u8 0), .lit (.int .u8 0)], .agg [.lit (.int .u8 0), .lit (.int .u8 0)], .agg [.lit (.int .u8 0), .lit (.int .u8 0)]]
/-- One of Go's own tables, pinned by name: the form's constant. -/
def laid_unicode_utf8_first : DataW Unit := Go.Pinned.utf8First

/-- 'rilllaw.SubjectSays': WHATEVER THE INPUT: true; the input reads as it did. -/
def subjectSaysSpec : ChangeSpec := { name := "subjectSays", fn := fun _ => fun
  | [d] => { results := [.lit (.bool true)], args := [d] }
  | _ => none }
def subjectSaysRow : OpenClaim := { program := "ytmeaenmialaghaadoor", sum := "b1ad269f910981369f34e42d20ff162d4a8a91354a46ae40560e5dc01e6ca37a", func := "rillbook/rilllaw.SubjectSays", spec := "subjectSays", inPlace := ["internal/bytealg.CountString", "internal/bytealg.IndexByteString", "internal/bytealg.IndexString"], named := ["unicode/utf8.first", "unicode/utf8.acceptRanges", "internal/bytealg.MaxLen"], apart := false, laid := [("unicode/utf8.acceptRanges", laid_unicode_utf8_acceptRanges), ("unicode/utf8.first", laid_unicode_utf8_first)] }
def SubjectSaysSaid : Prop := subjectSaysRow.holds Tryd.pinned (OpenSpec.ofChange subjectSaysSpec)

/-- ITS FALSE NEIGHBOUR: 'it returns false'. Refute it at one input. -/
def subjectSaysWrong : ChangeSpec := { name := "subjectSays", fn := fun _ => fun
  | [d] => { results := [.lit (.bool false)], args := [d] }
  | _ => none }
def SubjectSaysWrongFalsely : Prop := subjectSaysRow.holds Tryd.pinned (OpenSpec.ofChange subjectSaysWrong)

/-- 'rilllaw.SubjectMatches': WHATEVER THE INPUT: true; the input reads as it did. -/
def subjectMatchesSpec : ChangeSpec := { name := "subjectMatches", fn := fun _ => fun
  | [d1, d2, d3] => { results := [.lit (.bool true)], args := [d1, d2, d3] }
  | _ => none }
def subjectMatchesRow : OpenClaim := { program := "ytmeaenmialaghaadoor", sum := "b1ad269f910981369f34e42d20ff162d4a8a91354a46ae40560e5dc01e6ca37a", func := "rillbook/rilllaw.SubjectMatches", spec := "subjectMatches", inPlace := ["internal/bytealg.CountString", "internal/bytealg.IndexByteString", "internal/bytealg.IndexString"], recurses := true, named := ["unicode/utf8.first", "unicode/utf8.acceptRanges", "internal/bytealg.MaxLen"], apart := false, laid := [("unicode/utf8.acceptRanges", laid_unicode_utf8_acceptRanges), ("unicode/utf8.first", laid_unicode_utf8_first)] }
def SubjectMatchesSaid : Prop := subjectMatchesRow.holds Tryd.pinned (OpenSpec.ofChange subjectMatchesSpec)

/-- ITS FALSE NEIGHBOUR: 'it returns false'. Refute it at one input. -/
def subjectMatchesWrong : ChangeSpec := { name := "subjectMatches", fn := fun _ => fun
  | [d1, d2, d3] => { results := [.lit (.bool false)], args := [d1, d2, d3] }
  | _ => none }
def SubjectMatchesWrongFalsely : Prop := subjectMatchesRow.holds Tryd.pinned (OpenSpec.ofChange subjectMatchesWrong)

/-- 'rillkeep.SubjectTwo': WHATEVER THE INPUT: true; the input reads as it did. -/
def subjectTwoSpec : ChangeSpec := { name := "subjectTwo", fn := fun _ => fun
  | [d1, d2, d3] => { results := [.lit (.bool true)], args := [d1, d2, d3] }
  | _ => none }
def subjectTwoRow : OpenClaim := { program := "ytmeaenmialaghaadoor", sum := "b1ad269f910981369f34e42d20ff162d4a8a91354a46ae40560e5dc01e6ca37a", func := "rillbook/rillkeep.SubjectTwo", spec := "subjectTwo", inPlace := ["internal/bytealg.CountString", "internal/bytealg.IndexByteString", "internal/bytealg.IndexString"], unfollowed := true, recurses := true, named := ["unicode/utf8.first", "unicode/utf8.acceptRanges", "internal/bytealg.MaxLen"], apart := false, laid := [("unicode/utf8.acceptRanges", laid_unicode_utf8_acceptRanges), ("unicode/utf8.first", laid_unicode_utf8_first)] }
def SubjectTwoSaid : Prop := subjectTwoRow.holds Tryd.pinned (OpenSpec.ofChange subjectTwoSpec)

/-- ITS FALSE NEIGHBOUR: 'it returns false'. Refute it at one input. -/
def subjectTwoWrong : ChangeSpec := { name := "subjectTwo", fn := fun _ => fun
  | [d1, d2, d3] => { results := [.lit (.bool false)], args := [d1, d2, d3] }
  | _ => none }
def SubjectTwoWrongFalsely : Prop := subjectTwoRow.holds Tryd.pinned (OpenSpec.ofChange subjectTwoWrong)

/-- 'rillkeep.SubjectThree': WHATEVER THE INPUT: true; the input reads as it did. -/
def subjectThreeSpec : ChangeSpec := { name := "subjectThree", fn := fun _ => fun
  | [d1, d2, d3] => { results := [.lit (.bool true)], args := [d1, d2, d3] }
  | _ => none }
def subjectThreeRow : OpenClaim := { program := "ytmeaenmialaghaadoor", sum := "b1ad269f910981369f34e42d20ff162d4a8a91354a46ae40560e5dc01e6ca37a", func := "rillbook/rillkeep.SubjectThree", spec := "subjectThree", inPlace := ["internal/bytealg.CountString", "internal/bytealg.IndexByteString", "internal/bytealg.IndexString"], unfollowed := true, recurses := true, named := ["unicode/utf8.first", "unicode/utf8.acceptRanges", "internal/bytealg.MaxLen"], apart := false, laid := [("unicode/utf8.acceptRanges", laid_unicode_utf8_acceptRanges), ("unicode/utf8.first", laid_unicode_utf8_first)] }
def SubjectThreeSaid : Prop := subjectThreeRow.holds Tryd.pinned (OpenSpec.ofChange subjectThreeSpec)

/-- ITS FALSE NEIGHBOUR: 'it returns false'. Refute it at one input. -/
def subjectThreeWrong : ChangeSpec := { name := "subjectThree", fn := fun _ => fun
  | [d1, d2, d3] => { results := [.lit (.bool false)], args := [d1, d2, d3] }
  | _ => none }
def SubjectThreeWrongFalsely : Prop := subjectThreeRow.holds Tryd.pinned (OpenSpec.ofChange subjectThreeWrong)

/-- 'rilllaw.RecordSays': WHATEVER THE INPUT: true; the input reads as it did. -/
def recordSaysSpec : ChangeSpec := { name := "recordSays", fn := fun _ => fun
  | [d] => { results := [.lit (.bool true)], args := [d] }
  | _ => none }
def recordSaysRow : OpenClaim := { program := "ytmeaenmialaghaadoor", sum := "b1ad269f910981369f34e42d20ff162d4a8a91354a46ae40560e5dc01e6ca37a", func := "rillbook/rilllaw.RecordSays", spec := "recordSays", inPlace := ["internal/bytealg.CountString", "internal/bytealg.IndexByteString", "internal/bytealg.IndexString"], recurses := true, named := ["unicode/utf8.first", "unicode/utf8.acceptRanges", "internal/bytealg.MaxLen"], apart := false, laid := [("unicode/utf8.acceptRanges", laid_unicode_utf8_acceptRanges), ("unicode/utf8.first", laid_unicode_utf8_first)] }
def RecordSaysSaid : Prop := recordSaysRow.holds Tryd.pinned (OpenSpec.ofChange recordSaysSpec)

/-- ITS FALSE NEIGHBOUR: 'it returns false'. Refute it at one input. -/
def recordSaysWrong : ChangeSpec := { name := "recordSays", fn := fun _ => fun
  | [d] => { results := [.lit (.bool false)], args := [d] }
  | _ => none }
def RecordSaysWrongFalsely : Prop := recordSaysRow.holds Tryd.pinned (OpenSpec.ofChange recordSaysWrong)

/-- 'rillkeep.SubjectSelf': WHATEVER THE INPUT: true; the input reads as it did. -/
def subjectSelfSpec : ChangeSpec := { name := "subjectSelf", fn := fun _ => fun
  | [d1, d2] => { results := [.lit (.bool true)], args := [d1, d2] }
  | _ => none }
def subjectSelfRow : OpenClaim := { program := "ytmeaenmialaghaadoor", sum := "b1ad269f910981369f34e42d20ff162d4a8a91354a46ae40560e5dc01e6ca37a", func := "rillbook/rillkeep.SubjectSelf", spec := "subjectSelf", inPlace := ["internal/bytealg.CountString", "internal/bytealg.IndexByteString", "internal/bytealg.IndexString"], unfollowed := true, recurses := true, named := ["unicode/utf8.first", "unicode/utf8.acceptRanges", "internal/bytealg.MaxLen"], apart := false, laid := [("unicode/utf8.acceptRanges", laid_unicode_utf8_acceptRanges), ("unicode/utf8.first", laid_unicode_utf8_first)] }
def SubjectSelfSaid : Prop := subjectSelfRow.holds Tryd.pinned (OpenSpec.ofChange subjectSelfSpec)

/-- ITS FALSE NEIGHBOUR: 'it returns false'. Refute it at one input. -/
def subjectSelfWrong : ChangeSpec := { name := "subjectSelf", fn := fun _ => fun
  | [d1, d2] => { results := [.lit (.bool false)], args := [d1, d2] }
  | _ => none }
def SubjectSelfWrongFalsely : Prop := subjectSelfRow.holds Tryd.pinned (OpenSpec.ofChange subjectSelfWrong)

/-- 'rilllaw.RecordReads': WHATEVER THE INPUT: true; the input reads as it did. -/
def recordReadsSpec : ChangeSpec := { name := "recordReads", fn := fun _ => fun
  | [d] => { results := [.lit (.bool true)], args := [d] }
  | _ => none }
def recordReadsRow : OpenClaim := { program := "ytmeaenmialaghaadoor", sum := "b1ad269f910981369f34e42d20ff162d4a8a91354a46ae40560e5dc01e6ca37a", func := "rillbook/rilllaw.RecordReads", spec := "recordReads", inPlace := ["internal/bytealg.CountString", "internal/bytealg.IndexByteString", "internal/bytealg.IndexString"], named := ["unicode/utf8.first", "unicode/utf8.acceptRanges", "internal/bytealg.MaxLen"], apart := false, laid := [("unicode/utf8.acceptRanges", laid_unicode_utf8_acceptRanges), ("unicode/utf8.first", laid_unicode_utf8_first)] }
def RecordReadsSaid : Prop := recordReadsRow.holds Tryd.pinned (OpenSpec.ofChange recordReadsSpec)

/-- ITS FALSE NEIGHBOUR: 'it returns false'. Refute it at one input. -/
def recordReadsWrong : ChangeSpec := { name := "recordReads", fn := fun _ => fun
  | [d] => { results := [.lit (.bool false)], args := [d] }
  | _ => none }
def RecordReadsWrongFalsely : Prop := recordReadsRow.holds Tryd.pinned (OpenSpec.ofChange recordReadsWrong)

/-- 'rillkeep.RecordBack': WHATEVER THE INPUT: true; the input reads as it did. -/
def recordBackSpec : ChangeSpec := { name := "recordBack", fn := fun _ => fun
  | [d1, d2, d3] => { results := [.lit (.bool true)], args := [d1, d2, d3] }
  | _ => none }
def recordBackRow : OpenClaim := { program := "ytmeaenmialaghaadoor", sum := "b1ad269f910981369f34e42d20ff162d4a8a91354a46ae40560e5dc01e6ca37a", func := "rillbook/rillkeep.RecordBack", spec := "recordBack", inPlace := ["internal/bytealg.CountString", "internal/bytealg.IndexByteString", "internal/bytealg.IndexString"], named := ["unicode/utf8.first", "unicode/utf8.acceptRanges", "internal/bytealg.MaxLen"], apart := false, laid := [("unicode/utf8.acceptRanges", laid_unicode_utf8_acceptRanges), ("unicode/utf8.first", laid_unicode_utf8_first)] }
def RecordBackSaid : Prop := recordBackRow.holds Tryd.pinned (OpenSpec.ofChange recordBackSpec)

/-- ITS FALSE NEIGHBOUR: 'it returns false'. Refute it at one input. -/
def recordBackWrong : ChangeSpec := { name := "recordBack", fn := fun _ => fun
  | [d1, d2, d3] => { results := [.lit (.bool false)], args := [d1, d2, d3] }
  | _ => none }
def RecordBackWrongFalsely : Prop := recordBackRow.holds Tryd.pinned (OpenSpec.ofChange recordBackWrong)

/-- 'rillkeep.RecordTurned': WHATEVER THE INPUT: true; the input reads as it did. -/
def recordTurnedSpec : ChangeSpec := { name := "recordTurned", fn := fun _ => fun
  | [d1, d2] => { results := [.lit (.bool true)], args := [d1, d2] }
  | _ => none }
def recordTurnedRow : OpenClaim := { program := "ytmeaenmialaghaadoor", sum := "b1ad269f910981369f34e42d20ff162d4a8a91354a46ae40560e5dc01e6ca37a", func := "rillbook/rillkeep.RecordTurned", spec := "recordTurned", inPlace := ["internal/bytealg.CountString", "internal/bytealg.IndexByteString", "internal/bytealg.IndexString"], named := ["unicode/utf8.first", "unicode/utf8.acceptRanges", "internal/bytealg.MaxLen"], apart := false, laid := [("unicode/utf8.acceptRanges", laid_unicode_utf8_acceptRanges), ("unicode/utf8.first", laid_unicode_utf8_first)] }
def RecordTurnedSaid : Prop := recordTurnedRow.holds Tryd.pinned (OpenSpec.ofChange recordTurnedSpec)

/-- ITS FALSE NEIGHBOUR: 'it returns false'. Refute it at one input. -/
def recordTurnedWrong : ChangeSpec := { name := "recordTurned", fn := fun _ => fun
  | [d1, d2] => { results := [.lit (.bool false)], args := [d1, d2] }
  | _ => none }
def RecordTurnedWrongFalsely : Prop := recordTurnedRow.holds Tryd.pinned (OpenSpec.ofChange recordTurnedWrong)

/-- 'rillkeep.RecordOne': WHATEVER THE INPUT: true; the input reads as it did. -/
def recordOneSpec : ChangeSpec := { name := "recordOne", fn := fun _ => fun
  | [d] => { results := [.lit (.bool true)], args := [d] }
  | _ => none }
def recordOneRow : OpenClaim := { program := "ytmeaenmialaghaadoor", sum := "b1ad269f910981369f34e42d20ff162d4a8a91354a46ae40560e5dc01e6ca37a", func := "rillbook/rillkeep.RecordOne", spec := "recordOne", inPlace := ["internal/bytealg.CountString", "internal/bytealg.IndexByteString", "internal/bytealg.IndexString"], named := ["unicode/utf8.first", "unicode/utf8.acceptRanges", "internal/bytealg.MaxLen"], apart := false, laid := [("unicode/utf8.acceptRanges", laid_unicode_utf8_acceptRanges), ("unicode/utf8.first", laid_unicode_utf8_first)] }
def RecordOneSaid : Prop := recordOneRow.holds Tryd.pinned (OpenSpec.ofChange recordOneSpec)

/-- ITS FALSE NEIGHBOUR: 'it returns false'. Refute it at one input. -/
def recordOneWrong : ChangeSpec := { name := "recordOne", fn := fun _ => fun
  | [d] => { results := [.lit (.bool false)], args := [d] }
  | _ => none }
def RecordOneWrongFalsely : Prop := recordOneRow.holds Tryd.pinned (OpenSpec.ofChange recordOneWrong)

/-- 'rillkeep.SubjectShows': WHATEVER THE INPUT: true; the input reads as it did. -/
def subjectShowsSpec : ChangeSpec := { name := "subjectShows", fn := fun _ => fun
  | [d1, d2] => { results := [.lit (.bool true)], args := [d1, d2] }
  | _ => none }
def subjectShowsRow : OpenClaim := { program := "ytmeaenmialaghaadoor", sum := "b1ad269f910981369f34e42d20ff162d4a8a91354a46ae40560e5dc01e6ca37a", func := "rillbook/rillkeep.SubjectShows", spec := "subjectShows", inPlace := ["internal/bytealg.CountString", "internal/bytealg.IndexByteString", "internal/bytealg.IndexString", "internal/abi.NoEscape", "internal/bytealg.MakeNoZero"], unfollowed := true, recurses := true, named := ["unicode/utf8.first", "unicode/utf8.acceptRanges", "internal/bytealg.MaxLen"], apart := false, laid := [("unicode/utf8.acceptRanges", laid_unicode_utf8_acceptRanges), ("unicode/utf8.first", laid_unicode_utf8_first)] }
def SubjectShowsSaid : Prop := subjectShowsRow.holds Tryd.pinned (OpenSpec.ofChange subjectShowsSpec)

/-- ITS FALSE NEIGHBOUR: 'it returns false'. Refute it at one input. -/
def subjectShowsWrong : ChangeSpec := { name := "subjectShows", fn := fun _ => fun
  | [d1, d2] => { results := [.lit (.bool false)], args := [d1, d2] }
  | _ => none }
def SubjectShowsWrongFalsely : Prop := subjectShowsRow.holds Tryd.pinned (OpenSpec.ofChange subjectShowsWrong)

/- THE SECOND FORM. 'bulk': how many values and letters a reading holds, each counted each time it is reached (what is shared counts as often as it is met; a slice's spare places count too). A statement '..UptoSaid' is the law's where the arguments, and the package variables that the reading takes, are together of bulk at most 1048576: NARROWER than '..Said'. Prove '..Said' where nothing that the law and all that it calls make is longer than what came in: it says more and counts as full. Else prove '..UptoSaid'. A law counts once. -/
mutual
def uptoBulk {H : Type} : DataW H → Nat
  | .lit (.string bytes) => bytes.length + 1
  | .lit _ => 1
  | .nil => 1
  | .ptr d => uptoBulk d + 1
  | .slice elems spare => uptoBulkAll elems + uptoBulkAll spare + 1
  | .agg parts => uptoBulkAll parts + 1
  | .iface _ d => uptoBulk d + 1
  | .map entries => uptoBulkEntries entries + 1
  | .held _ => 1
def uptoBulkAll {H : Type} : List (DataW H) → Nat
  | [] => 0
  | d :: r => uptoBulk d + uptoBulkAll r
def uptoBulkEntries {H : Type} : List (Lit × DataW H) → Nat
  | [] => 0
  | x :: r => uptoBulkEntry x + uptoBulkEntries r
def uptoBulkEntry {H : Type} : Lit × DataW H → Nat
  | (.string bytes, d) => bytes.length + uptoBulk d + 1
  | (_, d) => uptoBulk d + 1
 end
def uptoSmall : (H : Type) → List (DataW H) → Bool := fun _ ds => decide (uptoBulkAll ds ≤ 1048576)
def OpenSpec.upto (s : _root_.Go.ChangeSpec) : _root_.Go.OpenSpec := { _root_.Go.OpenSpec.ofChange s with cond := some uptoSmall }

/-- 'rilllaw.SubjectSays', WHERE WHAT IT READS IS OF BULK AT MOST 1048576: true; the input reads as it did. -/
def subjectSaysUptoRow : OpenClaim := { program := "ytmeaenmialaghaadoor", sum := "b1ad269f910981369f34e42d20ff162d4a8a91354a46ae40560e5dc01e6ca37a", func := "rillbook/rilllaw.SubjectSays", spec := "subjectSays", inPlace := ["internal/bytealg.CountString", "internal/bytealg.IndexByteString", "internal/bytealg.IndexString"], named := ["unicode/utf8.first", "unicode/utf8.acceptRanges", "internal/bytealg.MaxLen"], apart := false, laid := [("unicode/utf8.acceptRanges", laid_unicode_utf8_acceptRanges), ("unicode/utf8.first", laid_unicode_utf8_first)], narrowed := true }
def SubjectSaysUptoSaid : Prop := subjectSaysUptoRow.holds Tryd.pinned (OpenSpec.upto subjectSaysSpec)

/-- 'rilllaw.SubjectMatches', WHERE WHAT IT READS IS OF BULK AT MOST 1048576: true; the input reads as it did. -/
def subjectMatchesUptoRow : OpenClaim := { program := "ytmeaenmialaghaadoor", sum := "b1ad269f910981369f34e42d20ff162d4a8a91354a46ae40560e5dc01e6ca37a", func := "rillbook/rilllaw.SubjectMatches", spec := "subjectMatches", inPlace := ["internal/bytealg.CountString", "internal/bytealg.IndexByteString", "internal/bytealg.IndexString"], recurses := true, named := ["unicode/utf8.first", "unicode/utf8.acceptRanges", "internal/bytealg.MaxLen"], apart := false, laid := [("unicode/utf8.acceptRanges", laid_unicode_utf8_acceptRanges), ("unicode/utf8.first", laid_unicode_utf8_first)], narrowed := true }
def SubjectMatchesUptoSaid : Prop := subjectMatchesUptoRow.holds Tryd.pinned (OpenSpec.upto subjectMatchesSpec)

/-- 'rillkeep.SubjectTwo', WHERE WHAT IT READS IS OF BULK AT MOST 1048576: true; the input reads as it did. -/
def subjectTwoUptoRow : OpenClaim := { program := "ytmeaenmialaghaadoor", sum := "b1ad269f910981369f34e42d20ff162d4a8a91354a46ae40560e5dc01e6ca37a", func := "rillbook/rillkeep.SubjectTwo", spec := "subjectTwo", inPlace := ["internal/bytealg.CountString", "internal/bytealg.IndexByteString", "internal/bytealg.IndexString"], unfollowed := true, recurses := true, named := ["unicode/utf8.first", "unicode/utf8.acceptRanges", "internal/bytealg.MaxLen"], apart := false, laid := [("unicode/utf8.acceptRanges", laid_unicode_utf8_acceptRanges), ("unicode/utf8.first", laid_unicode_utf8_first)], narrowed := true }
def SubjectTwoUptoSaid : Prop := subjectTwoUptoRow.holds Tryd.pinned (OpenSpec.upto subjectTwoSpec)

/-- 'rillkeep.SubjectThree', WHERE WHAT IT READS IS OF BULK AT MOST 1048576: true; the input reads as it did. -/
def subjectThreeUptoRow : OpenClaim := { program := "ytmeaenmialaghaadoor", sum := "b1ad269f910981369f34e42d20ff162d4a8a91354a46ae40560e5dc01e6ca37a", func := "rillbook/rillkeep.SubjectThree", spec := "subjectThree", inPlace := ["internal/bytealg.CountString", "internal/bytealg.IndexByteString", "internal/bytealg.IndexString"], unfollowed := true, recurses := true, named := ["unicode/utf8.first", "unicode/utf8.acceptRanges", "internal/bytealg.MaxLen"], apart := false, laid := [("unicode/utf8.acceptRanges", laid_unicode_utf8_acceptRanges), ("unicode/utf8.first", laid_unicode_utf8_first)], narrowed := true }
def SubjectThreeUptoSaid : Prop := subjectThreeUptoRow.holds Tryd.pinned (OpenSpec.upto subjectThreeSpec)

/-- 'rilllaw.RecordSays', WHERE WHAT IT READS IS OF BULK AT MOST 1048576: true; the input reads as it did. -/
def recordSaysUptoRow : OpenClaim := { program := "ytmeaenmialaghaadoor", sum := "b1ad269f910981369f34e42d20ff162d4a8a91354a46ae40560e5dc01e6ca37a", func := "rillbook/rilllaw.RecordSays", spec := "recordSays", inPlace := ["internal/bytealg.CountString", "internal/bytealg.IndexByteString", "internal/bytealg.IndexString"], recurses := true, named := ["unicode/utf8.first", "unicode/utf8.acceptRanges", "internal/bytealg.MaxLen"], apart := false, laid := [("unicode/utf8.acceptRanges", laid_unicode_utf8_acceptRanges), ("unicode/utf8.first", laid_unicode_utf8_first)], narrowed := true }
def RecordSaysUptoSaid : Prop := recordSaysUptoRow.holds Tryd.pinned (OpenSpec.upto recordSaysSpec)

/-- 'rillkeep.SubjectSelf', WHERE WHAT IT READS IS OF BULK AT MOST 1048576: true; the input reads as it did. -/
def subjectSelfUptoRow : OpenClaim := { program := "ytmeaenmialaghaadoor", sum := "b1ad269f910981369f34e42d20ff162d4a8a91354a46ae40560e5dc01e6ca37a", func := "rillbook/rillkeep.SubjectSelf", spec := "subjectSelf", inPlace := ["internal/bytealg.CountString", "internal/bytealg.IndexByteString", "internal/bytealg.IndexString"], unfollowed := true, recurses := true, named := ["unicode/utf8.first", "unicode/utf8.acceptRanges", "internal/bytealg.MaxLen"], apart := false, laid := [("unicode/utf8.acceptRanges", laid_unicode_utf8_acceptRanges), ("unicode/utf8.first", laid_unicode_utf8_first)], narrowed := true }
def SubjectSelfUptoSaid : Prop := subjectSelfUptoRow.holds Tryd.pinned (OpenSpec.upto subjectSelfSpec)

/-- 'rilllaw.RecordReads', WHERE WHAT IT READS IS OF BULK AT MOST 1048576: true; the input reads as it did. -/
def recordReadsUptoRow : OpenClaim := { program := "ytmeaenmialaghaadoor", sum := "b1ad269f910981369f34e42d20ff162d4a8a91354a46ae40560e5dc01e6ca37a", func := "rillbook/rilllaw.RecordReads", spec := "recordReads", inPlace := ["internal/bytealg.CountString", "internal/bytealg.IndexByteString", "internal/bytealg.IndexString"], named := ["unicode/utf8.first", "unicode/utf8.acceptRanges", "internal/bytealg.MaxLen"], apart := false, laid := [("unicode/utf8.acceptRanges", laid_unicode_utf8_acceptRanges), ("unicode/utf8.first", laid_unicode_utf8_first)], narrowed := true }
def RecordReadsUptoSaid : Prop := recordReadsUptoRow.holds Tryd.pinned (OpenSpec.upto recordReadsSpec)

/-- 'rillkeep.RecordBack', WHERE WHAT IT READS IS OF BULK AT MOST 1048576: true; the input reads as it did. -/
def recordBackUptoRow : OpenClaim := { program := "ytmeaenmialaghaadoor", sum := "b1ad269f910981369f34e42d20ff162d4a8a91354a46ae40560e5dc01e6ca37a", func := "rillbook/rillkeep.RecordBack", spec := "recordBack", inPlace := ["internal/bytealg.CountString", "internal/bytealg.IndexByteString", "internal/bytealg.IndexString"], named := ["unicode/utf8.first", "unicode/utf8.acceptRanges", "internal/bytealg.MaxLen"], apart := false, laid := [("unicode/utf8.acceptRanges", laid_unicode_utf8_acceptRanges), ("unicode/utf8.first", laid_unicode_utf8_first)], narrowed := true }
def RecordBackUptoSaid : Prop := recordBackUptoRow.holds Tryd.pinned (OpenSpec.upto recordBackSpec)

/-- 'rillkeep.RecordTurned', WHERE WHAT IT READS IS OF BULK AT MOST 1048576: true; the input reads as it did. -/
def recordTurnedUptoRow : OpenClaim := { program := "ytmeaenmialaghaadoor", sum := "b1ad269f910981369f34e42d20ff162d4a8a91354a46ae40560e5dc01e6ca37a", func := "rillbook/rillkeep.RecordTurned", spec := "recordTurned", inPlace := ["internal/bytealg.CountString", "internal/bytealg.IndexByteString", "internal/bytealg.IndexString"], named := ["unicode/utf8.first", "unicode/utf8.acceptRanges", "internal/bytealg.MaxLen"], apart := false, laid := [("unicode/utf8.acceptRanges", laid_unicode_utf8_acceptRanges), ("unicode/utf8.first", laid_unicode_utf8_first)], narrowed := true }
def RecordTurnedUptoSaid : Prop := recordTurnedUptoRow.holds Tryd.pinned (OpenSpec.upto recordTurnedSpec)

/-- 'rillkeep.RecordOne', WHERE WHAT IT READS IS OF BULK AT MOST 1048576: true; the input reads as it did. -/
def recordOneUptoRow : OpenClaim := { program := "ytmeaenmialaghaadoor", sum := "b1ad269f910981369f34e42d20ff162d4a8a91354a46ae40560e5dc01e6ca37a", func := "rillbook/rillkeep.RecordOne", spec := "recordOne", inPlace := ["internal/bytealg.CountString", "internal/bytealg.IndexByteString", "internal/bytealg.IndexString"], named := ["unicode/utf8.first", "unicode/utf8.acceptRanges", "internal/bytealg.MaxLen"], apart := false, laid := [("unicode/utf8.acceptRanges", laid_unicode_utf8_acceptRanges), ("unicode/utf8.first", laid_unicode_utf8_first)], narrowed := true }
def RecordOneUptoSaid : Prop := recordOneUptoRow.holds Tryd.pinned (OpenSpec.upto recordOneSpec)

/-- 'rillkeep.SubjectShows', WHERE WHAT IT READS IS OF BULK AT MOST 1048576: true; the input reads as it did. -/
def subjectShowsUptoRow : OpenClaim := { program := "ytmeaenmialaghaadoor", sum := "b1ad269f910981369f34e42d20ff162d4a8a91354a46ae40560e5dc01e6ca37a", func := "rillbook/rillkeep.SubjectShows", spec := "subjectShows", inPlace := ["internal/bytealg.CountString", "internal/bytealg.IndexByteString", "internal/bytealg.IndexString", "internal/abi.NoEscape", "internal/bytealg.MakeNoZero"], unfollowed := true, recurses := true, named := ["unicode/utf8.first", "unicode/utf8.acceptRanges", "internal/bytealg.MaxLen"], apart := false, laid := [("unicode/utf8.acceptRanges", laid_unicode_utf8_acceptRanges), ("unicode/utf8.first", laid_unicode_utf8_first)], narrowed := true }
def SubjectShowsUptoSaid : Prop := subjectShowsUptoRow.holds Tryd.pinned (OpenSpec.upto subjectShowsSpec)

end Rows
end Go.Proofs.YtmeaenmialaghaaDoor
