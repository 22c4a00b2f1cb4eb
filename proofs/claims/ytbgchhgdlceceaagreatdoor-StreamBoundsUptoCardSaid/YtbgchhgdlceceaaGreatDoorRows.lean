/-
  NARROWER THAN 'FOR EVERY INPUT', by the rows' own cells (each row's printed sentence says how): ConsumerPlays: laid · PlansOwn: laid · LogPlays: laid · StreamBounds: laid · StreamRolls: laid · StreamTwice: laid · StreamRefuses: laid · StreamStops: laid · StreamPlays: laid.
  DERIVED. THE GIVEN ROWS OF THIS SEAT. 9 by the template 'for every input the law returns true; each argument reads behind the call as it read before'; 0 by the template 'total and deterministic' (their statements: YtbgchhgdlceceaaGreatDoorTotals.lean).
  GIVEN WITH THE SEED: the statements are not yours to turn. If you find one false, say at which input.
  Laid BY PROGRAM, IN A SANDBOX (cutbox-rows.mjs): the forced cells as the released guide's own fill.sh prints them over the translation 4bfcdfabde1f61d5… (all of the seat's roots in one cut). By AI agents, Wed Nov 11 2026. No macro, syntax, notation, axiom, sorry.
-/
import Derived.Test.YtbgchhgdlceceaaGreatDoorChecked
import GoSem.PinnedTables
import GoSem.Claim
import GoSem.ClaimJoined
import GoSem.ClaimMapViews
import Derived.JoinedTies
import Derived.KernelRfl
namespace Go.Proofs.YtbgchhgdlceceaaGreatDoor
/- THE CELL 'sum', in the pinned program and in every row, IS THE sha256 OF THE DUMP (.gsa) THAT YtbgchhgdlceceaaGreatDoorProg.lean LOADS. Nothing in Lean hashes anything: it is a label: what it is worth is what the hold of that sum in a sandbox is worth. -/
noncomputable def Tryz.pinned : Pinned := { name := "ytbgchhgdlceceaagreatdoor", sum := "4bfcdfabde1f61d59f7a22bd7c6b6acffe152ca68a5827b26ff5eedb1582a965", checked := Tryz.checked }
namespace Rows
def none {H : Type} : Left H := { results := [], args := [] }

/- WHAT THE LISTED PACKAGE-LEVEL VARIABLES READ AS WHEN THE CALL BEGINS. Each datum BY PROGRAM (the guide's laid-datum.mjs) off the statement by which the dump's own 'gosem.cut.vars' lays the variable. In a bare row this is a premise. The card (YtbgchhgdlceceaaGreatDoorCards.lean) ties it to the program's text. -/
def laid_unicode_utf8_acceptRanges {H : Type} : DataW H := .agg [.agg [.lit (.int .u8 128), .lit (.int .u8 191)], .agg [.lit (.int .u8 160), .lit (.int .u8 191)], .agg [.lit (.int .u8 128), .lit (.int .u8 159)], .agg [.lit (.int .u8 144), .lit (.int .u8 191)], .agg [.lit (.int .u8 128), .lit (.int .u8 143)], .agg [.lit (.int .u8 0), .lit (.int .u8 0)], .agg [.lit (.int .u8 0), .lit (.int .u8 0)], .agg [.lit (.int .u8 0), .lit (.int .u8 0)], .agg [.lit (.int .u8 0), .lit (.int .u8 0)], .agg [.lit (.int .u8 0), .lit (.int .u8 0)], .agg [.lit (.int .u8 0), .lit (.int .u8 0)], .agg [.lit (.int .u8 0), .lit (.int .u8 0)], .agg [.lit (.int .u8 0), .lit (.int .u8 0)], .agg [.lit (.int .u8 0), .lit (.int .u8 0)], .agg [.lit (.int .u8 0), .lit (.int .u8 0)], .agg [.lit (.int .u8 0), .lit (.int .u8 0)]]
/-- One of Go's own tables, pinned by name: the form's constant. -/
def laid_unicode_utf8_first : DataW Unit := Go.Pinned.utf8First

/-- 'rilllaw.ConsumerPlays': WHATEVER THE INPUT: true; the input reads as it did. -/
def consumerPlaysSpec : ChangeSpec := { name := "consumerPlays", fn := fun _ => fun
  | [d1, d2, d3] => { results := [.lit (.bool true)], args := [d1, d2, d3] }
  | _ => none }
def consumerPlaysRow : OpenClaim := { program := "ytbgchhgdlceceaagreatdoor", sum := "4bfcdfabde1f61d59f7a22bd7c6b6acffe152ca68a5827b26ff5eedb1582a965", func := "rillbook/rilllaw.ConsumerPlays", spec := "consumerPlays", inPlace := ["internal/bytealg.CountString", "internal/bytealg.IndexByteString", "internal/bytealg.IndexString", "internal/bytealg.abigen_runtime_cmpstring", "slices.overlaps[*rillbook/index.node]"], unfollowed := true, recurses := true, named := ["unicode/utf8.first", "unicode/utf8.acceptRanges", "internal/bytealg.MaxLen"], apart := false, laid := [("unicode/utf8.acceptRanges", laid_unicode_utf8_acceptRanges), ("unicode/utf8.first", laid_unicode_utf8_first)] }
def ConsumerPlaysSaid : Prop := consumerPlaysRow.holds Tryz.pinned (OpenSpec.ofChange consumerPlaysSpec)

/-- ITS FALSE NEIGHBOUR: 'it returns false'. Refute it at one input. -/
def consumerPlaysWrong : ChangeSpec := { name := "consumerPlays", fn := fun _ => fun
  | [d1, d2, d3] => { results := [.lit (.bool false)], args := [d1, d2, d3] }
  | _ => none }
def ConsumerPlaysWrongFalsely : Prop := consumerPlaysRow.holds Tryz.pinned (OpenSpec.ofChange consumerPlaysWrong)

/-- 'rillkeep.PlansOwn': WHATEVER THE INPUT: true; the input reads as it did. -/
def plansOwnSpec : ChangeSpec := { name := "plansOwn", fn := fun _ => fun
  | [d1, d2] => { results := [.lit (.bool true)], args := [d1, d2] }
  | _ => none }
def plansOwnRow : OpenClaim := { program := "ytbgchhgdlceceaagreatdoor", sum := "4bfcdfabde1f61d59f7a22bd7c6b6acffe152ca68a5827b26ff5eedb1582a965", func := "rillbook/rillkeep.PlansOwn", spec := "plansOwn", inPlace := ["internal/bytealg.CountString", "internal/bytealg.IndexByteString", "internal/bytealg.IndexString"], unfollowed := true, recurses := true, named := ["unicode/utf8.first", "unicode/utf8.acceptRanges", "internal/bytealg.MaxLen"], apart := false, laid := [("unicode/utf8.acceptRanges", laid_unicode_utf8_acceptRanges), ("unicode/utf8.first", laid_unicode_utf8_first)] }
def PlansOwnSaid : Prop := plansOwnRow.holds Tryz.pinned (OpenSpec.ofChange plansOwnSpec)

/-- ITS FALSE NEIGHBOUR: 'it returns false'. Refute it at one input. -/
def plansOwnWrong : ChangeSpec := { name := "plansOwn", fn := fun _ => fun
  | [d1, d2] => { results := [.lit (.bool false)], args := [d1, d2] }
  | _ => none }
def PlansOwnWrongFalsely : Prop := plansOwnRow.holds Tryz.pinned (OpenSpec.ofChange plansOwnWrong)

/-- 'rilllaw.LogPlays': WHATEVER THE INPUT: true; the input reads as it did. -/
def logPlaysSpec : ChangeSpec := { name := "logPlays", fn := fun _ => fun
  | [d1, d2, d3, d4] => { results := [.lit (.bool true)], args := [d1, d2, d3, d4] }
  | _ => none }
def logPlaysRow : OpenClaim := { program := "ytbgchhgdlceceaagreatdoor", sum := "4bfcdfabde1f61d59f7a22bd7c6b6acffe152ca68a5827b26ff5eedb1582a965", func := "rillbook/rilllaw.LogPlays", spec := "logPlays", inPlace := ["slices.overlaps[rillbook/rillref.Paper]", "internal/bytealg.CountString", "internal/bytealg.IndexByteString", "internal/bytealg.IndexString"], unfollowed := true, recurses := true, named := ["unicode/utf8.first", "unicode/utf8.acceptRanges", "internal/bytealg.MaxLen"], apart := false, laid := [("unicode/utf8.acceptRanges", laid_unicode_utf8_acceptRanges), ("unicode/utf8.first", laid_unicode_utf8_first)] }
def LogPlaysSaid : Prop := logPlaysRow.holds Tryz.pinned (OpenSpec.ofChange logPlaysSpec)

/-- ITS FALSE NEIGHBOUR: 'it returns false'. Refute it at one input. -/
def logPlaysWrong : ChangeSpec := { name := "logPlays", fn := fun _ => fun
  | [d1, d2, d3, d4] => { results := [.lit (.bool false)], args := [d1, d2, d3, d4] }
  | _ => none }
def LogPlaysWrongFalsely : Prop := logPlaysRow.holds Tryz.pinned (OpenSpec.ofChange logPlaysWrong)

/-- 'rillkeep.StreamBounds': WHATEVER THE INPUT: true; the input reads as it did. -/
def streamBoundsSpec : ChangeSpec := { name := "streamBounds", fn := fun _ => fun
  | [d1, d2, d3, d4] => { results := [.lit (.bool true)], args := [d1, d2, d3, d4] }
  | _ => none }
def streamBoundsRow : OpenClaim := { program := "ytbgchhgdlceceaagreatdoor", sum := "4bfcdfabde1f61d59f7a22bd7c6b6acffe152ca68a5827b26ff5eedb1582a965", func := "rillbook/rillkeep.StreamBounds", spec := "streamBounds", inPlace := ["internal/bytealg.CountString", "internal/bytealg.IndexByteString", "internal/bytealg.IndexString", "internal/bytealg.abigen_runtime_cmpstring", "slices.overlaps[*rillbook/index.node]"], unfollowed := true, recurses := true, named := ["unicode/utf8.first", "unicode/utf8.acceptRanges", "internal/bytealg.MaxLen"], apart := false, laid := [("unicode/utf8.acceptRanges", laid_unicode_utf8_acceptRanges), ("unicode/utf8.first", laid_unicode_utf8_first)] }
def StreamBoundsSaid : Prop := streamBoundsRow.holds Tryz.pinned (OpenSpec.ofChange streamBoundsSpec)

/-- ITS FALSE NEIGHBOUR: 'it returns false'. Refute it at one input. -/
def streamBoundsWrong : ChangeSpec := { name := "streamBounds", fn := fun _ => fun
  | [d1, d2, d3, d4] => { results := [.lit (.bool false)], args := [d1, d2, d3, d4] }
  | _ => none }
def StreamBoundsWrongFalsely : Prop := streamBoundsRow.holds Tryz.pinned (OpenSpec.ofChange streamBoundsWrong)

/-- 'rillkeep.StreamRolls': WHATEVER THE INPUT: true; the input reads as it did. -/
def streamRollsSpec : ChangeSpec := { name := "streamRolls", fn := fun _ => fun
  | [d1, d2, d3] => { results := [.lit (.bool true)], args := [d1, d2, d3] }
  | _ => none }
def streamRollsRow : OpenClaim := { program := "ytbgchhgdlceceaagreatdoor", sum := "4bfcdfabde1f61d59f7a22bd7c6b6acffe152ca68a5827b26ff5eedb1582a965", func := "rillbook/rillkeep.StreamRolls", spec := "streamRolls", inPlace := ["internal/bytealg.CountString", "internal/bytealg.IndexByteString", "internal/bytealg.IndexString", "internal/bytealg.abigen_runtime_cmpstring", "slices.overlaps[*rillbook/index.node]"], unfollowed := true, recurses := true, named := ["unicode/utf8.first", "unicode/utf8.acceptRanges", "internal/bytealg.MaxLen"], apart := false, laid := [("unicode/utf8.acceptRanges", laid_unicode_utf8_acceptRanges), ("unicode/utf8.first", laid_unicode_utf8_first)] }
def StreamRollsSaid : Prop := streamRollsRow.holds Tryz.pinned (OpenSpec.ofChange streamRollsSpec)

/-- ITS FALSE NEIGHBOUR: 'it returns false'. Refute it at one input. -/
def streamRollsWrong : ChangeSpec := { name := "streamRolls", fn := fun _ => fun
  | [d1, d2, d3] => { results := [.lit (.bool false)], args := [d1, d2, d3] }
  | _ => none }
def StreamRollsWrongFalsely : Prop := streamRollsRow.holds Tryz.pinned (OpenSpec.ofChange streamRollsWrong)

/-- 'rillkeep.StreamTwice': WHATEVER THE INPUT: true; the input reads as it did. -/
def streamTwiceSpec : ChangeSpec := { name := "streamTwice", fn := fun _ => fun
  | [d1, d2, d3, d4] => { results := [.lit (.bool true)], args := [d1, d2, d3, d4] }
  | _ => none }
def streamTwiceRow : OpenClaim := { program := "ytbgchhgdlceceaagreatdoor", sum := "4bfcdfabde1f61d59f7a22bd7c6b6acffe152ca68a5827b26ff5eedb1582a965", func := "rillbook/rillkeep.StreamTwice", spec := "streamTwice", inPlace := ["internal/bytealg.CountString", "internal/bytealg.IndexByteString", "internal/bytealg.IndexString", "internal/bytealg.abigen_runtime_cmpstring", "slices.overlaps[*rillbook/index.node]"], unfollowed := true, recurses := true, named := ["unicode/utf8.first", "unicode/utf8.acceptRanges", "internal/bytealg.MaxLen"], apart := false, laid := [("unicode/utf8.acceptRanges", laid_unicode_utf8_acceptRanges), ("unicode/utf8.first", laid_unicode_utf8_first)] }
def StreamTwiceSaid : Prop := streamTwiceRow.holds Tryz.pinned (OpenSpec.ofChange streamTwiceSpec)

/-- ITS FALSE NEIGHBOUR: 'it returns false'. Refute it at one input. -/
def streamTwiceWrong : ChangeSpec := { name := "streamTwice", fn := fun _ => fun
  | [d1, d2, d3, d4] => { results := [.lit (.bool false)], args := [d1, d2, d3, d4] }
  | _ => none }
def StreamTwiceWrongFalsely : Prop := streamTwiceRow.holds Tryz.pinned (OpenSpec.ofChange streamTwiceWrong)

/-- 'rillkeep.StreamRefuses': WHATEVER THE INPUT: true; the input reads as it did. -/
def streamRefusesSpec : ChangeSpec := { name := "streamRefuses", fn := fun _ => fun
  | [d1, d2, d3] => { results := [.lit (.bool true)], args := [d1, d2, d3] }
  | _ => none }
def streamRefusesRow : OpenClaim := { program := "ytbgchhgdlceceaagreatdoor", sum := "4bfcdfabde1f61d59f7a22bd7c6b6acffe152ca68a5827b26ff5eedb1582a965", func := "rillbook/rillkeep.StreamRefuses", spec := "streamRefuses", inPlace := ["internal/bytealg.CountString", "internal/bytealg.IndexByteString", "internal/bytealg.IndexString", "internal/bytealg.abigen_runtime_cmpstring", "slices.overlaps[*rillbook/index.node]"], unfollowed := true, recurses := true, named := ["unicode/utf8.first", "unicode/utf8.acceptRanges", "internal/bytealg.MaxLen"], apart := false, laid := [("unicode/utf8.acceptRanges", laid_unicode_utf8_acceptRanges), ("unicode/utf8.first", laid_unicode_utf8_first)] }
def StreamRefusesSaid : Prop := streamRefusesRow.holds Tryz.pinned (OpenSpec.ofChange streamRefusesSpec)

/-- ITS FALSE NEIGHBOUR: 'it returns false'. Refute it at one input. -/
def streamRefusesWrong : ChangeSpec := { name := "streamRefuses", fn := fun _ => fun
  | [d1, d2, d3] => { results := [.lit (.bool false)], args := [d1, d2, d3] }
  | _ => none }
def StreamRefusesWrongFalsely : Prop := streamRefusesRow.holds Tryz.pinned (OpenSpec.ofChange streamRefusesWrong)

/-- 'rillkeep.StreamStops': WHATEVER THE INPUT: true; the input reads as it did. -/
def streamStopsSpec : ChangeSpec := { name := "streamStops", fn := fun _ => fun
  | [d1, d2, d3] => { results := [.lit (.bool true)], args := [d1, d2, d3] }
  | _ => none }
def streamStopsRow : OpenClaim := { program := "ytbgchhgdlceceaagreatdoor", sum := "4bfcdfabde1f61d59f7a22bd7c6b6acffe152ca68a5827b26ff5eedb1582a965", func := "rillbook/rillkeep.StreamStops", spec := "streamStops", inPlace := ["internal/bytealg.CountString", "internal/bytealg.IndexByteString", "internal/bytealg.IndexString", "internal/bytealg.abigen_runtime_cmpstring", "slices.overlaps[*rillbook/index.node]"], unfollowed := true, recurses := true, named := ["unicode/utf8.first", "unicode/utf8.acceptRanges", "internal/bytealg.MaxLen"], apart := false, laid := [("unicode/utf8.acceptRanges", laid_unicode_utf8_acceptRanges), ("unicode/utf8.first", laid_unicode_utf8_first)] }
def StreamStopsSaid : Prop := streamStopsRow.holds Tryz.pinned (OpenSpec.ofChange streamStopsSpec)

/-- ITS FALSE NEIGHBOUR: 'it returns false'. Refute it at one input. -/
def streamStopsWrong : ChangeSpec := { name := "streamStops", fn := fun _ => fun
  | [d1, d2, d3] => { results := [.lit (.bool false)], args := [d1, d2, d3] }
  | _ => none }
def StreamStopsWrongFalsely : Prop := streamStopsRow.holds Tryz.pinned (OpenSpec.ofChange streamStopsWrong)

/-- 'rilllaw.StreamPlays': WHATEVER THE INPUT: true; the input reads as it did. -/
def streamPlaysSpec : ChangeSpec := { name := "streamPlays", fn := fun _ => fun
  | [d1, d2, d3, d4, d5] => { results := [.lit (.bool true)], args := [d1, d2, d3, d4, d5] }
  | _ => none }
def streamPlaysRow : OpenClaim := { program := "ytbgchhgdlceceaagreatdoor", sum := "4bfcdfabde1f61d59f7a22bd7c6b6acffe152ca68a5827b26ff5eedb1582a965", func := "rillbook/rilllaw.StreamPlays", spec := "streamPlays", inPlace := ["internal/bytealg.CountString", "internal/bytealg.IndexByteString", "internal/bytealg.IndexString", "internal/bytealg.abigen_runtime_cmpstring", "slices.overlaps[*rillbook/index.node]", "slices.overlaps[rillbook/rillref.Paper]", "slices.overlaps[rillbook/api.Entry]"], unfollowed := true, recurses := true, named := ["unicode/utf8.first", "unicode/utf8.acceptRanges", "internal/bytealg.MaxLen"], apart := false, laid := [("unicode/utf8.acceptRanges", laid_unicode_utf8_acceptRanges), ("unicode/utf8.first", laid_unicode_utf8_first)] }
def StreamPlaysSaid : Prop := streamPlaysRow.holds Tryz.pinned (OpenSpec.ofChange streamPlaysSpec)

/-- ITS FALSE NEIGHBOUR: 'it returns false'. Refute it at one input. -/
def streamPlaysWrong : ChangeSpec := { name := "streamPlays", fn := fun _ => fun
  | [d1, d2, d3, d4, d5] => { results := [.lit (.bool false)], args := [d1, d2, d3, d4, d5] }
  | _ => none }
def StreamPlaysWrongFalsely : Prop := streamPlaysRow.holds Tryz.pinned (OpenSpec.ofChange streamPlaysWrong)

/- THE SECOND FORM. 'bulk': how many values and letters a reading holds, each counted each time it is reached (what is shared counts as often as it is met; a slice's spare places count too). A statement '..UptoSaid' is the law's where the arguments, and the package variables that the reading takes, are together of bulk at most 1048576: NARROWER than '..Said'. Prove '..Said' where nothing that the law and all that it calls make is longer than what came in: it says more and counts as full. Else prove '..UptoSaid'. A law counts once. -/
mutual
def uptoBulk {H : Type} : DataW H → Nat
  | .lit (.string bytes) => bytes.length + 1
  | .lit _ => 1
  | .nil => 1
  | .ptr d => uptoBulk d + 1
  | .slice elems spare => uptoBulkAll elems + uptoBulkAll spare + 1
  | .agg parts => uptoBulkAll parts + 1
  | .iface _ d => uptoBulk d + 1
  | .map entries => uptoBulkEntries entries + 1
  | .held _ => 1
def uptoBulkAll {H : Type} : List (DataW H) → Nat
  | [] => 0
  | d :: r => uptoBulk d + uptoBulkAll r
def uptoBulkEntries {H : Type} : List (Lit × DataW H) → Nat
  | [] => 0
  | x :: r => uptoBulkEntry x + uptoBulkEntries r
def uptoBulkEntry {H : Type} : Lit × DataW H → Nat
  | (.string bytes, d) => bytes.length + uptoBulk d + 1
  | (_, d) => uptoBulk d + 1
 end
def uptoSmall : (H : Type) → List (DataW H) → Bool := fun _ ds => decide (uptoBulkAll ds ≤ 1048576)
def OpenSpec.upto (s : _root_.Go.ChangeSpec) : _root_.Go.OpenSpec := { _root_.Go.OpenSpec.ofChange s with cond := some uptoSmall }

/-- 'rilllaw.ConsumerPlays', WHERE WHAT IT READS IS OF BULK AT MOST 1048576: true; the input reads as it did. -/
def consumerPlaysUptoRow : OpenClaim := { program := "ytbgchhgdlceceaagreatdoor", sum := "4bfcdfabde1f61d59f7a22bd7c6b6acffe152ca68a5827b26ff5eedb1582a965", func := "rillbook/rilllaw.ConsumerPlays", spec := "consumerPlays", inPlace := ["internal/bytealg.CountString", "internal/bytealg.IndexByteString", "internal/bytealg.IndexString", "internal/bytealg.abigen_runtime_cmpstring", "slices.overlaps[*rillbook/index.node]"], unfollowed := true, recurses := true, named := ["unicode/utf8.first", "unicode/utf8.acceptRanges", "internal/bytealg.MaxLen"], apart := false, laid := [("unicode/utf8.acceptRanges", laid_unicode_utf8_acceptRanges), ("unicode/utf8.first", laid_unicode_utf8_first)], narrowed := true }
def ConsumerPlaysUptoSaid : Prop := consumerPlaysUptoRow.holds Tryz.pinned (OpenSpec.upto consumerPlaysSpec)

/-- 'rillkeep.PlansOwn', WHERE WHAT IT READS IS OF BULK AT MOST 1048576: true; the input reads as it did. -/
def plansOwnUptoRow : OpenClaim := { program := "ytbgchhgdlceceaagreatdoor", sum := "4bfcdfabde1f61d59f7a22bd7c6b6acffe152ca68a5827b26ff5eedb1582a965", func := "rillbook/rillkeep.PlansOwn", spec := "plansOwn", inPlace := ["internal/bytealg.CountString", "internal/bytealg.IndexByteString", "internal/bytealg.IndexString"], unfollowed := true, recurses := true, named := ["unicode/utf8.first", "unicode/utf8.acceptRanges", "internal/bytealg.MaxLen"], apart := false, laid := [("unicode/utf8.acceptRanges", laid_unicode_utf8_acceptRanges), ("unicode/utf8.first", laid_unicode_utf8_first)], narrowed := true }
def PlansOwnUptoSaid : Prop := plansOwnUptoRow.holds Tryz.pinned (OpenSpec.upto plansOwnSpec)

/-- 'rilllaw.LogPlays', WHERE WHAT IT READS IS OF BULK AT MOST 1048576: true; the input reads as it did. -/
def logPlaysUptoRow : OpenClaim := { program := "ytbgchhgdlceceaagreatdoor", sum := "4bfcdfabde1f61d59f7a22bd7c6b6acffe152ca68a5827b26ff5eedb1582a965", func := "rillbook/rilllaw.LogPlays", spec := "logPlays", inPlace := ["slices.overlaps[rillbook/rillref.Paper]", "internal/bytealg.CountString", "internal/bytealg.IndexByteString", "internal/bytealg.IndexString"], unfollowed := true, recurses := true, named := ["unicode/utf8.first", "unicode/utf8.acceptRanges", "internal/bytealg.MaxLen"], apart := false, laid := [("unicode/utf8.acceptRanges", laid_unicode_utf8_acceptRanges), ("unicode/utf8.first", laid_unicode_utf8_first)], narrowed := true }
def LogPlaysUptoSaid : Prop := logPlaysUptoRow.holds Tryz.pinned (OpenSpec.upto logPlaysSpec)

/-- 'rillkeep.StreamBounds', WHERE WHAT IT READS IS OF BULK AT MOST 1048576: true; the input reads as it did. -/
def streamBoundsUptoRow : OpenClaim := { program := "ytbgchhgdlceceaagreatdoor", sum := "4bfcdfabde1f61d59f7a22bd7c6b6acffe152ca68a5827b26ff5eedb1582a965", func := "rillbook/rillkeep.StreamBounds", spec := "streamBounds", inPlace := ["internal/bytealg.CountString", "internal/bytealg.IndexByteString", "internal/bytealg.IndexString", "internal/bytealg.abigen_runtime_cmpstring", "slices.overlaps[*rillbook/index.node]"], unfollowed := true, recurses := true, named := ["unicode/utf8.first", "unicode/utf8.acceptRanges", "internal/bytealg.MaxLen"], apart := false, laid := [("unicode/utf8.acceptRanges", laid_unicode_utf8_acceptRanges), ("unicode/utf8.first", laid_unicode_utf8_first)], narrowed := true }
def StreamBoundsUptoSaid : Prop := streamBoundsUptoRow.holds Tryz.pinned (OpenSpec.upto streamBoundsSpec)

/-- 'rillkeep.StreamRolls', WHERE WHAT IT READS IS OF BULK AT MOST 1048576: true; the input reads as it did. -/
def streamRollsUptoRow : OpenClaim := { program := "ytbgchhgdlceceaagreatdoor", sum := "4bfcdfabde1f61d59f7a22bd7c6b6acffe152ca68a5827b26ff5eedb1582a965", func := "rillbook/rillkeep.StreamRolls", spec := "streamRolls", inPlace := ["internal/bytealg.CountString", "internal/bytealg.IndexByteString", "internal/bytealg.IndexString", "internal/bytealg.abigen_runtime_cmpstring", "slices.overlaps[*rillbook/index.node]"], unfollowed := true, recurses := true, named := ["unicode/utf8.first", "unicode/utf8.acceptRanges", "internal/bytealg.MaxLen"], apart := false, laid := [("unicode/utf8.acceptRanges", laid_unicode_utf8_acceptRanges), ("unicode/utf8.first", laid_unicode_utf8_first)], narrowed := true }
def StreamRollsUptoSaid : Prop := streamRollsUptoRow.holds Tryz.pinned (OpenSpec.upto streamRollsSpec)

/-- 'rillkeep.StreamTwice', WHERE WHAT IT READS IS OF BULK AT MOST 1048576: true; the input reads as it did. -/
def streamTwiceUptoRow : OpenClaim := { program := "ytbgchhgdlceceaagreatdoor", sum := "4bfcdfabde1f61d59f7a22bd7c6b6acffe152ca68a5827b26ff5eedb1582a965", func := "rillbook/rillkeep.StreamTwice", spec := "streamTwice", inPlace := ["internal/bytealg.CountString", "internal/bytealg.IndexByteString", "internal/bytealg.IndexString", "internal/bytealg.abigen_runtime_cmpstring", "slices.overlaps[*rillbook/index.node]"], unfollowed := true, recurses := true, named := ["unicode/utf8.first", "unicode/utf8.acceptRanges", "internal/bytealg.MaxLen"], apart := false, laid := [("unicode/utf8.acceptRanges", laid_unicode_utf8_acceptRanges), ("unicode/utf8.first", laid_unicode_utf8_first)], narrowed := true }
def StreamTwiceUptoSaid : Prop := streamTwiceUptoRow.holds Tryz.pinned (OpenSpec.upto streamTwiceSpec)

/-- 'rillkeep.StreamRefuses', WHERE WHAT IT READS IS OF BULK AT MOST 1048576: true; the input reads as it did. -/
def streamRefusesUptoRow : OpenClaim := { program := "ytbgchhgdlceceaagreatdoor", sum := "4bfcdfabde1f61d59f7a22bd7c6b6acffe152ca68a5827b26ff5eedb1582a965", func := "rillbook/rillkeep.StreamRefuses", spec := "streamRefuses", inPlace := ["internal/bytealg.CountString", "internal/bytealg.IndexByteString", "internal/bytealg.IndexString", "internal/bytealg.abigen_runtime_cmpstring", "slices.overlaps[*rillbook/index.node]"], unfollowed := true, recurses := true, named := ["unicode/utf8.first", "unicode/utf8.acceptRanges", "internal/bytealg.MaxLen"], apart := false, laid := [("unicode/utf8.acceptRanges", laid_unicode_utf8_acceptRanges), ("unicode/utf8.first", laid_unicode_utf8_first)], narrowed := true }
def StreamRefusesUptoSaid : Prop := streamRefusesUptoRow.holds Tryz.pinned (OpenSpec.upto streamRefusesSpec)

/-- 'rillkeep.StreamStops', WHERE WHAT IT READS IS OF BULK AT MOST 1048576: true; the input reads as it did. -/
def streamStopsUptoRow : OpenClaim := { program := "ytbgchhgdlceceaagreatdoor", sum := "4bfcdfabde1f61d59f7a22bd7c6b6acffe152ca68a5827b26ff5eedb1582a965", func := "rillbook/rillkeep.StreamStops", spec := "streamStops", inPlace := ["internal/bytealg.CountString", "internal/bytealg.IndexByteString", "internal/bytealg.IndexString", "internal/bytealg.abigen_runtime_cmpstring", "slices.overlaps[*rillbook/index.node]"], unfollowed := true, recurses := true, named := ["unicode/utf8.first", "unicode/utf8.acceptRanges", "internal/bytealg.MaxLen"], apart := false, laid := [("unicode/utf8.acceptRanges", laid_unicode_utf8_acceptRanges), ("unicode/utf8.first", laid_unicode_utf8_first)], narrowed := true }
def StreamStopsUptoSaid : Prop := streamStopsUptoRow.holds Tryz.pinned (OpenSpec.upto streamStopsSpec)

/-- 'rilllaw.StreamPlays', WHERE WHAT IT READS IS OF BULK AT MOST 1048576: true; the input reads as it did. -/
def streamPlaysUptoRow : OpenClaim := { program := "ytbgchhgdlceceaagreatdoor", sum := "4bfcdfabde1f61d59f7a22bd7c6b6acffe152ca68a5827b26ff5eedb1582a965", func := "rillbook/rilllaw.StreamPlays", spec := "streamPlays", inPlace := ["internal/bytealg.CountString", "internal/bytealg.IndexByteString", "internal/bytealg.IndexString", "internal/bytealg.abigen_runtime_cmpstring", "slices.overlaps[*rillbook/index.node]", "slices.overlaps[rillbook/rillref.Paper]", "slices.overlaps[rillbook/api.Entry]"], unfollowed := true, recurses := true, named := ["unicode/utf8.first", "unicode/utf8.acceptRanges", "internal/bytealg.MaxLen"], apart := false, laid := [("unicode/utf8.acceptRanges", laid_unicode_utf8_acceptRanges), ("unicode/utf8.first", laid_unicode_utf8_first)], narrowed := true }
def StreamPlaysUptoSaid : Prop := streamPlaysUptoRow.holds Tryz.pinned (OpenSpec.upto streamPlaysSpec)

end Rows
end Go.Proofs.YtbgchhgdlceceaaGreatDoor
