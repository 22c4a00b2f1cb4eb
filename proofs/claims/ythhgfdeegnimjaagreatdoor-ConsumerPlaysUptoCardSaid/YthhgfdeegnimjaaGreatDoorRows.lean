/-
  NARROWER THAN 'FOR EVERY INPUT', by the rows' own cells (each row's printed sentence says how): ConsumerPlays: laid · StreamPlays: laid · ServerApart: laid · ServerStops: laid · ServerPlays: laid.
  DERIVED. THE GIVEN ROWS OF THIS SEAT. 5 by the template 'for every input the law returns true; each argument reads behind the call as it read before'; 0 by the template 'total and deterministic' (their statements: YthhgfdeegnimjaaGreatDoorTotals.lean).
  GIVEN WITH THE SEED: the statements are not yours to turn. If you find one false, say at which input.
  Laid BY PROGRAM, IN A SANDBOX (cutbox-rows.mjs): the forced cells as the released guide's own fill.sh prints them over the translation 3cba1a703cd55ca0… (all of the seat's roots in one cut). By AI agents, Wed Nov 11 2026. No macro, syntax, notation, axiom, sorry.
-/
import Derived.Test.YthhgfdeegnimjaaGreatDoorChecked
import GoSem.PinnedTables
import GoSem.Claim
import GoSem.ClaimJoined
import GoSem.ClaimMapViews
import Derived.JoinedTies
import Derived.KernelRfl
namespace Go.Proofs.YthhgfdeegnimjaaGreatDoor
/- THE CELL 'sum', in the pinned program and in every row, IS THE sha256 OF THE DUMP (.gsa) THAT YthhgfdeegnimjaaGreatDoorProg.lean LOADS. Nothing in Lean hashes anything: it is a label: what it is worth is what the hold of that sum in a sandbox is worth. -/
noncomputable def Tryz.pinned : Pinned := { name := "ythhgfdeegnimjaagreatdoor", sum := "3cba1a703cd55ca031390169cdcbba3d6ba9d762ffe4288e09e20048656035be", checked := Tryz.checked }
namespace Rows
def none {H : Type} : Left H := { results := [], args := [] }

/- WHAT THE LISTED PACKAGE-LEVEL VARIABLES READ AS WHEN THE CALL BEGINS. Each datum BY PROGRAM (the guide's laid-datum.mjs) off the statement by which the dump's own 'gosem.cut.vars' lays the variable. In a bare row this is a premise. The card (YthhgfdeegnimjaaGreatDoorCards.lean) ties it to the program's text. -/
def laid_unicode_utf8_acceptRanges {H : Type} : DataW H := .agg [.agg [.lit (.int .u8 128), .lit (.int .u8 191)], .agg [.lit (.int .u8 160), .lit (.int .u8 191)], .agg [.lit (.int .u8 128), .lit (.int .u8 159)], .agg [.lit (.int .u8 144), .lit (.int .u8 191)], .agg [.lit (.int .u8 128), .lit (.int .u8 143)], .agg [.lit (.int .u8 0), .lit (.int .u8 0)], .agg [.lit (.int .u8 0), .lit (.int .u8 0)], .agg [.lit (.int .u8 0), .lit (.int .u8 0)], .agg [.lit (.int .u8 0), .lit (.int .u8 0)], .agg [.lit (.int .u8 0), .lit (.int .u8 0)], .agg [.lit (.int .u8 0), .lit (.int .u8 0)], .agg [.lit (.int .u8 0), .lit (.int .u8 0)], .agg [.lit (.int .u8 0), .lit (.int .u8 0)], .agg [.lit (.int .u8 0), .lit (.int .u8 0)], .agg [.lit (.int .u8 0), .lit (.int .u8 0)], .agg [.lit (.int .u8 0), .lit (.int .u8 0)]]
/-- One of Go's own tables, pinned by name: the form's constant. -/
def laid_unicode_utf8_first : DataW Unit := Go.Pinned.utf8First
def laid_rillbook_rillref_planWords {H : Type} : DataW H := .agg [.lit (.string [109, 115, 103, 115]), .lit (.string [98, 121, 116, 101, 115]), .lit (.string [97, 103, 101]), .lit (.string [112, 101, 114]), .lit (.string [115, 105, 122, 101]), .lit (.string [100, 105, 115, 99, 97, 114, 100]), .lit (.string [107, 101, 101, 112]), .lit (.string [119, 105, 110, 100, 111, 119])]

/-- 'rilllaw.ConsumerPlays': WHATEVER THE INPUT: true; the input reads as it did. -/
def consumerPlaysSpec : ChangeSpec := { name := "consumerPlays", fn := fun _ => fun
  | [d1, d2, d3] => { results := [.lit (.bool true)], args := [d1, d2, d3] }
  | _ => none }
def consumerPlaysRow : OpenClaim := { program := "ythhgfdeegnimjaagreatdoor", sum := "3cba1a703cd55ca031390169cdcbba3d6ba9d762ffe4288e09e20048656035be", func := "rillbook/rilllaw.ConsumerPlays", spec := "consumerPlays", inPlace := ["internal/bytealg.CountString", "internal/bytealg.IndexByteString", "internal/bytealg.IndexString", "internal/bytealg.abigen_runtime_cmpstring", "slices.overlaps[*rillbook/index.node]"], unfollowed := true, recurses := true, named := ["unicode/utf8.first", "unicode/utf8.acceptRanges", "internal/bytealg.MaxLen"], apart := false, laid := [("unicode/utf8.acceptRanges", laid_unicode_utf8_acceptRanges), ("unicode/utf8.first", laid_unicode_utf8_first)] }
def ConsumerPlaysSaid : Prop := consumerPlaysRow.holds Tryz.pinned (OpenSpec.ofChange consumerPlaysSpec)

/-- ITS FALSE NEIGHBOUR: 'it returns false'. Refute it at one input. -/
def consumerPlaysWrong : ChangeSpec := { name := "consumerPlays", fn := fun _ => fun
  | [d1, d2, d3] => { results := [.lit (.bool false)], args := [d1, d2, d3] }
  | _ => none }
def ConsumerPlaysWrongFalsely : Prop := consumerPlaysRow.holds Tryz.pinned (OpenSpec.ofChange consumerPlaysWrong)

/-- 'rilllaw.StreamPlays': WHATEVER THE INPUT: true; the input reads as it did. -/
def streamPlaysSpec : ChangeSpec := { name := "streamPlays", fn := fun _ => fun
  | [d1, d2, d3, d4, d5] => { results := [.lit (.bool true)], args := [d1, d2, d3, d4, d5] }
  | _ => none }
def streamPlaysRow : OpenClaim := { program := "ythhgfdeegnimjaagreatdoor", sum := "3cba1a703cd55ca031390169cdcbba3d6ba9d762ffe4288e09e20048656035be", func := "rillbook/rilllaw.StreamPlays", spec := "streamPlays", inPlace := ["internal/bytealg.CountString", "internal/bytealg.IndexByteString", "internal/bytealg.IndexString", "internal/bytealg.abigen_runtime_cmpstring", "slices.overlaps[*rillbook/index.node]", "slices.overlaps[rillbook/rillref.Paper]", "slices.overlaps[rillbook/api.Entry]"], unfollowed := true, recurses := true, named := ["unicode/utf8.first", "unicode/utf8.acceptRanges", "internal/bytealg.MaxLen"], apart := false, laid := [("unicode/utf8.acceptRanges", laid_unicode_utf8_acceptRanges), ("unicode/utf8.first", laid_unicode_utf8_first)] }
def StreamPlaysSaid : Prop := streamPlaysRow.holds Tryz.pinned (OpenSpec.ofChange streamPlaysSpec)

/-- ITS FALSE NEIGHBOUR: 'it returns false'. Refute it at one input. -/
def streamPlaysWrong : ChangeSpec := { name := "streamPlays", fn := fun _ => fun
  | [d1, d2, d3, d4, d5] => { results := [.lit (.bool false)], args := [d1, d2, d3, d4, d5] }
  | _ => none }
def StreamPlaysWrongFalsely : Prop := streamPlaysRow.holds Tryz.pinned (OpenSpec.ofChange streamPlaysWrong)

/-- 'rillkeep.ServerApart': WHATEVER THE INPUT: true; the input reads as it did. -/
def serverApartSpec : ChangeSpec := { name := "serverApart", fn := fun _ => fun
  | [d1, d2] => { results := [.lit (.bool true)], args := [d1, d2] }
  | _ => none }
def serverApartRow : OpenClaim := { program := "ythhgfdeegnimjaagreatdoor", sum := "3cba1a703cd55ca031390169cdcbba3d6ba9d762ffe4288e09e20048656035be", func := "rillbook/rillkeep.ServerApart", spec := "serverApart", inPlace := ["internal/bytealg.CountString", "internal/bytealg.IndexByteString", "internal/bytealg.IndexString", "internal/bytealg.abigen_runtime_cmpstring", "slices.overlaps[*rillbook/index.node]"], unfollowed := true, recurses := true, named := ["unicode/utf8.first", "unicode/utf8.acceptRanges", "internal/bytealg.MaxLen"], apart := false, laid := [("unicode/utf8.acceptRanges", laid_unicode_utf8_acceptRanges), ("unicode/utf8.first", laid_unicode_utf8_first)] }
def ServerApartSaid : Prop := serverApartRow.holds Tryz.pinned (OpenSpec.ofChange serverApartSpec)

/-- ITS FALSE NEIGHBOUR: 'it returns false'. Refute it at one input. -/
def serverApartWrong : ChangeSpec := { name := "serverApart", fn := fun _ => fun
  | [d1, d2] => { results := [.lit (.bool false)], args := [d1, d2] }
  | _ => none }
def ServerApartWrongFalsely : Prop := serverApartRow.holds Tryz.pinned (OpenSpec.ofChange serverApartWrong)

/-- 'rillkeep.ServerStops': WHATEVER THE INPUT: true; the input reads as it did. -/
def serverStopsSpec : ChangeSpec := { name := "serverStops", fn := fun _ => fun
  | [d1, d2] => { results := [.lit (.bool true)], args := [d1, d2] }
  | _ => none }
def serverStopsRow : OpenClaim := { program := "ythhgfdeegnimjaagreatdoor", sum := "3cba1a703cd55ca031390169cdcbba3d6ba9d762ffe4288e09e20048656035be", func := "rillbook/rillkeep.ServerStops", spec := "serverStops", inPlace := ["internal/bytealg.CountString", "internal/bytealg.IndexByteString", "internal/bytealg.IndexString", "internal/bytealg.abigen_runtime_cmpstring", "slices.overlaps[*rillbook/index.node]"], unfollowed := true, recurses := true, named := ["unicode/utf8.first", "unicode/utf8.acceptRanges", "internal/bytealg.MaxLen"], apart := false, laid := [("unicode/utf8.acceptRanges", laid_unicode_utf8_acceptRanges), ("unicode/utf8.first", laid_unicode_utf8_first)] }
def ServerStopsSaid : Prop := serverStopsRow.holds Tryz.pinned (OpenSpec.ofChange serverStopsSpec)

/-- ITS FALSE NEIGHBOUR: 'it returns false'. Refute it at one input. -/
def serverStopsWrong : ChangeSpec := { name := "serverStops", fn := fun _ => fun
  | [d1, d2] => { results := [.lit (.bool false)], args := [d1, d2] }
  | _ => none }
def ServerStopsWrongFalsely : Prop := serverStopsRow.holds Tryz.pinned (OpenSpec.ofChange serverStopsWrong)

/-- 'rilllaw.ServerPlays': WHATEVER THE INPUT: true; the input reads as it did. -/
def serverPlaysSpec : ChangeSpec := { name := "serverPlays", fn := fun _ => fun
  | [d] => { results := [.lit (.bool true)], args := [d] }
  | _ => none }
def serverPlaysRow : OpenClaim := { program := "ythhgfdeegnimjaagreatdoor", sum := "3cba1a703cd55ca031390169cdcbba3d6ba9d762ffe4288e09e20048656035be", func := "rillbook/rilllaw.ServerPlays", spec := "serverPlays", inPlace := ["internal/bytealg.CountString", "internal/bytealg.IndexByteString", "internal/bytealg.IndexString", "internal/bytealg.abigen_runtime_cmpstring", "slices.overlaps[*rillbook/rillref.Bed]", "slices.overlaps[*rillbook/index.node]", "slices.overlaps[rillbook/rillref.Paper]"], unfollowed := true, recurses := true, named := ["unicode/utf8.first", "unicode/utf8.acceptRanges", "internal/bytealg.MaxLen", "rillbook/rillref.planWords"], apart := false, laid := [("unicode/utf8.acceptRanges", laid_unicode_utf8_acceptRanges), ("rillbook/rillref.planWords", laid_rillbook_rillref_planWords), ("unicode/utf8.first", laid_unicode_utf8_first)] }
def ServerPlaysSaid : Prop := serverPlaysRow.holds Tryz.pinned (OpenSpec.ofChange serverPlaysSpec)

/-- ITS FALSE NEIGHBOUR: 'it returns false'. Refute it at one input. -/
def serverPlaysWrong : ChangeSpec := { name := "serverPlays", fn := fun _ => fun
  | [d] => { results := [.lit (.bool false)], args := [d] }
  | _ => none }
def ServerPlaysWrongFalsely : Prop := serverPlaysRow.holds Tryz.pinned (OpenSpec.ofChange serverPlaysWrong)

/- THE SECOND FORM. 'bulk': how many values and letters a reading holds, each counted each time it is reached (what is shared counts as often as it is met; a slice's spare places count too). A statement '..UptoSaid' is the law's where the arguments, and the package variables that the reading takes, are together of bulk at most 1048576: NARROWER than '..Said'. Prove '..Said' where nothing that the law and all that it calls make is longer than what came in: it says more and counts as full. Else prove '..UptoSaid'. A law counts once. -/
mutual
def uptoBulk {H : Type} : DataW H → Nat
  | .lit (.string bytes) => bytes.length + 1
  | .lit _ => 1
  | .nil => 1
  | .ptr d => uptoBulk d + 1
  | .slice elems spare => uptoBulkAll elems + uptoBulkAll spare + 1
  | .agg parts => uptoBulkAll parts + 1
  | .iface _ d => uptoBulk d + 1
  | .map entries => uptoBulkEntries entries + 1
  | .held _ => 1
def uptoBulkAll {H : Type} : List (DataW H) → Nat
  | [] => 0
  | d :: r => uptoBulk d + uptoBulkAll r
def uptoBulkEntries {H : Type} : List (Lit × DataW H) → Nat
  | [] => 0
  | x :: r => uptoBulkEntry x + uptoBulkEntries r
def uptoBulkEntry {H : Type} : Lit × DataW H → Nat
  | (.string bytes, d) => bytes.length + uptoBulk d + 1
  | (_, d) => uptoBulk d + 1
 end
def uptoSmall : (H : Type) → List (DataW H) → Bool := fun _ ds => decide (uptoBulkAll ds ≤ 1048576)
def OpenSpec.upto (s : _root_.Go.ChangeSpec) : _root_.Go.OpenSpec := { _root_.Go.OpenSpec.ofChange s with cond := some uptoSmall }

/-- 'rilllaw.ConsumerPlays', WHERE WHAT IT READS IS OF BULK AT MOST 1048576: true; the input reads as it did. -/
def consumerPlaysUptoRow : OpenClaim := { program := "ythhgfdeegnimjaagreatdoor", sum := "3cba1a703cd55ca031390169cdcbba3d6ba9d762ffe4288e09e20048656035be", func := "rillbook/rilllaw.ConsumerPlays", spec := "consumerPlays", inPlace := ["internal/bytealg.CountString", "internal/bytealg.IndexByteString", "internal/bytealg.IndexString", "internal/bytealg.abigen_runtime_cmpstring", "slices.overlaps[*rillbook/index.node]"], unfollowed := true, recurses := true, named := ["unicode/utf8.first", "unicode/utf8.acceptRanges", "internal/bytealg.MaxLen"], apart := false, laid := [("unicode/utf8.acceptRanges", laid_unicode_utf8_acceptRanges), ("unicode/utf8.first", laid_unicode_utf8_first)], narrowed := true }
def ConsumerPlaysUptoSaid : Prop := consumerPlaysUptoRow.holds Tryz.pinned (OpenSpec.upto consumerPlaysSpec)

/-- 'rilllaw.StreamPlays', WHERE WHAT IT READS IS OF BULK AT MOST 1048576: true; the input reads as it did. -/
def streamPlaysUptoRow : OpenClaim := { program := "ythhgfdeegnimjaagreatdoor", sum := "3cba1a703cd55ca031390169cdcbba3d6ba9d762ffe4288e09e20048656035be", func := "rillbook/rilllaw.StreamPlays", spec := "streamPlays", inPlace := ["internal/bytealg.CountString", "internal/bytealg.IndexByteString", "internal/bytealg.IndexString", "internal/bytealg.abigen_runtime_cmpstring", "slices.overlaps[*rillbook/index.node]", "slices.overlaps[rillbook/rillref.Paper]", "slices.overlaps[rillbook/api.Entry]"], unfollowed := true, recurses := true, named := ["unicode/utf8.first", "unicode/utf8.acceptRanges", "internal/bytealg.MaxLen"], apart := false, laid := [("unicode/utf8.acceptRanges", laid_unicode_utf8_acceptRanges), ("unicode/utf8.first", laid_unicode_utf8_first)], narrowed := true }
def StreamPlaysUptoSaid : Prop := streamPlaysUptoRow.holds Tryz.pinned (OpenSpec.upto streamPlaysSpec)

/-- 'rillkeep.ServerApart', WHERE WHAT IT READS IS OF BULK AT MOST 1048576: true; the input reads as it did. -/
def serverApartUptoRow : OpenClaim := { program := "ythhgfdeegnimjaagreatdoor", sum := "3cba1a703cd55ca031390169cdcbba3d6ba9d762ffe4288e09e20048656035be", func := "rillbook/rillkeep.ServerApart", spec := "serverApart", inPlace := ["internal/bytealg.CountString", "internal/bytealg.IndexByteString", "internal/bytealg.IndexString", "internal/bytealg.abigen_runtime_cmpstring", "slices.overlaps[*rillbook/index.node]"], unfollowed := true, recurses := true, named := ["unicode/utf8.first", "unicode/utf8.acceptRanges", "internal/bytealg.MaxLen"], apart := false, laid := [("unicode/utf8.acceptRanges", laid_unicode_utf8_acceptRanges), ("unicode/utf8.first", laid_unicode_utf8_first)], narrowed := true }
def ServerApartUptoSaid : Prop := serverApartUptoRow.holds Tryz.pinned (OpenSpec.upto serverApartSpec)

/-- 'rillkeep.ServerStops', WHERE WHAT IT READS IS OF BULK AT MOST 1048576: true; the input reads as it did. -/
def serverStopsUptoRow : OpenClaim := { program := "ythhgfdeegnimjaagreatdoor", sum := "3cba1a703cd55ca031390169cdcbba3d6ba9d762ffe4288e09e20048656035be", func := "rillbook/rillkeep.ServerStops", spec := "serverStops", inPlace := ["internal/bytealg.CountString", "internal/bytealg.IndexByteString", "internal/bytealg.IndexString", "internal/bytealg.abigen_runtime_cmpstring", "slices.overlaps[*rillbook/index.node]"], unfollowed := true, recurses := true, named := ["unicode/utf8.first", "unicode/utf8.acceptRanges", "internal/bytealg.MaxLen"], apart := false, laid := [("unicode/utf8.acceptRanges", laid_unicode_utf8_acceptRanges), ("unicode/utf8.first", laid_unicode_utf8_first)], narrowed := true }
def ServerStopsUptoSaid : Prop := serverStopsUptoRow.holds Tryz.pinned (OpenSpec.upto serverStopsSpec)

/-- 'rilllaw.ServerPlays', WHERE WHAT IT READS IS OF BULK AT MOST 1048576: true; the input reads as it did. -/
def serverPlaysUptoRow : OpenClaim := { program := "ythhgfdeegnimjaagreatdoor", sum := "3cba1a703cd55ca031390169cdcbba3d6ba9d762ffe4288e09e20048656035be", func := "rillbook/rilllaw.ServerPlays", spec := "serverPlays", inPlace := ["internal/bytealg.CountString", "internal/bytealg.IndexByteString", "internal/bytealg.IndexString", "internal/bytealg.abigen_runtime_cmpstring", "slices.overlaps[*rillbook/rillref.Bed]", "slices.overlaps[*rillbook/index.node]", "slices.overlaps[rillbook/rillref.Paper]"], unfollowed := true, recurses := true, named := ["unicode/utf8.first", "unicode/utf8.acceptRanges", "internal/bytealg.MaxLen", "rillbook/rillref.planWords"], apart := false, laid := [("unicode/utf8.acceptRanges", laid_unicode_utf8_acceptRanges), ("rillbook/rillref.planWords", laid_rillbook_rillref_planWords), ("unicode/utf8.first", laid_unicode_utf8_first)], narrowed := true }
def ServerPlaysUptoSaid : Prop := serverPlaysUptoRow.holds Tryz.pinned (OpenSpec.upto serverPlaysSpec)

end Rows
end Go.Proofs.YthhgfdeegnimjaaGreatDoor
