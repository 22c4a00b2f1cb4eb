/-
  DERIVED. GIVEN WITH THE SEED: THE CARDS: each row of YthhingihjpkipaaDoorRows.lean that lists a variable, with what it lists TIED to the program's text (the seventh form; the later family's looks); each row that meets fmt, with fmt's text TOLD by the authors' own Lean function (tested against real Go, not proved from fmt's source: count such statements apart). THE CARD IS WHAT COUNTS. Prove the row's statement (the work); the ties are given (YthhingihjpkipaaDoorTie.lean); close each card by the builder's one call (the guide's Derived/Test/ToyasCard.lean, 'card_holds'). Laid BY PROGRAM, IN A SANDBOX (cutbox-door.mjs). By AI agents, Wed Nov 11 2026. No macro, syntax, notation, axiom, sorry.
-/
import Derived.Test.YthhingihjpkipaaDoorRows
import GoSem.ClaimSeven
namespace Go.Proofs.YthhingihjpkipaaDoor
namespace Rows

/-- THE TIED CARD OF 'rilllaw.StorePlays'. -/
def storePlaysCard : Claim7 := { stood := { row := storePlaysRow, standIns := [], harness := (true, "446d096ae9c0cb8a037b42a6305a8e329e25968113451094ae7cf5b057847881"), looks := false }, kinds := [], alts := [], laidByText := true, laidKinds := [.data, .pinned], laidTests := true, laidLooks := .later }
def StorePlaysCardSaid : Prop := Claim7.holds Tryd.pinned (.plain (OpenSpec.ofChange storePlaysSpec)) storePlaysCard

/-- THE TIED CARD OF 'rillkeep.ConsumerRules'. -/
def consumerRulesCard : Claim7 := { stood := { row := consumerRulesRow, standIns := [], harness := (true, "446d096ae9c0cb8a037b42a6305a8e329e25968113451094ae7cf5b057847881"), looks := false }, kinds := [], alts := [], laidByText := true, laidKinds := [.data, .pinned], laidTests := true, laidLooks := .later }
def ConsumerRulesCardSaid : Prop := Claim7.holds Tryd.pinned (.plain (OpenSpec.ofChange consumerRulesSpec)) consumerRulesCard

/-- THE TIED CARD OF 'rillkeep.ConsumerDrains'. -/
def consumerDrainsCard : Claim7 := { stood := { row := consumerDrainsRow, standIns := [], harness := (true, "446d096ae9c0cb8a037b42a6305a8e329e25968113451094ae7cf5b057847881"), looks := false }, kinds := [], alts := [], laidByText := true, laidKinds := [.data, .pinned], laidTests := true, laidLooks := .later }
def ConsumerDrainsCardSaid : Prop := Claim7.holds Tryd.pinned (.plain (OpenSpec.ofChange consumerDrainsSpec)) consumerDrainsCard

/-- THE TIED CARD OF 'rillkeep.LogFront'. -/
def logFrontCard : Claim7 := { stood := { row := logFrontRow, standIns := [], harness := (true, "446d096ae9c0cb8a037b42a6305a8e329e25968113451094ae7cf5b057847881"), looks := false }, kinds := [], alts := [], laidByText := true, laidKinds := [.data, .pinned], laidTests := true, laidLooks := .later }
def LogFrontCardSaid : Prop := Claim7.holds Tryd.pinned (.plain (OpenSpec.ofChange logFrontSpec)) logFrontCard

/-- THE SECOND FORM's CARD OF 'rilllaw.StorePlays'. -/
def storePlaysUptoCard : Claim7 := { stood := { row := storePlaysUptoRow, standIns := [], harness := (true, "446d096ae9c0cb8a037b42a6305a8e329e25968113451094ae7cf5b057847881"), looks := false }, kinds := [], alts := [], laidByText := true, laidKinds := [.data, .pinned], laidTests := true, laidLooks := .later }
def StorePlaysUptoCardSaid : Prop := Claim7.holds Tryd.pinned (.plain (OpenSpec.upto storePlaysSpec)) storePlaysUptoCard

/-- THE SECOND FORM's CARD OF 'rillkeep.ConsumerRules'. -/
def consumerRulesUptoCard : Claim7 := { stood := { row := consumerRulesUptoRow, standIns := [], harness := (true, "446d096ae9c0cb8a037b42a6305a8e329e25968113451094ae7cf5b057847881"), looks := false }, kinds := [], alts := [], laidByText := true, laidKinds := [.data, .pinned], laidTests := true, laidLooks := .later }
def ConsumerRulesUptoCardSaid : Prop := Claim7.holds Tryd.pinned (.plain (OpenSpec.upto consumerRulesSpec)) consumerRulesUptoCard

/-- THE SECOND FORM's CARD OF 'rillkeep.ConsumerDrains'. -/
def consumerDrainsUptoCard : Claim7 := { stood := { row := consumerDrainsUptoRow, standIns := [], harness := (true, "446d096ae9c0cb8a037b42a6305a8e329e25968113451094ae7cf5b057847881"), looks := false }, kinds := [], alts := [], laidByText := true, laidKinds := [.data, .pinned], laidTests := true, laidLooks := .later }
def ConsumerDrainsUptoCardSaid : Prop := Claim7.holds Tryd.pinned (.plain (OpenSpec.upto consumerDrainsSpec)) consumerDrainsUptoCard

/-- THE SECOND FORM's CARD OF 'rillkeep.LogFront'. -/
def logFrontUptoCard : Claim7 := { stood := { row := logFrontUptoRow, standIns := [], harness := (true, "446d096ae9c0cb8a037b42a6305a8e329e25968113451094ae7cf5b057847881"), looks := false }, kinds := [], alts := [], laidByText := true, laidKinds := [.data, .pinned], laidTests := true, laidLooks := .later }
def LogFrontUptoCardSaid : Prop := Claim7.holds Tryd.pinned (.plain (OpenSpec.upto logFrontSpec)) logFrontUptoCard
end Rows
end Go.Proofs.YthhingihjpkipaaDoor
