/-
  DERIVED. GIVEN WITH THE SEED: THE CARDS: each row of YtbgchhgdlceceaaGreatDoorRows.lean that lists a variable, with what it lists TIED to the program's text (the seventh form; the later family's looks); each row that meets fmt, with fmt's text TOLD by the authors' own Lean function (tested against real Go, not proved from fmt's source: count such statements apart). THE CARD IS WHAT COUNTS. Prove the row's statement (the work); the ties are given (YtbgchhgdlceceaaGreatDoorTie.lean); close each card by the builder's one call (the guide's Derived/Test/ToyasCard.lean, 'card_holds'). Laid BY PROGRAM, IN A SANDBOX (cutbox-door.mjs). By AI agents, Wed Nov 11 2026. No macro, syntax, notation, axiom, sorry.
-/
import Derived.Test.YtbgchhgdlceceaaGreatDoorRows
import GoSem.ClaimSeven
namespace Go.Proofs.YtbgchhgdlceceaaGreatDoor
namespace Rows

/-- THE TIED CARD OF 'rilllaw.ConsumerPlays'. -/
def consumerPlaysCard : Claim7 := { stood := { row := consumerPlaysRow, standIns := [], harness := (true, "d6aee1905f90091a0ff7cffbf6f4dae15f09bee063fda50ba33f27ea3204ef8c"), looks := false }, kinds := [], alts := [], laidByText := true, laidKinds := [.data, .pinned], laidTests := true, laidLooks := .later }
def ConsumerPlaysCardSaid : Prop := Claim7.holds Tryz.pinned (.plain (OpenSpec.ofChange consumerPlaysSpec)) consumerPlaysCard

/-- THE TIED CARD OF 'rillkeep.PlansOwn'. -/
def plansOwnCard : Claim7 := { stood := { row := plansOwnRow, standIns := [], harness := (true, "d6aee1905f90091a0ff7cffbf6f4dae15f09bee063fda50ba33f27ea3204ef8c"), looks := false }, kinds := [], alts := [], laidByText := true, laidKinds := [.data, .pinned], laidTests := true, laidLooks := .later }
def PlansOwnCardSaid : Prop := Claim7.holds Tryz.pinned (.plain (OpenSpec.ofChange plansOwnSpec)) plansOwnCard

/-- THE TIED CARD OF 'rilllaw.LogPlays'. -/
def logPlaysCard : Claim7 := { stood := { row := logPlaysRow, standIns := [], harness := (true, "d6aee1905f90091a0ff7cffbf6f4dae15f09bee063fda50ba33f27ea3204ef8c"), looks := false }, kinds := [], alts := [], laidByText := true, laidKinds := [.data, .pinned], laidTests := true, laidLooks := .later }
def LogPlaysCardSaid : Prop := Claim7.holds Tryz.pinned (.plain (OpenSpec.ofChange logPlaysSpec)) logPlaysCard

/-- THE TIED CARD OF 'rillkeep.StreamBounds'. -/
def streamBoundsCard : Claim7 := { stood := { row := streamBoundsRow, standIns := [], harness := (true, "d6aee1905f90091a0ff7cffbf6f4dae15f09bee063fda50ba33f27ea3204ef8c"), looks := false }, kinds := [], alts := [], laidByText := true, laidKinds := [.data, .pinned], laidTests := true, laidLooks := .later }
def StreamBoundsCardSaid : Prop := Claim7.holds Tryz.pinned (.plain (OpenSpec.ofChange streamBoundsSpec)) streamBoundsCard

/-- THE TIED CARD OF 'rillkeep.StreamRolls'. -/
def streamRollsCard : Claim7 := { stood := { row := streamRollsRow, standIns := [], harness := (true, "d6aee1905f90091a0ff7cffbf6f4dae15f09bee063fda50ba33f27ea3204ef8c"), looks := false }, kinds := [], alts := [], laidByText := true, laidKinds := [.data, .pinned], laidTests := true, laidLooks := .later }
def StreamRollsCardSaid : Prop := Claim7.holds Tryz.pinned (.plain (OpenSpec.ofChange streamRollsSpec)) streamRollsCard

/-- THE TIED CARD OF 'rillkeep.StreamTwice'. -/
def streamTwiceCard : Claim7 := { stood := { row := streamTwiceRow, standIns := [], harness := (true, "d6aee1905f90091a0ff7cffbf6f4dae15f09bee063fda50ba33f27ea3204ef8c"), looks := false }, kinds := [], alts := [], laidByText := true, laidKinds := [.data, .pinned], laidTests := true, laidLooks := .later }
def StreamTwiceCardSaid : Prop := Claim7.holds Tryz.pinned (.plain (OpenSpec.ofChange streamTwiceSpec)) streamTwiceCard

/-- THE TIED CARD OF 'rillkeep.StreamRefuses'. -/
def streamRefusesCard : Claim7 := { stood := { row := streamRefusesRow, standIns := [], harness := (true, "d6aee1905f90091a0ff7cffbf6f4dae15f09bee063fda50ba33f27ea3204ef8c"), looks := false }, kinds := [], alts := [], laidByText := true, laidKinds := [.data, .pinned], laidTests := true, laidLooks := .later }
def StreamRefusesCardSaid : Prop := Claim7.holds Tryz.pinned (.plain (OpenSpec.ofChange streamRefusesSpec)) streamRefusesCard

/-- THE TIED CARD OF 'rillkeep.StreamStops'. -/
def streamStopsCard : Claim7 := { stood := { row := streamStopsRow, standIns := [], harness := (true, "d6aee1905f90091a0ff7cffbf6f4dae15f09bee063fda50ba33f27ea3204ef8c"), looks := false }, kinds := [], alts := [], laidByText := true, laidKinds := [.data, .pinned], laidTests := true, laidLooks := .later }
def StreamStopsCardSaid : Prop := Claim7.holds Tryz.pinned (.plain (OpenSpec.ofChange streamStopsSpec)) streamStopsCard

/-- THE TIED CARD OF 'rilllaw.StreamPlays'. -/
def streamPlaysCard : Claim7 := { stood := { row := streamPlaysRow, standIns := [], harness := (true, "d6aee1905f90091a0ff7cffbf6f4dae15f09bee063fda50ba33f27ea3204ef8c"), looks := false }, kinds := [], alts := [], laidByText := true, laidKinds := [.data, .pinned], laidTests := true, laidLooks := .later }
def StreamPlaysCardSaid : Prop := Claim7.holds Tryz.pinned (.plain (OpenSpec.ofChange streamPlaysSpec)) streamPlaysCard

/-- THE SECOND FORM's CARD OF 'rilllaw.ConsumerPlays'. -/
def consumerPlaysUptoCard : Claim7 := { stood := { row := consumerPlaysUptoRow, standIns := [], harness := (true, "d6aee1905f90091a0ff7cffbf6f4dae15f09bee063fda50ba33f27ea3204ef8c"), looks := false }, kinds := [], alts := [], laidByText := true, laidKinds := [.data, .pinned], laidTests := true, laidLooks := .later }
def ConsumerPlaysUptoCardSaid : Prop := Claim7.holds Tryz.pinned (.plain (OpenSpec.upto consumerPlaysSpec)) consumerPlaysUptoCard

/-- THE SECOND FORM's CARD OF 'rillkeep.PlansOwn'. -/
def plansOwnUptoCard : Claim7 := { stood := { row := plansOwnUptoRow, standIns := [], harness := (true, "d6aee1905f90091a0ff7cffbf6f4dae15f09bee063fda50ba33f27ea3204ef8c"), looks := false }, kinds := [], alts := [], laidByText := true, laidKinds := [.data, .pinned], laidTests := true, laidLooks := .later }
def PlansOwnUptoCardSaid : Prop := Claim7.holds Tryz.pinned (.plain (OpenSpec.upto plansOwnSpec)) plansOwnUptoCard

/-- THE SECOND FORM's CARD OF 'rilllaw.LogPlays'. -/
def logPlaysUptoCard : Claim7 := { stood := { row := logPlaysUptoRow, standIns := [], harness := (true, "d6aee1905f90091a0ff7cffbf6f4dae15f09bee063fda50ba33f27ea3204ef8c"), looks := false }, kinds := [], alts := [], laidByText := true, laidKinds := [.data, .pinned], laidTests := true, laidLooks := .later }
def LogPlaysUptoCardSaid : Prop := Claim7.holds Tryz.pinned (.plain (OpenSpec.upto logPlaysSpec)) logPlaysUptoCard

/-- THE SECOND FORM's CARD OF 'rillkeep.StreamBounds'. -/
def streamBoundsUptoCard : Claim7 := { stood := { row := streamBoundsUptoRow, standIns := [], harness := (true, "d6aee1905f90091a0ff7cffbf6f4dae15f09bee063fda50ba33f27ea3204ef8c"), looks := false }, kinds := [], alts := [], laidByText := true, laidKinds := [.data, .pinned], laidTests := true, laidLooks := .later }
def StreamBoundsUptoCardSaid : Prop := Claim7.holds Tryz.pinned (.plain (OpenSpec.upto streamBoundsSpec)) streamBoundsUptoCard

/-- THE SECOND FORM's CARD OF 'rillkeep.StreamRolls'. -/
def streamRollsUptoCard : Claim7 := { stood := { row := streamRollsUptoRow, standIns := [], harness := (true, "d6aee1905f90091a0ff7cffbf6f4dae15f09bee063fda50ba33f27ea3204ef8c"), looks := false }, kinds := [], alts := [], laidByText := true, laidKinds := [.data, .pinned], laidTests := true, laidLooks := .later }
def StreamRollsUptoCardSaid : Prop := Claim7.holds Tryz.pinned (.plain (OpenSpec.upto streamRollsSpec)) streamRollsUptoCard

/-- THE SECOND FORM's CARD OF 'rillkeep.StreamTwice'. -/
def streamTwiceUptoCard : Claim7 := { stood := { row := streamTwiceUptoRow, standIns := [], harness := (true, "d6aee1905f90091a0ff7cffbf6f4dae15f09bee063fda50ba33f27ea3204ef8c"), looks := false }, kinds := [], alts := [], laidByText := true, laidKinds := [.data, .pinned], laidTests := true, laidLooks := .later }
def StreamTwiceUptoCardSaid : Prop := Claim7.holds Tryz.pinned (.plain (OpenSpec.upto streamTwiceSpec)) streamTwiceUptoCard

/-- THE SECOND FORM's CARD OF 'rillkeep.StreamRefuses'. -/
def streamRefusesUptoCard : Claim7 := { stood := { row := streamRefusesUptoRow, standIns := [], harness := (true, "d6aee1905f90091a0ff7cffbf6f4dae15f09bee063fda50ba33f27ea3204ef8c"), looks := false }, kinds := [], alts := [], laidByText := true, laidKinds := [.data, .pinned], laidTests := true, laidLooks := .later }
def StreamRefusesUptoCardSaid : Prop := Claim7.holds Tryz.pinned (.plain (OpenSpec.upto streamRefusesSpec)) streamRefusesUptoCard

/-- THE SECOND FORM's CARD OF 'rillkeep.StreamStops'. -/
def streamStopsUptoCard : Claim7 := { stood := { row := streamStopsUptoRow, standIns := [], harness := (true, "d6aee1905f90091a0ff7cffbf6f4dae15f09bee063fda50ba33f27ea3204ef8c"), looks := false }, kinds := [], alts := [], laidByText := true, laidKinds := [.data, .pinned], laidTests := true, laidLooks := .later }
def StreamStopsUptoCardSaid : Prop := Claim7.holds Tryz.pinned (.plain (OpenSpec.upto streamStopsSpec)) streamStopsUptoCard

/-- THE SECOND FORM's CARD OF 'rilllaw.StreamPlays'. -/
def streamPlaysUptoCard : Claim7 := { stood := { row := streamPlaysUptoRow, standIns := [], harness := (true, "d6aee1905f90091a0ff7cffbf6f4dae15f09bee063fda50ba33f27ea3204ef8c"), looks := false }, kinds := [], alts := [], laidByText := true, laidKinds := [.data, .pinned], laidTests := true, laidLooks := .later }
def StreamPlaysUptoCardSaid : Prop := Claim7.holds Tryz.pinned (.plain (OpenSpec.upto streamPlaysSpec)) streamPlaysUptoCard
end Rows
end Go.Proofs.YtbgchhgdlceceaaGreatDoor
