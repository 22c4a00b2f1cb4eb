/-
  DERIVED. GIVEN WITH THE SEED: THE CARDS: each row of YthhgfdeegnimjaaGreatDoorRows.lean that lists a variable, with what it lists TIED to the program's text (the seventh form; the later family's looks); each row that meets fmt, with fmt's text TOLD by the authors' own Lean function (tested against real Go, not proved from fmt's source: count such statements apart). THE CARD IS WHAT COUNTS. Prove the row's statement (the work); the ties are given (YthhgfdeegnimjaaGreatDoorTie.lean); close each card by the builder's one call (the guide's Derived/Test/ToyasCard.lean, 'card_holds'). Laid BY PROGRAM, IN A SANDBOX (cutbox-door.mjs). By AI agents, Wed Nov 11 2026. No macro, syntax, notation, axiom, sorry.
-/
import Derived.Test.YthhgfdeegnimjaaGreatDoorRows
import GoSem.ClaimSeven
namespace Go.Proofs.YthhgfdeegnimjaaGreatDoor
namespace Rows

/-- THE TIED CARD OF 'rilllaw.ConsumerPlays'. -/
def consumerPlaysCard : Claim7 := { stood := { row := consumerPlaysRow, standIns := [], harness := (true, "032d2d1280e2fb09ee3f771e9736f57d6101505bd9ee523fbd31f42c71795498"), looks := false }, kinds := [], alts := [], laidByText := true, laidKinds := [.data, .pinned], laidTests := true, laidLooks := .later }
def ConsumerPlaysCardSaid : Prop := Claim7.holds Tryz.pinned (.plain (OpenSpec.ofChange consumerPlaysSpec)) consumerPlaysCard

/-- THE TIED CARD OF 'rilllaw.StreamPlays'. -/
def streamPlaysCard : Claim7 := { stood := { row := streamPlaysRow, standIns := [], harness := (true, "032d2d1280e2fb09ee3f771e9736f57d6101505bd9ee523fbd31f42c71795498"), looks := false }, kinds := [], alts := [], laidByText := true, laidKinds := [.data, .pinned], laidTests := true, laidLooks := .later }
def StreamPlaysCardSaid : Prop := Claim7.holds Tryz.pinned (.plain (OpenSpec.ofChange streamPlaysSpec)) streamPlaysCard

/-- THE TIED CARD OF 'rillkeep.ServerApart'. -/
def serverApartCard : Claim7 := { stood := { row := serverApartRow, standIns := [], harness := (true, "032d2d1280e2fb09ee3f771e9736f57d6101505bd9ee523fbd31f42c71795498"), looks := false }, kinds := [], alts := [], laidByText := true, laidKinds := [.data, .pinned], laidTests := true, laidLooks := .later }
def ServerApartCardSaid : Prop := Claim7.holds Tryz.pinned (.plain (OpenSpec.ofChange serverApartSpec)) serverApartCard

/-- THE TIED CARD OF 'rillkeep.ServerStops'. -/
def serverStopsCard : Claim7 := { stood := { row := serverStopsRow, standIns := [], harness := (true, "032d2d1280e2fb09ee3f771e9736f57d6101505bd9ee523fbd31f42c71795498"), looks := false }, kinds := [], alts := [], laidByText := true, laidKinds := [.data, .pinned], laidTests := true, laidLooks := .later }
def ServerStopsCardSaid : Prop := Claim7.holds Tryz.pinned (.plain (OpenSpec.ofChange serverStopsSpec)) serverStopsCard

/-- THE TIED CARD OF 'rilllaw.ServerPlays'. -/
def serverPlaysCard : Claim7 := { stood := { row := serverPlaysRow, standIns := [], harness := (true, "032d2d1280e2fb09ee3f771e9736f57d6101505bd9ee523fbd31f42c71795498"), looks := false }, kinds := [], alts := [], laidByText := true, laidKinds := [.data, .data, .pinned], laidTests := true, laidLooks := .later }
def ServerPlaysCardSaid : Prop := Claim7.holds Tryz.pinned (.plain (OpenSpec.ofChange serverPlaysSpec)) serverPlaysCard

/-- THE SECOND FORM's CARD OF 'rilllaw.ConsumerPlays'. -/
def consumerPlaysUptoCard : Claim7 := { stood := { row := consumerPlaysUptoRow, standIns := [], harness := (true, "032d2d1280e2fb09ee3f771e9736f57d6101505bd9ee523fbd31f42c71795498"), looks := false }, kinds := [], alts := [], laidByText := true, laidKinds := [.data, .pinned], laidTests := true, laidLooks := .later }
def ConsumerPlaysUptoCardSaid : Prop := Claim7.holds Tryz.pinned (.plain (OpenSpec.upto consumerPlaysSpec)) consumerPlaysUptoCard

/-- THE SECOND FORM's CARD OF 'rilllaw.StreamPlays'. -/
def streamPlaysUptoCard : Claim7 := { stood := { row := streamPlaysUptoRow, standIns := [], harness := (true, "032d2d1280e2fb09ee3f771e9736f57d6101505bd9ee523fbd31f42c71795498"), looks := false }, kinds := [], alts := [], laidByText := true, laidKinds := [.data, .pinned], laidTests := true, laidLooks := .later }
def StreamPlaysUptoCardSaid : Prop := Claim7.holds Tryz.pinned (.plain (OpenSpec.upto streamPlaysSpec)) streamPlaysUptoCard

/-- THE SECOND FORM's CARD OF 'rillkeep.ServerApart'. -/
def serverApartUptoCard : Claim7 := { stood := { row := serverApartUptoRow, standIns := [], harness := (true, "032d2d1280e2fb09ee3f771e9736f57d6101505bd9ee523fbd31f42c71795498"), looks := false }, kinds := [], alts := [], laidByText := true, laidKinds := [.data, .pinned], laidTests := true, laidLooks := .later }
def ServerApartUptoCardSaid : Prop := Claim7.holds Tryz.pinned (.plain (OpenSpec.upto serverApartSpec)) serverApartUptoCard

/-- THE SECOND FORM's CARD OF 'rillkeep.ServerStops'. -/
def serverStopsUptoCard : Claim7 := { stood := { row := serverStopsUptoRow, standIns := [], harness := (true, "032d2d1280e2fb09ee3f771e9736f57d6101505bd9ee523fbd31f42c71795498"), looks := false }, kinds := [], alts := [], laidByText := true, laidKinds := [.data, .pinned], laidTests := true, laidLooks := .later }
def ServerStopsUptoCardSaid : Prop := Claim7.holds Tryz.pinned (.plain (OpenSpec.upto serverStopsSpec)) serverStopsUptoCard

/-- THE SECOND FORM's CARD OF 'rilllaw.ServerPlays'. -/
def serverPlaysUptoCard : Claim7 := { stood := { row := serverPlaysUptoRow, standIns := [], harness := (true, "032d2d1280e2fb09ee3f771e9736f57d6101505bd9ee523fbd31f42c71795498"), looks := false }, kinds := [], alts := [], laidByText := true, laidKinds := [.data, .data, .pinned], laidTests := true, laidLooks := .later }
def ServerPlaysUptoCardSaid : Prop := Claim7.holds Tryz.pinned (.plain (OpenSpec.upto serverPlaysSpec)) serverPlaysUptoCard
end Rows
end Go.Proofs.YthhgfdeegnimjaaGreatDoor
