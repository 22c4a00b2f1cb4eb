/-
  DERIVED. GIVEN WITH THE SEED: THE CARDS: each row of YtidacfhdhdnidaaGreatDoorRows.lean that lists a variable, with what it lists TIED to the program's text (the seventh form; the later family's looks); each row that meets fmt, with fmt's text TOLD by the authors' own Lean function (tested against real Go, not proved from fmt's source: count such statements apart). THE CARD IS WHAT COUNTS. Prove the row's statement (the work); the ties are given (YtidacfhdhdnidaaGreatDoorTie.lean); close each card by the builder's one call (the guide's Derived/Test/ToyasCard.lean, 'card_holds'). Laid BY PROGRAM, IN A SANDBOX (cutbox-door.mjs). By AI agents, Wed Nov 11 2026. No macro, syntax, notation, axiom, sorry.
-/
import Derived.Test.YtidacfhdhdnidaaGreatDoorRows
import GoSem.ClaimSeven
namespace Go.Proofs.YtidacfhdhdnidaaGreatDoor
namespace Rows

/-- THE TIED CARD OF 'rilllaw.ConsumerPlays'. -/
def consumerPlaysCard : Claim7 := { stood := { row := consumerPlaysRow, standIns := [], harness := (true, "cf7d384600d8dc1e65f52839fbc37439b817004b29c3c5ce3a3542eab48d1c0b"), looks := false }, kinds := [], alts := [], laidByText := true, laidKinds := [.data, .pinned], laidTests := true, laidLooks := .later }
def ConsumerPlaysCardSaid : Prop := Claim7.holds Tryz.pinned (.plain (OpenSpec.ofChange consumerPlaysSpec)) consumerPlaysCard

/-- THE TIED CARD OF 'rillkeep.PlansOwn'. -/
def plansOwnCard : Claim7 := { stood := { row := plansOwnRow, standIns := [], harness := (true, "cf7d384600d8dc1e65f52839fbc37439b817004b29c3c5ce3a3542eab48d1c0b"), looks := false }, kinds := [], alts := [], laidByText := true, laidKinds := [.data, .pinned], laidTests := true, laidLooks := .later }
def PlansOwnCardSaid : Prop := Claim7.holds Tryz.pinned (.plain (OpenSpec.ofChange plansOwnSpec)) plansOwnCard

/-- THE TIED CARD OF 'rilllaw.LogPlays'. -/
def logPlaysCard : Claim7 := { stood := { row := logPlaysRow, standIns := [], harness := (true, "cf7d384600d8dc1e65f52839fbc37439b817004b29c3c5ce3a3542eab48d1c0b"), looks := false }, kinds := [], alts := [], laidByText := true, laidKinds := [.data, .pinned], laidTests := true, laidLooks := .later }
def LogPlaysCardSaid : Prop := Claim7.holds Tryz.pinned (.plain (OpenSpec.ofChange logPlaysSpec)) logPlaysCard

/-- THE TIED CARD OF 'rillkeep.VaultCompacts'. -/
def vaultCompactsCard : Claim7 := { stood := { row := vaultCompactsRow, standIns := [], harness := (true, "cf7d384600d8dc1e65f52839fbc37439b817004b29c3c5ce3a3542eab48d1c0b"), looks := false }, kinds := [], alts := [], laidByText := true, laidKinds := [.data, .pinned], laidTests := true, laidLooks := .later }
def VaultCompactsCardSaid : Prop := Claim7.holds Tryz.pinned (.plain (OpenSpec.ofChange vaultCompactsSpec)) vaultCompactsCard

/-- THE TIED CARD OF 'rillkeep.VaultSure'. -/
def vaultSureCard : Claim7 := { stood := { row := vaultSureRow, standIns := [], harness := (true, "cf7d384600d8dc1e65f52839fbc37439b817004b29c3c5ce3a3542eab48d1c0b"), looks := false }, kinds := [], alts := [], laidByText := true, laidKinds := [.data, .pinned], laidTests := true, laidLooks := .later }
def VaultSureCardSaid : Prop := Claim7.holds Tryz.pinned (.plain (OpenSpec.ofChange vaultSureSpec)) vaultSureCard

/-- THE TIED CARD OF 'rilllaw.VaultPlays'. -/
def vaultPlaysCard : Claim7 := { stood := { row := vaultPlaysRow, standIns := [], harness := (true, "cf7d384600d8dc1e65f52839fbc37439b817004b29c3c5ce3a3542eab48d1c0b"), looks := false }, kinds := [], alts := [], laidByText := true, laidKinds := [.data, .pinned], laidTests := true, laidLooks := .later }
def VaultPlaysCardSaid : Prop := Claim7.holds Tryz.pinned (.plain (OpenSpec.ofChange vaultPlaysSpec)) vaultPlaysCard

/-- THE SECOND FORM's CARD OF 'rilllaw.ConsumerPlays'. -/
def consumerPlaysUptoCard : Claim7 := { stood := { row := consumerPlaysUptoRow, standIns := [], harness := (true, "cf7d384600d8dc1e65f52839fbc37439b817004b29c3c5ce3a3542eab48d1c0b"), looks := false }, kinds := [], alts := [], laidByText := true, laidKinds := [.data, .pinned], laidTests := true, laidLooks := .later }
def ConsumerPlaysUptoCardSaid : Prop := Claim7.holds Tryz.pinned (.plain (OpenSpec.upto consumerPlaysSpec)) consumerPlaysUptoCard

/-- THE SECOND FORM's CARD OF 'rillkeep.PlansOwn'. -/
def plansOwnUptoCard : Claim7 := { stood := { row := plansOwnUptoRow, standIns := [], harness := (true, "cf7d384600d8dc1e65f52839fbc37439b817004b29c3c5ce3a3542eab48d1c0b"), looks := false }, kinds := [], alts := [], laidByText := true, laidKinds := [.data, .pinned], laidTests := true, laidLooks := .later }
def PlansOwnUptoCardSaid : Prop := Claim7.holds Tryz.pinned (.plain (OpenSpec.upto plansOwnSpec)) plansOwnUptoCard

/-- THE SECOND FORM's CARD OF 'rilllaw.LogPlays'. -/
def logPlaysUptoCard : Claim7 := { stood := { row := logPlaysUptoRow, standIns := [], harness := (true, "cf7d384600d8dc1e65f52839fbc37439b817004b29c3c5ce3a3542eab48d1c0b"), looks := false }, kinds := [], alts := [], laidByText := true, laidKinds := [.data, .pinned], laidTests := true, laidLooks := .later }
def LogPlaysUptoCardSaid : Prop := Claim7.holds Tryz.pinned (.plain (OpenSpec.upto logPlaysSpec)) logPlaysUptoCard

/-- THE SECOND FORM's CARD OF 'rillkeep.VaultCompacts'. -/
def vaultCompactsUptoCard : Claim7 := { stood := { row := vaultCompactsUptoRow, standIns := [], harness := (true, "cf7d384600d8dc1e65f52839fbc37439b817004b29c3c5ce3a3542eab48d1c0b"), looks := false }, kinds := [], alts := [], laidByText := true, laidKinds := [.data, .pinned], laidTests := true, laidLooks := .later }
def VaultCompactsUptoCardSaid : Prop := Claim7.holds Tryz.pinned (.plain (OpenSpec.upto vaultCompactsSpec)) vaultCompactsUptoCard

/-- THE SECOND FORM's CARD OF 'rillkeep.VaultSure'. -/
def vaultSureUptoCard : Claim7 := { stood := { row := vaultSureUptoRow, standIns := [], harness := (true, "cf7d384600d8dc1e65f52839fbc37439b817004b29c3c5ce3a3542eab48d1c0b"), looks := false }, kinds := [], alts := [], laidByText := true, laidKinds := [.data, .pinned], laidTests := true, laidLooks := .later }
def VaultSureUptoCardSaid : Prop := Claim7.holds Tryz.pinned (.plain (OpenSpec.upto vaultSureSpec)) vaultSureUptoCard

/-- THE SECOND FORM's CARD OF 'rilllaw.VaultPlays'. -/
def vaultPlaysUptoCard : Claim7 := { stood := { row := vaultPlaysUptoRow, standIns := [], harness := (true, "cf7d384600d8dc1e65f52839fbc37439b817004b29c3c5ce3a3542eab48d1c0b"), looks := false }, kinds := [], alts := [], laidByText := true, laidKinds := [.data, .pinned], laidTests := true, laidLooks := .later }
def VaultPlaysUptoCardSaid : Prop := Claim7.holds Tryz.pinned (.plain (OpenSpec.upto vaultPlaysSpec)) vaultPlaysUptoCard
end Rows
end Go.Proofs.YtidacfhdhdnidaaGreatDoor
