/-
  DERIVED. GIVEN WITH THE SEED: THE CARDS: each row of YtapmhpnkpjgefaaDoorRows.lean that lists a variable, with what it lists TIED to the program's text (the seventh form; the later family's looks); each row that meets fmt, with fmt's text TOLD by the authors' own Lean function (tested against real Go, not proved from fmt's source: count such statements apart). THE CARD IS WHAT COUNTS. Prove the row's statement (the work); the ties are given (YtapmhpnkpjgefaaDoorTie.lean); close each card by the builder's one call (the guide's Derived/Test/ToyasCard.lean, 'card_holds'). Laid BY PROGRAM, IN A SANDBOX (cutbox-door.mjs). By AI agents, Wed Nov 11 2026. No macro, syntax, notation, axiom, sorry.
-/
import Derived.Test.YtapmhpnkpjgefaaDoorRows
import GoSem.ClaimSeven
namespace Go.Proofs.YtapmhpnkpjgefaaDoor
namespace Rows

/-- THE TIED CARD OF 'rillkeep.ConsumerRules'. -/
def consumerRulesCard : Claim7 := { stood := { row := consumerRulesRow, standIns := [], harness := (true, "963aa0e42ee5327a260c3df75668de24550ff665e727b3d03c59f66a28f449cd"), looks := false }, kinds := [], alts := [], laidByText := true, laidKinds := [.data, .pinned], laidTests := true, laidLooks := .later }
def ConsumerRulesCardSaid : Prop := Claim7.holds Tryd.pinned (.plain (OpenSpec.ofChange consumerRulesSpec)) consumerRulesCard

/-- THE SECOND FORM's CARD OF 'rillkeep.ConsumerRules'. -/
def consumerRulesUptoCard : Claim7 := { stood := { row := consumerRulesUptoRow, standIns := [], harness := (true, "963aa0e42ee5327a260c3df75668de24550ff665e727b3d03c59f66a28f449cd"), looks := false }, kinds := [], alts := [], laidByText := true, laidKinds := [.data, .pinned], laidTests := true, laidLooks := .later }
def ConsumerRulesUptoCardSaid : Prop := Claim7.holds Tryd.pinned (.plain (OpenSpec.upto consumerRulesSpec)) consumerRulesUptoCard
end Rows
end Go.Proofs.YtapmhpnkpjgefaaDoor
