/-
  DERIVED. GIVEN WITH THE SEED: THE CARDS: each row of YtmeaenmialaghaaDoorRows.lean that lists a variable, with what it lists TIED to the program's text (the seventh form; the later family's looks); each row that meets fmt, with fmt's text TOLD by the authors' own Lean function (tested against real Go, not proved from fmt's source: count such statements apart). THE CARD IS WHAT COUNTS. Prove the row's statement (the work); the ties are given (YtmeaenmialaghaaDoorTie.lean); close each card by the builder's one call (the guide's Derived/Test/ToyasCard.lean, 'card_holds'). Laid BY PROGRAM, IN A SANDBOX (cutbox-door.mjs). By AI agents, Wed Nov 11 2026. No macro, syntax, notation, axiom, sorry.
-/
import Derived.Test.YtmeaenmialaghaaDoorRows
import GoSem.ClaimSeven
namespace Go.Proofs.YtmeaenmialaghaaDoor
namespace Rows

/-- THE TIED CARD OF 'rilllaw.SubjectSays'. -/
def subjectSaysCard : Claim7 := { stood := { row := subjectSaysRow, standIns := [], harness := (true, "958c893f87eec4d6ba36aeee9067b150ede887aaffcc5e75c35122a3588cc190"), looks := false }, kinds := [], alts := [], laidByText := true, laidKinds := [.data, .pinned], laidTests := true, laidLooks := .later }
def SubjectSaysCardSaid : Prop := Claim7.holds Tryd.pinned (.plain (OpenSpec.ofChange subjectSaysSpec)) subjectSaysCard

/-- THE TIED CARD OF 'rilllaw.SubjectMatches'. -/
def subjectMatchesCard : Claim7 := { stood := { row := subjectMatchesRow, standIns := [], harness := (true, "958c893f87eec4d6ba36aeee9067b150ede887aaffcc5e75c35122a3588cc190"), looks := false }, kinds := [], alts := [], laidByText := true, laidKinds := [.data, .pinned], laidTests := true, laidLooks := .later }
def SubjectMatchesCardSaid : Prop := Claim7.holds Tryd.pinned (.plain (OpenSpec.ofChange subjectMatchesSpec)) subjectMatchesCard

/-- THE TIED CARD OF 'rillkeep.SubjectTwo'. -/
def subjectTwoCard : Claim7 := { stood := { row := subjectTwoRow, standIns := [], harness := (true, "958c893f87eec4d6ba36aeee9067b150ede887aaffcc5e75c35122a3588cc190"), looks := false }, kinds := [], alts := [], laidByText := true, laidKinds := [.data, .pinned], laidTests := true, laidLooks := .later }
def SubjectTwoCardSaid : Prop := Claim7.holds Tryd.pinned (.plain (OpenSpec.ofChange subjectTwoSpec)) subjectTwoCard

/-- THE TIED CARD OF 'rillkeep.SubjectThree'. -/
def subjectThreeCard : Claim7 := { stood := { row := subjectThreeRow, standIns := [], harness := (true, "958c893f87eec4d6ba36aeee9067b150ede887aaffcc5e75c35122a3588cc190"), looks := false }, kinds := [], alts := [], laidByText := true, laidKinds := [.data, .pinned], laidTests := true, laidLooks := .later }
def SubjectThreeCardSaid : Prop := Claim7.holds Tryd.pinned (.plain (OpenSpec.ofChange subjectThreeSpec)) subjectThreeCard

/-- THE TIED CARD OF 'rilllaw.RecordSays'. -/
def recordSaysCard : Claim7 := { stood := { row := recordSaysRow, standIns := [], harness := (true, "958c893f87eec4d6ba36aeee9067b150ede887aaffcc5e75c35122a3588cc190"), looks := false }, kinds := [], alts := [], laidByText := true, laidKinds := [.data, .pinned], laidTests := true, laidLooks := .later }
def RecordSaysCardSaid : Prop := Claim7.holds Tryd.pinned (.plain (OpenSpec.ofChange recordSaysSpec)) recordSaysCard

/-- THE TIED CARD OF 'rillkeep.SubjectSelf'. -/
def subjectSelfCard : Claim7 := { stood := { row := subjectSelfRow, standIns := [], harness := (true, "958c893f87eec4d6ba36aeee9067b150ede887aaffcc5e75c35122a3588cc190"), looks := false }, kinds := [], alts := [], laidByText := true, laidKinds := [.data, .pinned], laidTests := true, laidLooks := .later }
def SubjectSelfCardSaid : Prop := Claim7.holds Tryd.pinned (.plain (OpenSpec.ofChange subjectSelfSpec)) subjectSelfCard

/-- THE TIED CARD OF 'rilllaw.RecordReads'. -/
def recordReadsCard : Claim7 := { stood := { row := recordReadsRow, standIns := [], harness := (true, "958c893f87eec4d6ba36aeee9067b150ede887aaffcc5e75c35122a3588cc190"), looks := false }, kinds := [], alts := [], laidByText := true, laidKinds := [.data, .pinned], laidTests := true, laidLooks := .later }
def RecordReadsCardSaid : Prop := Claim7.holds Tryd.pinned (.plain (OpenSpec.ofChange recordReadsSpec)) recordReadsCard

/-- THE TIED CARD OF 'rillkeep.RecordBack'. -/
def recordBackCard : Claim7 := { stood := { row := recordBackRow, standIns := [], harness := (true, "958c893f87eec4d6ba36aeee9067b150ede887aaffcc5e75c35122a3588cc190"), looks := false }, kinds := [], alts := [], laidByText := true, laidKinds := [.data, .pinned], laidTests := true, laidLooks := .later }
def RecordBackCardSaid : Prop := Claim7.holds Tryd.pinned (.plain (OpenSpec.ofChange recordBackSpec)) recordBackCard

/-- THE TIED CARD OF 'rillkeep.RecordTurned'. -/
def recordTurnedCard : Claim7 := { stood := { row := recordTurnedRow, standIns := [], harness := (true, "958c893f87eec4d6ba36aeee9067b150ede887aaffcc5e75c35122a3588cc190"), looks := false }, kinds := [], alts := [], laidByText := true, laidKinds := [.data, .pinned], laidTests := true, laidLooks := .later }
def RecordTurnedCardSaid : Prop := Claim7.holds Tryd.pinned (.plain (OpenSpec.ofChange recordTurnedSpec)) recordTurnedCard

/-- THE TIED CARD OF 'rillkeep.RecordOne'. -/
def recordOneCard : Claim7 := { stood := { row := recordOneRow, standIns := [], harness := (true, "958c893f87eec4d6ba36aeee9067b150ede887aaffcc5e75c35122a3588cc190"), looks := false }, kinds := [], alts := [], laidByText := true, laidKinds := [.data, .pinned], laidTests := true, laidLooks := .later }
def RecordOneCardSaid : Prop := Claim7.holds Tryd.pinned (.plain (OpenSpec.ofChange recordOneSpec)) recordOneCard

/-- THE TIED CARD OF 'rillkeep.SubjectShows'. -/
def subjectShowsCard : Claim7 := { stood := { row := subjectShowsRow, standIns := [], harness := (true, "958c893f87eec4d6ba36aeee9067b150ede887aaffcc5e75c35122a3588cc190"), looks := false }, kinds := [], alts := [], laidByText := true, laidKinds := [.data, .pinned], laidTests := true, laidLooks := .later }
def SubjectShowsCardSaid : Prop := Claim7.holds Tryd.pinned (.plain (OpenSpec.ofChange subjectShowsSpec)) subjectShowsCard

/-- THE SECOND FORM's CARD OF 'rilllaw.SubjectSays'. -/
def subjectSaysUptoCard : Claim7 := { stood := { row := subjectSaysUptoRow, standIns := [], harness := (true, "958c893f87eec4d6ba36aeee9067b150ede887aaffcc5e75c35122a3588cc190"), looks := false }, kinds := [], alts := [], laidByText := true, laidKinds := [.data, .pinned], laidTests := true, laidLooks := .later }
def SubjectSaysUptoCardSaid : Prop := Claim7.holds Tryd.pinned (.plain (OpenSpec.upto subjectSaysSpec)) subjectSaysUptoCard

/-- THE SECOND FORM's CARD OF 'rilllaw.SubjectMatches'. -/
def subjectMatchesUptoCard : Claim7 := { stood := { row := subjectMatchesUptoRow, standIns := [], harness := (true, "958c893f87eec4d6ba36aeee9067b150ede887aaffcc5e75c35122a3588cc190"), looks := false }, kinds := [], alts := [], laidByText := true, laidKinds := [.data, .pinned], laidTests := true, laidLooks := .later }
def SubjectMatchesUptoCardSaid : Prop := Claim7.holds Tryd.pinned (.plain (OpenSpec.upto subjectMatchesSpec)) subjectMatchesUptoCard

/-- THE SECOND FORM's CARD OF 'rillkeep.SubjectTwo'. -/
def subjectTwoUptoCard : Claim7 := { stood := { row := subjectTwoUptoRow, standIns := [], harness := (true, "958c893f87eec4d6ba36aeee9067b150ede887aaffcc5e75c35122a3588cc190"), looks := false }, kinds := [], alts := [], laidByText := true, laidKinds := [.data, .pinned], laidTests := true, laidLooks := .later }
def SubjectTwoUptoCardSaid : Prop := Claim7.holds Tryd.pinned (.plain (OpenSpec.upto subjectTwoSpec)) subjectTwoUptoCard

/-- THE SECOND FORM's CARD OF 'rillkeep.SubjectThree'. -/
def subjectThreeUptoCard : Claim7 := { stood := { row := subjectThreeUptoRow, standIns := [], harness := (true, "958c893f87eec4d6ba36aeee9067b150ede887aaffcc5e75c35122a3588cc190"), looks := false }, kinds := [], alts := [], laidByText := true, laidKinds := [.data, .pinned], laidTests := true, laidLooks := .later }
def SubjectThreeUptoCardSaid : Prop := Claim7.holds Tryd.pinned (.plain (OpenSpec.upto subjectThreeSpec)) subjectThreeUptoCard

/-- THE SECOND FORM's CARD OF 'rilllaw.RecordSays'. -/
def recordSaysUptoCard : Claim7 := { stood := { row := recordSaysUptoRow, standIns := [], harness := (true, "958c893f87eec4d6ba36aeee9067b150ede887aaffcc5e75c35122a3588cc190"), looks := false }, kinds := [], alts := [], laidByText := true, laidKinds := [.data, .pinned], laidTests := true, laidLooks := .later }
def RecordSaysUptoCardSaid : Prop := Claim7.holds Tryd.pinned (.plain (OpenSpec.upto recordSaysSpec)) recordSaysUptoCard

/-- THE SECOND FORM's CARD OF 'rillkeep.SubjectSelf'. -/
def subjectSelfUptoCard : Claim7 := { stood := { row := subjectSelfUptoRow, standIns := [], harness := (true, "958c893f87eec4d6ba36aeee9067b150ede887aaffcc5e75c35122a3588cc190"), looks := false }, kinds := [], alts := [], laidByText := true, laidKinds := [.data, .pinned], laidTests := true, laidLooks := .later }
def SubjectSelfUptoCardSaid : Prop := Claim7.holds Tryd.pinned (.plain (OpenSpec.upto subjectSelfSpec)) subjectSelfUptoCard

/-- THE SECOND FORM's CARD OF 'rilllaw.RecordReads'. -/
def recordReadsUptoCard : Claim7 := { stood := { row := recordReadsUptoRow, standIns := [], harness := (true, "958c893f87eec4d6ba36aeee9067b150ede887aaffcc5e75c35122a3588cc190"), looks := false }, kinds := [], alts := [], laidByText := true, laidKinds := [.data, .pinned], laidTests := true, laidLooks := .later }
def RecordReadsUptoCardSaid : Prop := Claim7.holds Tryd.pinned (.plain (OpenSpec.upto recordReadsSpec)) recordReadsUptoCard

/-- THE SECOND FORM's CARD OF 'rillkeep.RecordBack'. -/
def recordBackUptoCard : Claim7 := { stood := { row := recordBackUptoRow, standIns := [], harness := (true, "958c893f87eec4d6ba36aeee9067b150ede887aaffcc5e75c35122a3588cc190"), looks := false }, kinds := [], alts := [], laidByText := true, laidKinds := [.data, .pinned], laidTests := true, laidLooks := .later }
def RecordBackUptoCardSaid : Prop := Claim7.holds Tryd.pinned (.plain (OpenSpec.upto recordBackSpec)) recordBackUptoCard

/-- THE SECOND FORM's CARD OF 'rillkeep.RecordTurned'. -/
def recordTurnedUptoCard : Claim7 := { stood := { row := recordTurnedUptoRow, standIns := [], harness := (true, "958c893f87eec4d6ba36aeee9067b150ede887aaffcc5e75c35122a3588cc190"), looks := false }, kinds := [], alts := [], laidByText := true, laidKinds := [.data, .pinned], laidTests := true, laidLooks := .later }
def RecordTurnedUptoCardSaid : Prop := Claim7.holds Tryd.pinned (.plain (OpenSpec.upto recordTurnedSpec)) recordTurnedUptoCard

/-- THE SECOND FORM's CARD OF 'rillkeep.RecordOne'. -/
def recordOneUptoCard : Claim7 := { stood := { row := recordOneUptoRow, standIns := [], harness := (true, "958c893f87eec4d6ba36aeee9067b150ede887aaffcc5e75c35122a3588cc190"), looks := false }, kinds := [], alts := [], laidByText := true, laidKinds := [.data, .pinned], laidTests := true, laidLooks := .later }
def RecordOneUptoCardSaid : Prop := Claim7.holds Tryd.pinned (.plain (OpenSpec.upto recordOneSpec)) recordOneUptoCard

/-- THE SECOND FORM's CARD OF 'rillkeep.SubjectShows'. -/
def subjectShowsUptoCard : Claim7 := { stood := { row := subjectShowsUptoRow, standIns := [], harness := (true, "958c893f87eec4d6ba36aeee9067b150ede887aaffcc5e75c35122a3588cc190"), looks := false }, kinds := [], alts := [], laidByText := true, laidKinds := [.data, .pinned], laidTests := true, laidLooks := .later }
def SubjectShowsUptoCardSaid : Prop := Claim7.holds Tryd.pinned (.plain (OpenSpec.upto subjectShowsSpec)) subjectShowsUptoCard
end Rows
end Go.Proofs.YtmeaenmialaghaaDoor
