/-
  DERIVED. GIVEN WITH THE SEED: THE CARDS: each row of YtglgbidcmkncgaaDoorRows.lean that lists a variable, with what it lists TIED to the program's text (the seventh form; the later family's looks); each row that meets fmt, with fmt's text TOLD by the authors' own Lean function (tested against real Go, not proved from fmt's source: count such statements apart). THE CARD IS WHAT COUNTS. Prove the row's statement (the work); the ties are given (YtglgbidcmkncgaaDoorTie.lean); close each card by the builder's one call (the guide's Derived/Test/ToyasCard.lean, 'card_holds'). Laid BY PROGRAM, IN A SANDBOX (cutbox-door.mjs). By AI agents, Wed Nov 11 2026. No macro, syntax, notation, axiom, sorry.
-/
import Derived.Test.YtglgbidcmkncgaaDoorRows
import GoSem.ClaimSeven
namespace Go.Proofs.YtglgbidcmkncgaaDoor
namespace Rows

/-- THE TIED CARD OF 'rillkeep.SubjectShows'. -/
def subjectShowsCard : Claim7 := { stood := { row := subjectShowsRow, standIns := [], harness := (true, "bdbb9a65196bd7f8060ac0daa8f8d171600baa5dc8c4626244fff6c8e1f578aa"), looks := false }, kinds := [], alts := [], laidByText := true, laidKinds := [.data, .pinned], laidTests := true, laidLooks := .later }
def SubjectShowsCardSaid : Prop := Claim7.holds Tryd.pinned (.plain (OpenSpec.ofChange subjectShowsSpec)) subjectShowsCard

/-- THE TIED CARD OF 'rilllaw.PlanReads'. -/
def planReadsCard : Claim7 := { stood := { row := planReadsRow, standIns := [], harness := (true, "bdbb9a65196bd7f8060ac0daa8f8d171600baa5dc8c4626244fff6c8e1f578aa"), looks := false }, kinds := [], alts := [], laidByText := true, laidKinds := [.data, .data, .pinned], laidTests := true, laidLooks := .later }
def PlanReadsCardSaid : Prop := Claim7.holds Tryd.pinned (.plain (OpenSpec.ofChange planReadsSpec)) planReadsCard

/-- THE TIED CARD OF 'rilllaw.TakerReads'. -/
def takerReadsCard : Claim7 := { stood := { row := takerReadsRow, standIns := [], harness := (true, "bdbb9a65196bd7f8060ac0daa8f8d171600baa5dc8c4626244fff6c8e1f578aa"), looks := false }, kinds := [], alts := [], laidByText := true, laidKinds := [.data, .pinned], laidTests := true, laidLooks := .later }
def TakerReadsCardSaid : Prop := Claim7.holds Tryd.pinned (.plain (OpenSpec.ofChange takerReadsSpec)) takerReadsCard

/-- THE TIED CARD OF 'rilllaw.IndexPlays'. -/
def indexPlaysCard : Claim7 := { stood := { row := indexPlaysRow, standIns := [], harness := (true, "bdbb9a65196bd7f8060ac0daa8f8d171600baa5dc8c4626244fff6c8e1f578aa"), looks := false }, kinds := [], alts := [], laidByText := true, laidKinds := [.data, .pinned], laidTests := true, laidLooks := .later }
def IndexPlaysCardSaid : Prop := Claim7.holds Tryd.pinned (.plain (OpenSpec.ofChange indexPlaysSpec)) indexPlaysCard

/-- THE TIED CARD OF 'rillkeep.IndexFinds'. -/
def indexFindsCard : Claim7 := { stood := { row := indexFindsRow, standIns := [], harness := (true, "bdbb9a65196bd7f8060ac0daa8f8d171600baa5dc8c4626244fff6c8e1f578aa"), looks := false }, kinds := [], alts := [], laidByText := true, laidKinds := [.data, .pinned], laidTests := true, laidLooks := .later }
def IndexFindsCardSaid : Prop := Claim7.holds Tryd.pinned (.plain (OpenSpec.ofChange indexFindsSpec)) indexFindsCard

/-- THE TIED CARD OF 'rilllaw.TakerSays'. -/
def takerSaysCard : Claim7 := { stood := { row := takerSaysRow, standIns := [], harness := (true, "bdbb9a65196bd7f8060ac0daa8f8d171600baa5dc8c4626244fff6c8e1f578aa"), looks := false }, kinds := [], alts := [], laidByText := true, laidKinds := [.data, .data, .data, .data, .pinned], laidTests := true, laidLooks := .later }
def TakerSaysCardSaid : Prop := Claim7.holds Tryd.pinned (.plain (OpenSpec.ofChange takerSaysSpec)) takerSaysCard

/-- THE TIED CARD OF 'rilllaw.PlanSays'. -/
def planSaysCard : Claim7 := { stood := { row := planSaysRow, standIns := [], harness := (true, "bdbb9a65196bd7f8060ac0daa8f8d171600baa5dc8c4626244fff6c8e1f578aa"), looks := false }, kinds := [], alts := [], laidByText := true, laidKinds := [.data, .data, .data, .data, .data, .pinned], laidTests := true, laidLooks := .later }
def PlanSaysCardSaid : Prop := Claim7.holds Tryd.pinned (.plain (OpenSpec.ofChange planSaysSpec)) planSaysCard

/-- THE TIED CARD OF 'rillkeep.PlanBack'. -/
def planBackCard : Claim7 := { stood := { row := planBackRow, standIns := [], harness := (true, "bdbb9a65196bd7f8060ac0daa8f8d171600baa5dc8c4626244fff6c8e1f578aa"), looks := false }, kinds := [], alts := [], laidByText := true, laidKinds := [.data, .data, .data, .data, .pinned], laidTests := true, laidLooks := .later }
def PlanBackCardSaid : Prop := Claim7.holds Tryd.pinned (.plain (OpenSpec.ofChange planBackSpec)) planBackCard

/-- THE TIED CARD OF 'rillkeep.TakerBack'. -/
def takerBackCard : Claim7 := { stood := { row := takerBackRow, standIns := [], harness := (true, "bdbb9a65196bd7f8060ac0daa8f8d171600baa5dc8c4626244fff6c8e1f578aa"), looks := false }, kinds := [], alts := [], laidByText := true, laidKinds := [.data, .data, .data, .data, .pinned], laidTests := true, laidLooks := .later }
def TakerBackCardSaid : Prop := Claim7.holds Tryd.pinned (.plain (OpenSpec.ofChange takerBackSpec)) takerBackCard

/-- THE SECOND FORM's CARD OF 'rillkeep.SubjectShows'. -/
def subjectShowsUptoCard : Claim7 := { stood := { row := subjectShowsUptoRow, standIns := [], harness := (true, "bdbb9a65196bd7f8060ac0daa8f8d171600baa5dc8c4626244fff6c8e1f578aa"), looks := false }, kinds := [], alts := [], laidByText := true, laidKinds := [.data, .pinned], laidTests := true, laidLooks := .later }
def SubjectShowsUptoCardSaid : Prop := Claim7.holds Tryd.pinned (.plain (OpenSpec.upto subjectShowsSpec)) subjectShowsUptoCard

/-- THE SECOND FORM's CARD OF 'rilllaw.PlanReads'. -/
def planReadsUptoCard : Claim7 := { stood := { row := planReadsUptoRow, standIns := [], harness := (true, "bdbb9a65196bd7f8060ac0daa8f8d171600baa5dc8c4626244fff6c8e1f578aa"), looks := false }, kinds := [], alts := [], laidByText := true, laidKinds := [.data, .data, .pinned], laidTests := true, laidLooks := .later }
def PlanReadsUptoCardSaid : Prop := Claim7.holds Tryd.pinned (.plain (OpenSpec.upto planReadsSpec)) planReadsUptoCard

/-- THE SECOND FORM's CARD OF 'rilllaw.TakerReads'. -/
def takerReadsUptoCard : Claim7 := { stood := { row := takerReadsUptoRow, standIns := [], harness := (true, "bdbb9a65196bd7f8060ac0daa8f8d171600baa5dc8c4626244fff6c8e1f578aa"), looks := false }, kinds := [], alts := [], laidByText := true, laidKinds := [.data, .pinned], laidTests := true, laidLooks := .later }
def TakerReadsUptoCardSaid : Prop := Claim7.holds Tryd.pinned (.plain (OpenSpec.upto takerReadsSpec)) takerReadsUptoCard

/-- THE SECOND FORM's CARD OF 'rilllaw.IndexPlays'. -/
def indexPlaysUptoCard : Claim7 := { stood := { row := indexPlaysUptoRow, standIns := [], harness := (true, "bdbb9a65196bd7f8060ac0daa8f8d171600baa5dc8c4626244fff6c8e1f578aa"), looks := false }, kinds := [], alts := [], laidByText := true, laidKinds := [.data, .pinned], laidTests := true, laidLooks := .later }
def IndexPlaysUptoCardSaid : Prop := Claim7.holds Tryd.pinned (.plain (OpenSpec.upto indexPlaysSpec)) indexPlaysUptoCard

/-- THE SECOND FORM's CARD OF 'rillkeep.IndexFinds'. -/
def indexFindsUptoCard : Claim7 := { stood := { row := indexFindsUptoRow, standIns := [], harness := (true, "bdbb9a65196bd7f8060ac0daa8f8d171600baa5dc8c4626244fff6c8e1f578aa"), looks := false }, kinds := [], alts := [], laidByText := true, laidKinds := [.data, .pinned], laidTests := true, laidLooks := .later }
def IndexFindsUptoCardSaid : Prop := Claim7.holds Tryd.pinned (.plain (OpenSpec.upto indexFindsSpec)) indexFindsUptoCard

/-- THE SECOND FORM's CARD OF 'rilllaw.TakerSays'. -/
def takerSaysUptoCard : Claim7 := { stood := { row := takerSaysUptoRow, standIns := [], harness := (true, "bdbb9a65196bd7f8060ac0daa8f8d171600baa5dc8c4626244fff6c8e1f578aa"), looks := false }, kinds := [], alts := [], laidByText := true, laidKinds := [.data, .data, .data, .data, .pinned], laidTests := true, laidLooks := .later }
def TakerSaysUptoCardSaid : Prop := Claim7.holds Tryd.pinned (.plain (OpenSpec.upto takerSaysSpec)) takerSaysUptoCard

/-- THE SECOND FORM's CARD OF 'rilllaw.PlanSays'. -/
def planSaysUptoCard : Claim7 := { stood := { row := planSaysUptoRow, standIns := [], harness := (true, "bdbb9a65196bd7f8060ac0daa8f8d171600baa5dc8c4626244fff6c8e1f578aa"), looks := false }, kinds := [], alts := [], laidByText := true, laidKinds := [.data, .data, .data, .data, .data, .pinned], laidTests := true, laidLooks := .later }
def PlanSaysUptoCardSaid : Prop := Claim7.holds Tryd.pinned (.plain (OpenSpec.upto planSaysSpec)) planSaysUptoCard

/-- THE SECOND FORM's CARD OF 'rillkeep.PlanBack'. -/
def planBackUptoCard : Claim7 := { stood := { row := planBackUptoRow, standIns := [], harness := (true, "bdbb9a65196bd7f8060ac0daa8f8d171600baa5dc8c4626244fff6c8e1f578aa"), looks := false }, kinds := [], alts := [], laidByText := true, laidKinds := [.data, .data, .data, .data, .pinned], laidTests := true, laidLooks := .later }
def PlanBackUptoCardSaid : Prop := Claim7.holds Tryd.pinned (.plain (OpenSpec.upto planBackSpec)) planBackUptoCard

/-- THE SECOND FORM's CARD OF 'rillkeep.TakerBack'. -/
def takerBackUptoCard : Claim7 := { stood := { row := takerBackUptoRow, standIns := [], harness := (true, "bdbb9a65196bd7f8060ac0daa8f8d171600baa5dc8c4626244fff6c8e1f578aa"), looks := false }, kinds := [], alts := [], laidByText := true, laidKinds := [.data, .data, .data, .data, .pinned], laidTests := true, laidLooks := .later }
def TakerBackUptoCardSaid : Prop := Claim7.holds Tryd.pinned (.plain (OpenSpec.upto takerBackSpec)) takerBackUptoCard
end Rows
end Go.Proofs.YtglgbidcmkncgaaDoor
