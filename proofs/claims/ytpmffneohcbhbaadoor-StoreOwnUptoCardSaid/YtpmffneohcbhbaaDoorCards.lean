/-
  DERIVED. GIVEN WITH THE SEED: THE CARDS: each row of YtpmffneohcbhbaaDoorRows.lean that lists a variable, with what it lists TIED to the program's text (the seventh form; the later family's looks); each row that meets fmt, with fmt's text TOLD by the authors' own Lean function (tested against real Go, not proved from fmt's source: count such statements apart). THE CARD IS WHAT COUNTS. Prove the row's statement (the work); the ties are given (YtpmffneohcbhbaaDoorTie.lean); close each card by the builder's one call (the guide's Derived/Test/ToyasCard.lean, 'card_holds'). Laid BY PROGRAM, IN A SANDBOX (cutbox-door.mjs). By AI agents, Wed Nov 11 2026. No macro, syntax, notation, axiom, sorry.
-/
import Derived.Test.YtpmffneohcbhbaaDoorRows
import GoSem.ClaimSeven
namespace Go.Proofs.YtpmffneohcbhbaaDoor
namespace Rows

/-- THE TIED CARD OF 'rilllaw.IndexPlays'. -/
def indexPlaysCard : Claim7 := { stood := { row := indexPlaysRow, standIns := [], harness := (true, "eedc73b8f8ebab747097ed4b87a3cc9ddcb117590139417d99f53423ff8e4e5b"), looks := false }, kinds := [], alts := [], laidByText := true, laidKinds := [.data, .pinned], laidTests := true, laidLooks := .later }
def IndexPlaysCardSaid : Prop := Claim7.holds Tryd.pinned (.plain (OpenSpec.ofChange indexPlaysSpec)) indexPlaysCard

/-- THE TIED CARD OF 'rillkeep.IndexFinds'. -/
def indexFindsCard : Claim7 := { stood := { row := indexFindsRow, standIns := [], harness := (true, "eedc73b8f8ebab747097ed4b87a3cc9ddcb117590139417d99f53423ff8e4e5b"), looks := false }, kinds := [], alts := [], laidByText := true, laidKinds := [.data, .pinned], laidTests := true, laidLooks := .later }
def IndexFindsCardSaid : Prop := Claim7.holds Tryd.pinned (.plain (OpenSpec.ofChange indexFindsSpec)) indexFindsCard

/-- THE TIED CARD OF 'rillkeep.StorePurges'. -/
def storePurgesCard : Claim7 := { stood := { row := storePurgesRow, standIns := [], harness := (true, "eedc73b8f8ebab747097ed4b87a3cc9ddcb117590139417d99f53423ff8e4e5b"), looks := false }, kinds := [], alts := [], laidByText := true, laidKinds := [.data, .pinned], laidTests := true, laidLooks := .later }
def StorePurgesCardSaid : Prop := Claim7.holds Tryd.pinned (.plain (OpenSpec.ofChange storePurgesSpec)) storePurgesCard

/-- THE TIED CARD OF 'rillkeep.StoreSums'. -/
def storeSumsCard : Claim7 := { stood := { row := storeSumsRow, standIns := [], harness := (true, "eedc73b8f8ebab747097ed4b87a3cc9ddcb117590139417d99f53423ff8e4e5b"), looks := false }, kinds := [], alts := [], laidByText := true, laidKinds := [.data, .pinned], laidTests := true, laidLooks := .later }
def StoreSumsCardSaid : Prop := Claim7.holds Tryd.pinned (.plain (OpenSpec.ofChange storeSumsSpec)) storeSumsCard

/-- THE TIED CARD OF 'rillkeep.StoreSeeks'. -/
def storeSeeksCard : Claim7 := { stood := { row := storeSeeksRow, standIns := [], harness := (true, "eedc73b8f8ebab747097ed4b87a3cc9ddcb117590139417d99f53423ff8e4e5b"), looks := false }, kinds := [], alts := [], laidByText := true, laidKinds := [.data, .pinned], laidTests := true, laidLooks := .later }
def StoreSeeksCardSaid : Prop := Claim7.holds Tryd.pinned (.plain (OpenSpec.ofChange storeSeeksSpec)) storeSeeksCard

/-- THE TIED CARD OF 'rillkeep.StoreOwn'. -/
def storeOwnCard : Claim7 := { stood := { row := storeOwnRow, standIns := [], harness := (true, "eedc73b8f8ebab747097ed4b87a3cc9ddcb117590139417d99f53423ff8e4e5b"), looks := false }, kinds := [], alts := [], laidByText := true, laidKinds := [.data, .pinned], laidTests := true, laidLooks := .later }
def StoreOwnCardSaid : Prop := Claim7.holds Tryd.pinned (.plain (OpenSpec.ofChange storeOwnSpec)) storeOwnCard

/-- THE TIED CARD OF 'rilllaw.StorePlays'. -/
def storePlaysCard : Claim7 := { stood := { row := storePlaysRow, standIns := [], harness := (true, "eedc73b8f8ebab747097ed4b87a3cc9ddcb117590139417d99f53423ff8e4e5b"), looks := false }, kinds := [], alts := [], laidByText := true, laidKinds := [.data, .pinned], laidTests := true, laidLooks := .later }
def StorePlaysCardSaid : Prop := Claim7.holds Tryd.pinned (.plain (OpenSpec.ofChange storePlaysSpec)) storePlaysCard

/-- THE SECOND FORM's CARD OF 'rilllaw.IndexPlays'. -/
def indexPlaysUptoCard : Claim7 := { stood := { row := indexPlaysUptoRow, standIns := [], harness := (true, "eedc73b8f8ebab747097ed4b87a3cc9ddcb117590139417d99f53423ff8e4e5b"), looks := false }, kinds := [], alts := [], laidByText := true, laidKinds := [.data, .pinned], laidTests := true, laidLooks := .later }
def IndexPlaysUptoCardSaid : Prop := Claim7.holds Tryd.pinned (.plain (OpenSpec.upto indexPlaysSpec)) indexPlaysUptoCard

/-- THE SECOND FORM's CARD OF 'rillkeep.IndexFinds'. -/
def indexFindsUptoCard : Claim7 := { stood := { row := indexFindsUptoRow, standIns := [], harness := (true, "eedc73b8f8ebab747097ed4b87a3cc9ddcb117590139417d99f53423ff8e4e5b"), looks := false }, kinds := [], alts := [], laidByText := true, laidKinds := [.data, .pinned], laidTests := true, laidLooks := .later }
def IndexFindsUptoCardSaid : Prop := Claim7.holds Tryd.pinned (.plain (OpenSpec.upto indexFindsSpec)) indexFindsUptoCard

/-- THE SECOND FORM's CARD OF 'rillkeep.StorePurges'. -/
def storePurgesUptoCard : Claim7 := { stood := { row := storePurgesUptoRow, standIns := [], harness := (true, "eedc73b8f8ebab747097ed4b87a3cc9ddcb117590139417d99f53423ff8e4e5b"), looks := false }, kinds := [], alts := [], laidByText := true, laidKinds := [.data, .pinned], laidTests := true, laidLooks := .later }
def StorePurgesUptoCardSaid : Prop := Claim7.holds Tryd.pinned (.plain (OpenSpec.upto storePurgesSpec)) storePurgesUptoCard

/-- THE SECOND FORM's CARD OF 'rillkeep.StoreSums'. -/
def storeSumsUptoCard : Claim7 := { stood := { row := storeSumsUptoRow, standIns := [], harness := (true, "eedc73b8f8ebab747097ed4b87a3cc9ddcb117590139417d99f53423ff8e4e5b"), looks := false }, kinds := [], alts := [], laidByText := true, laidKinds := [.data, .pinned], laidTests := true, laidLooks := .later }
def StoreSumsUptoCardSaid : Prop := Claim7.holds Tryd.pinned (.plain (OpenSpec.upto storeSumsSpec)) storeSumsUptoCard

/-- THE SECOND FORM's CARD OF 'rillkeep.StoreSeeks'. -/
def storeSeeksUptoCard : Claim7 := { stood := { row := storeSeeksUptoRow, standIns := [], harness := (true, "eedc73b8f8ebab747097ed4b87a3cc9ddcb117590139417d99f53423ff8e4e5b"), looks := false }, kinds := [], alts := [], laidByText := true, laidKinds := [.data, .pinned], laidTests := true, laidLooks := .later }
def StoreSeeksUptoCardSaid : Prop := Claim7.holds Tryd.pinned (.plain (OpenSpec.upto storeSeeksSpec)) storeSeeksUptoCard

/-- THE SECOND FORM's CARD OF 'rillkeep.StoreOwn'. -/
def storeOwnUptoCard : Claim7 := { stood := { row := storeOwnUptoRow, standIns := [], harness := (true, "eedc73b8f8ebab747097ed4b87a3cc9ddcb117590139417d99f53423ff8e4e5b"), looks := false }, kinds := [], alts := [], laidByText := true, laidKinds := [.data, .pinned], laidTests := true, laidLooks := .later }
def StoreOwnUptoCardSaid : Prop := Claim7.holds Tryd.pinned (.plain (OpenSpec.upto storeOwnSpec)) storeOwnUptoCard

/-- THE SECOND FORM's CARD OF 'rilllaw.StorePlays'. -/
def storePlaysUptoCard : Claim7 := { stood := { row := storePlaysUptoRow, standIns := [], harness := (true, "eedc73b8f8ebab747097ed4b87a3cc9ddcb117590139417d99f53423ff8e4e5b"), looks := false }, kinds := [], alts := [], laidByText := true, laidKinds := [.data, .pinned], laidTests := true, laidLooks := .later }
def StorePlaysUptoCardSaid : Prop := Claim7.holds Tryd.pinned (.plain (OpenSpec.upto storePlaysSpec)) storePlaysUptoCard
end Rows
end Go.Proofs.YtpmffneohcbhbaaDoor
