/- The card's own facts of the program and of the row. -/
import Derived.Test.YthhgfdeegnimjaaGreatDoorRows
import Derived.Test.YthhgfdeegnimjaaGreatDoorConsumerPlaysUptoM22
import Derived.ProofKit
import Derived.OpenShut
import Derived.SizedLaws
import Derived.ChangeMaps5
namespace Go.Proofs.YthhgfdeegnimjaaGreatDoor.consumerPlaysUpto
open Go.ChangeShapes Go.WideShapes Go.ChangeAt Go.ChangeMaps Go.RowKit

theorem own : ownKnob Tryz.prog.godebug = none := by kernel_rfl
theorem laidOut : laidOutB Tryz.prog = true := by kernel_rfl
theorem shapesB : (Tryz.f3.params.toList.all fun t => Tryz.prog.readableRec t && decide (t < Tryz.prog.types.size)) = true := by kernel_rfl
theorem shapes : ∀ t ∈ Tryz.f3.params.toList, Tryz.prog.readableRec t = true ∧ t < Tryz.prog.types.size := fun t ht => by
  have h := List.all_eq_true.1 shapesB t ht
  rw [Bool.and_eq_true, decide_eq_true_eq] at h
  exact h

theorem reads (os : Os) {H : Type} (enc : TypeId × Value → H) : ∃ places, DataW.whole enc Tryz.prog ((laidWorld os).forCall (fun _ _ => 0) ⟨#[], #[.agg #[.string ByteArray.empty, .string ByteArray.empty, .int .i64 0, .int .i64 0, .int .i64 0, .int .i64 0, .slice none 0 0, .int .i64 0, .int .i64 0, .bool false], .slice none 0 0, .slice none 0 0], []⟩).memory Tryz.f3.params.toList Rows.consumerPlaysSpec.vars false (#[.agg #[.string ByteArray.empty, .string ByteArray.empty, .int .i64 0, .int .i64 0, .int .i64 0, .int .i64 0, .slice none 0 0, .int .i64 0, .int .i64 0, .bool false], .slice none 0 0, .slice none 0 0] : Array Value).toList 8 = some ([.agg [.lit (.string []), .lit (.string []), .lit (.int .i64 0), .lit (.int .i64 0), .lit (.int .i64 0), .lit (.int .i64 0), .nil, .lit (.int .i64 0), .lit (.int .i64 0), .lit (.bool false)], .nil, .nil], [], places) :=
  ⟨[], by kernel_rfl⟩

theorem limb1 : (Rows.consumerPlaysUptoRow.wf (OpenSpec.ofChange (Rows.OpenSpec.upto Rows.consumerPlaysSpec).bare)) = true := by kernel_rfl
theorem limb2 : (laidOutB Tryz.pinned.checked.prog) = true := by kernel_rfl
theorem limb3 : (mapsRowed Tryz.pinned.checked.prog) = true := by kernel_rfl
theorem limb4 : (Tryz.f3.params.all (Tryz.pinned.checked.prog.readableRec ·)) = true := by kernel_rfl
theorem limb5 : (namedTie Tryz.pinned.checked.prog Rows.consumerPlaysUptoRow.named (Rows.OpenSpec.upto Rows.consumerPlaysSpec).bare.vars) = true := by kernel_rfl
theorem limb6 : ((Rows.consumerPlaysUptoRow.stops == [])) = true := by kernel_rfl
theorem limb7 : ((Tryz.pinned.checked.prog.stops == [])) = true := by kernel_rfl
theorem limb8 : ((Rows.consumerPlaysUptoRow.knobs == [])) = true := by kernel_rfl
theorem limb9 : ((Tryz.pinned.checked.prog.stopKnobs == [])) = true := by kernel_rfl
theorem limb10 : ((Rows.consumerPlaysUptoRow.inPlace == Tryz.pinned.checked.prog.inPlace 3)) = true := by kernel_rfl
theorem limb11 : ((Rows.consumerPlaysUptoRow.unfollowed == Tryz.pinned.checked.prog.unfollowed 3)) = true := by kernel_rfl
theorem limb12 : ((Rows.consumerPlaysUptoRow.recurses == Tryz.pinned.checked.prog.recurses 3)) = true := by kernel_rfl
theorem limb13 : ((Rows.consumerPlaysUptoRow.named == Tryz.pinned.checked.prog.varsNamed 3)) = true := by kernel_rfl
theorem limb14 : ((Rows.consumerPlaysUptoRow.maps == (Tryz.f3.params.toList ++ (Rows.OpenSpec.upto Rows.consumerPlaysSpec).bare.plain.varTypes Tryz.pinned.checked.prog).any (Tryz.pinned.checked.prog.mapsRec ·))) = true := by kernel_rfl
theorem limb15 : ((Rows.consumerPlaysUptoRow.ifaces == (Tryz.f3.params.toList ++ (Rows.OpenSpec.upto Rows.consumerPlaysSpec).bare.plain.varTypes Tryz.pinned.checked.prog).any (Tryz.pinned.checked.prog.ifacesRec ·))) = true := by kernel_rfl
theorem limb16 : ((Rows.consumerPlaysUptoRow.mapsOut == Tryz.pinned.checked.prog.mapsAmong Tryz.f3.resultTypes.toList)) = true := by kernel_rfl
theorem limb17 : ((Rows.consumerPlaysUptoRow.loops == (Tryz.f3.params.toList ++ (Rows.OpenSpec.upto Rows.consumerPlaysSpec).bare.plain.varTypes Tryz.pinned.checked.prog).any (Tryz.pinned.checked.prog.loopsFrom ·))) = true := by kernel_rfl
theorem limb18 : ((Rows.consumerPlaysUptoRow.wideKeys == (Tryz.f3.params.toList ++ (Rows.OpenSpec.upto Rows.consumerPlaysSpec).bare.plain.varTypes Tryz.pinned.checked.prog ++ Tryz.f3.resultTypes.toList).any (Tryz.pinned.checked.prog.wideKeysFrom ·))) = true := by kernel_rfl
theorem limb19 : ((Rows.OpenSpec.upto Rows.consumerPlaysSpec).bare.vars.all (Tryz.pinned.checked.prog.varReadable ·)) = true := by kernel_rfl
theorem limb20 : (Tryz.f3.resultTypes.all (fun t => Tryz.pinned.checked.prog.readableRec t && decide (t < Tryz.pinned.checked.prog.types.size))) = true := by kernel_rfl
theorem limb21 : ((Rows.consumerPlaysUptoRow.ifacesOut == Tryz.f3.resultTypes.toList.any (Tryz.pinned.checked.prog.ifacesRec ·))) = true := by kernel_rfl
theorem limb22 : ((Rows.consumerPlaysUptoRow.loopsOut == Tryz.f3.resultTypes.toList.any (Tryz.pinned.checked.prog.loopsFrom ·))) = true := by kernel_rfl
theorem limb23 : ((Rows.consumerPlaysUptoRow.plainKeys == Tryz.pinned.checked.prog.plainKeys)) = true := by kernel_rfl
theorem limb24 : (Rows.consumerPlaysUptoRow.shortTexts.isNone) = true := by kernel_rfl
theorem limb25 : (Tryz.pinned.checked.prog.stopsHeard) = true := by kernel_rfl
theorem limb26 : (Tryz.pinned.checked.prog.mayEnter) = true := by kernel_rfl
theorem limb27 : ((Rows.consumerPlaysUptoRow.lifted == Tryz.pinned.checked.prog.liftsFinal)) = true := by kernel_rfl
theorem limb28 : ((Tryz.pinned.checked.prog.make == some Rows.consumerPlaysUptoRow.make)) = true := by kernel_rfl
theorem limb30 : ((Rows.consumerPlaysUptoRow.pinned == Rows.consumerPlaysUptoRow.pinnedBy)) = true := by kernel_rfl
theorem limb31 : ((Rows.consumerPlaysUptoRow.veiled == (Tryz.f3.params.toList ++ (Rows.OpenSpec.upto Rows.consumerPlaysSpec).bare.plain.varTypes Tryz.pinned.checked.prog ++ Tryz.f3.resultTypes.toList).any (Tryz.pinned.checked.prog.veiledRec ·))) = true := by kernel_rfl
theorem limb32 : (Rows.consumerPlaysUptoRow.veiledFits Tryz.pinned.checked.prog Tryz.f3.params.toList (Tryz.f3.params.toList ++ (Rows.OpenSpec.upto Rows.consumerPlaysSpec).bare.plain.varTypes Tryz.pinned.checked.prog ++ Tryz.f3.resultTypes.toList)) = true := by kernel_rfl
theorem and2 {a b : Bool} (h : a = true) (k : b = true) : (a && b) = true := by rw [h, k]; rfl
theorem closed : joinedFacts Tryz.pinned.checked.prog 3 Tryz.f3 (Rows.OpenSpec.upto Rows.consumerPlaysSpec).bare Rows.consumerPlaysUptoRow = true := by
  unfold joinedFacts
  refine (and2 (and2 (and2 (and2 (and2 (and2 (and2 (and2 (and2 (and2 (and2 (and2 (and2 (and2 (and2 (and2 (and2 (and2 (and2 (and2 (and2 (and2 (and2 (and2 (and2 (and2 (and2 (and2 (and2 (and2 (and2 limb1 limb2) limb3) limb4) limb5) limb6) limb7) limb8) limb9) limb10) limb11) limb12) limb13) limb14) limb15) limb16) limb17) limb18) limb19) limb20) limb21) limb22) limb23) limb24) limb25) limb26) limb27) limb28) ?_) limb30) limb31) limb32)
  kernel_rfl
theorem namedF : Tryz.pinned.checked.prog.funcNamed Rows.consumerPlaysUptoRow.func = some 3 := by kernel_rfl

theorem wrapF : Func.isWrapper Tryz.pinned.checked.prog Tryz.f3 Rows.consumerPlaysUptoRow.wrapper Rows.consumerPlaysUptoRow.mainSum := by unfold Func.isWrapper; first | (rw [if_pos (by decide +kernel)]; kernel_rfl) | (rw [if_neg (by decide +kernel)]; exact ⟨rfl, rfl⟩)

end Go.Proofs.YthhgfdeegnimjaaGreatDoor.consumerPlaysUpto
