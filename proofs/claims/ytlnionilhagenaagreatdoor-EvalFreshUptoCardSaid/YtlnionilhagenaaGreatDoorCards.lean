/-
  DERIVED. GIVEN WITH THE SEED: THE CARDS: each row of YtlnionilhagenaaGreatDoorRows.lean that lists a variable, with what it lists TIED to the program's text (the seventh form; the later family's looks); each row that meets fmt, with fmt's text TOLD by the authors' own Lean function (tested against real Go, not proved from fmt's source: count such statements apart). THE CARD IS WHAT COUNTS. Prove the row's statement (the work); the ties are given (YtlnionilhagenaaGreatDoorTie.lean); close each card by the builder's one call (the guide's Derived/Test/ToyasCard.lean, 'card_holds'). Laid BY PROGRAM, IN A SANDBOX (cutbox-door.mjs). By AI agents, Wed Nov 11 2026. No macro, syntax, notation, axiom, sorry.
-/
import Derived.Test.YtlnionilhagenaaGreatDoorRows
import GoSem.ClaimSeven
namespace Go.Proofs.YtlnionilhagenaaGreatDoor
namespace Rows

/-- THE TIED CARD OF 'cadencelaw08.EvalFresh'. -/
def evalFreshCard : Claim7 := { stood := { row := evalFreshRow, standIns := [], harness := (true, "c3cce70ad501c504eb57d2d354e51fa65accffc695663bcf96dfb15ef337ccb1"), looks := true }, kinds := [], alts := [], laidByText := true, laidKinds := [.data, .data, .data, .data, .handle, .sentinel, .sentinel, .listed, .data, .pinned], laidTests := true, laidLooks := .later }
def EvalFreshCardSaid : Prop := Claim7.holds Tryz.pinned (.plain (OpenSpec.ofChange evalFreshSpec)) evalFreshCard

/-- THE TIED CARD OF 'cadencelaw08.EvalPutMeans'. -/
def evalPutMeansCard : Claim7 := { stood := { row := evalPutMeansRow, standIns := [], harness := (true, "c3cce70ad501c504eb57d2d354e51fa65accffc695663bcf96dfb15ef337ccb1"), looks := true }, kinds := [], alts := [], laidByText := true, laidKinds := [.data, .data, .data, .data, .handle, .sentinel, .sentinel, .listed, .data, .pinned], laidTests := true, laidLooks := .later }
def EvalPutMeansCardSaid : Prop := Claim7.holds Tryz.pinned (.plain (OpenSpec.ofChange evalPutMeansSpec)) evalPutMeansCard

/-- THE TIED CARD OF 'cadencelaw08.EvalSplitMeans'. -/
def evalSplitMeansCard : Claim7 := { stood := { row := evalSplitMeansRow, standIns := [], harness := (true, "c3cce70ad501c504eb57d2d354e51fa65accffc695663bcf96dfb15ef337ccb1"), looks := true }, kinds := [], alts := [], laidByText := true, laidKinds := [.data, .data, .data, .data, .handle, .sentinel, .sentinel, .listed, .data, .pinned], laidTests := true, laidLooks := .later }
def EvalSplitMeansCardSaid : Prop := Claim7.holds Tryz.pinned (.plain (OpenSpec.ofChange evalSplitMeansSpec)) evalSplitMeansCard

/-- THE TIED CARD OF 'cadencelaw08.EvalCarryMeans'. -/
def evalCarryMeansCard : Claim7 := { stood := { row := evalCarryMeansRow, standIns := [], harness := (true, "c3cce70ad501c504eb57d2d354e51fa65accffc695663bcf96dfb15ef337ccb1"), looks := true }, kinds := [], alts := [], laidByText := true, laidKinds := [.data, .data, .data, .data, .handle, .sentinel, .sentinel, .listed, .data, .pinned], laidTests := true, laidLooks := .later }
def EvalCarryMeansCardSaid : Prop := Claim7.holds Tryz.pinned (.plain (OpenSpec.ofChange evalCarryMeansSpec)) evalCarryMeansCard

/-- THE SECOND FORM's CARD OF 'cadencelaw08.EvalFresh'. -/
def evalFreshUptoCard : Claim7 := { stood := { row := evalFreshUptoRow, standIns := [], harness := (true, "c3cce70ad501c504eb57d2d354e51fa65accffc695663bcf96dfb15ef337ccb1"), looks := true }, kinds := [], alts := [], laidByText := true, laidKinds := [.data, .data, .data, .data, .handle, .sentinel, .sentinel, .listed, .data, .pinned], laidTests := true, laidLooks := .later }
def EvalFreshUptoCardSaid : Prop := Claim7.holds Tryz.pinned (.plain (OpenSpec.upto evalFreshSpec)) evalFreshUptoCard

/-- THE SECOND FORM's CARD OF 'cadencelaw08.EvalPutMeans'. -/
def evalPutMeansUptoCard : Claim7 := { stood := { row := evalPutMeansUptoRow, standIns := [], harness := (true, "c3cce70ad501c504eb57d2d354e51fa65accffc695663bcf96dfb15ef337ccb1"), looks := true }, kinds := [], alts := [], laidByText := true, laidKinds := [.data, .data, .data, .data, .handle, .sentinel, .sentinel, .listed, .data, .pinned], laidTests := true, laidLooks := .later }
def EvalPutMeansUptoCardSaid : Prop := Claim7.holds Tryz.pinned (.plain (OpenSpec.upto evalPutMeansSpec)) evalPutMeansUptoCard

/-- THE SECOND FORM's CARD OF 'cadencelaw08.EvalSplitMeans'. -/
def evalSplitMeansUptoCard : Claim7 := { stood := { row := evalSplitMeansUptoRow, standIns := [], harness := (true, "c3cce70ad501c504eb57d2d354e51fa65accffc695663bcf96dfb15ef337ccb1"), looks := true }, kinds := [], alts := [], laidByText := true, laidKinds := [.data, .data, .data, .data, .handle, .sentinel, .sentinel, .listed, .data, .pinned], laidTests := true, laidLooks := .later }
def EvalSplitMeansUptoCardSaid : Prop := Claim7.holds Tryz.pinned (.plain (OpenSpec.upto evalSplitMeansSpec)) evalSplitMeansUptoCard

/-- THE SECOND FORM's CARD OF 'cadencelaw08.EvalCarryMeans'. -/
def evalCarryMeansUptoCard : Claim7 := { stood := { row := evalCarryMeansUptoRow, standIns := [], harness := (true, "c3cce70ad501c504eb57d2d354e51fa65accffc695663bcf96dfb15ef337ccb1"), looks := true }, kinds := [], alts := [], laidByText := true, laidKinds := [.data, .data, .data, .data, .handle, .sentinel, .sentinel, .listed, .data, .pinned], laidTests := true, laidLooks := .later }
def EvalCarryMeansUptoCardSaid : Prop := Claim7.holds Tryz.pinned (.plain (OpenSpec.upto evalCarryMeansSpec)) evalCarryMeansUptoCard
end Rows
end Go.Proofs.YtlnionilhagenaaGreatDoor
