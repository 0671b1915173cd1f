/-
  DERIVED. GIVEN WITH THE SEED: THE CARDS: each row of YtddefkbmiicnbaaGreatDoorRows.lean that lists a variable, with what it lists TIED to the program's text (the seventh form; the later family's looks); each row that meets fmt, with fmt's text TOLD by the authors' own Lean function (tested against real Go, not proved from fmt's source: count such statements apart). THE CARD IS WHAT COUNTS. Prove the row's statement (the work); the ties are given (YtddefkbmiicnbaaGreatDoorTie.lean); close each card by the builder's one call (the guide's Derived/Test/ToyasCard.lean, 'card_holds'). Laid BY PROGRAM, IN A SANDBOX (cutbox-door.mjs). By AI agents, Wed Nov 11 2026. No macro, syntax, notation, axiom, sorry.
-/
import Derived.Test.YtddefkbmiicnbaaGreatDoorRows
import GoSem.ClaimSeven
namespace Go.Proofs.YtddefkbmiicnbaaGreatDoor
namespace Rows

/-- THE TIED CARD OF 'laws.FnExactTableOk'. -/
def fnExactTableOkCard : Claim7 := { stood := { row := fnExactTableOkRow, standIns := [], harness := (true, "b55237e5e17165301331e32107fe38c818f2ff68348f1d51d3e09c3012ad03ea"), looks := true }, kinds := [], alts := [], laidByText := true, laidKinds := [.data, .data, .data, .sentinel, .sentinel], laidTests := true, laidLooks := .later }
def FnExactTableOkCardSaid : Prop := Claim7.holds Tryz.pinned (.plain (OpenSpec.ofChange fnExactTableOkSpec)) fnExactTableOkCard

/-- THE TIED CARD OF 'laws.FnTableOnce'. -/
def fnTableOnceCard : Claim7 := { stood := { row := fnTableOnceRow, standIns := [], harness := (true, "b55237e5e17165301331e32107fe38c818f2ff68348f1d51d3e09c3012ad03ea"), looks := true }, kinds := [], alts := [], laidByText := true, laidKinds := [.data, .data, .data, .sentinel, .sentinel], laidTests := true, laidLooks := .later }
def FnTableOnceCardSaid : Prop := Claim7.holds Tryz.pinned (.plain (OpenSpec.ofChange fnTableOnceSpec)) fnTableOnceCard

/-- THE TIED CARD OF 'laws.FnTableFind'. -/
def fnTableFindCard : Claim7 := { stood := { row := fnTableFindRow, standIns := [], harness := (true, "b55237e5e17165301331e32107fe38c818f2ff68348f1d51d3e09c3012ad03ea"), looks := true }, kinds := [], alts := [], laidByText := true, laidKinds := [.data, .data, .data, .sentinel, .sentinel], laidTests := true, laidLooks := .later }
def FnTableFindCardSaid : Prop := Claim7.holds Tryz.pinned (.plain (OpenSpec.ofChange fnTableFindSpec)) fnTableFindCard

/-- THE TIED CARD OF 'laws.FnExactTableRow'. -/
def fnExactTableRowCard : Claim7 := { stood := { row := fnExactTableRowRow, standIns := [], harness := (true, "b55237e5e17165301331e32107fe38c818f2ff68348f1d51d3e09c3012ad03ea"), looks := true }, kinds := [], alts := [], laidByText := true, laidKinds := [.data, .data, .data, .sentinel, .sentinel], laidTests := true, laidLooks := .later }
def FnExactTableRowCardSaid : Prop := Claim7.holds Tryz.pinned (.plain (OpenSpec.ofChange fnExactTableRowSpec)) fnExactTableRowCard

/-- THE TIED CARD OF 'laws.FnTableBent'. -/
def fnTableBentCard : Claim7 := { stood := { row := fnTableBentRow, standIns := [], harness := (true, "b55237e5e17165301331e32107fe38c818f2ff68348f1d51d3e09c3012ad03ea"), looks := true }, kinds := [], alts := [], laidByText := true, laidKinds := [.data, .data, .data, .sentinel, .sentinel], laidTests := true, laidLooks := .later }
def FnTableBentCardSaid : Prop := Claim7.holds Tryz.pinned (.plain (OpenSpec.ofChange fnTableBentSpec)) fnTableBentCard

/-- THE TIED CARD OF 'laws.FnExactTableShape'. -/
def fnExactTableShapeCard : Claim7 := { stood := { row := fnExactTableShapeRow, standIns := [], harness := (true, "b55237e5e17165301331e32107fe38c818f2ff68348f1d51d3e09c3012ad03ea"), looks := true }, kinds := [], alts := [], laidByText := true, laidKinds := [.data, .data, .data, .sentinel, .sentinel], laidTests := true, laidLooks := .later }
def FnExactTableShapeCardSaid : Prop := Claim7.holds Tryz.pinned (.plain (OpenSpec.ofChange fnExactTableShapeSpec)) fnExactTableShapeCard

/-- THE TIED CARD OF 'laws.FnExactTableFind'. -/
def fnExactTableFindCard : Claim7 := { stood := { row := fnExactTableFindRow, standIns := [], harness := (true, "b55237e5e17165301331e32107fe38c818f2ff68348f1d51d3e09c3012ad03ea"), looks := true }, kinds := [], alts := [], laidByText := true, laidKinds := [.data, .data, .data, .sentinel, .sentinel], laidTests := true, laidLooks := .later }
def FnExactTableFindCardSaid : Prop := Claim7.holds Tryz.pinned (.plain (OpenSpec.ofChange fnExactTableFindSpec)) fnExactTableFindCard

/-- THE TIED CARD OF 'laws.FnExactTableNow'. -/
def fnExactTableNowCard : Claim7 := { stood := { row := fnExactTableNowRow, standIns := [], harness := (true, "b55237e5e17165301331e32107fe38c818f2ff68348f1d51d3e09c3012ad03ea"), looks := true }, kinds := [], alts := [], laidByText := true, laidKinds := [.data, .data, .data, .sentinel, .sentinel], laidTests := true, laidLooks := .later }
def FnExactTableNowCardSaid : Prop := Claim7.holds Tryz.pinned (.plain (OpenSpec.ofChange fnExactTableNowSpec)) fnExactTableNowCard

/-- THE TIED CARD OF 'laws.FnExactBaseOk'. -/
def fnExactBaseOkCard : Claim7 := { stood := { row := fnExactBaseOkRow, standIns := [], harness := (true, "b55237e5e17165301331e32107fe38c818f2ff68348f1d51d3e09c3012ad03ea"), looks := true }, kinds := [], alts := [], laidByText := true, laidKinds := [.data, .data, .data, .sentinel, .sentinel], laidTests := true, laidLooks := .later }
def FnExactBaseOkCardSaid : Prop := Claim7.holds Tryz.pinned (.plain (OpenSpec.ofChange fnExactBaseOkSpec)) fnExactBaseOkCard

/-- THE TIED CARD OF 'laws.FnBaseDoomed'. -/
def fnBaseDoomedCard : Claim7 := { stood := { row := fnBaseDoomedRow, standIns := [], harness := (true, "b55237e5e17165301331e32107fe38c818f2ff68348f1d51d3e09c3012ad03ea"), looks := true }, kinds := [], alts := [], laidByText := true, laidKinds := [.data, .data, .data, .sentinel, .sentinel], laidTests := true, laidLooks := .later }
def FnBaseDoomedCardSaid : Prop := Claim7.holds Tryz.pinned (.plain (OpenSpec.ofChange fnBaseDoomedSpec)) fnBaseDoomedCard

/-- THE TIED CARD OF 'laws.FnExactBaseDoomed'. -/
def fnExactBaseDoomedCard : Claim7 := { stood := { row := fnExactBaseDoomedRow, standIns := [], harness := (true, "b55237e5e17165301331e32107fe38c818f2ff68348f1d51d3e09c3012ad03ea"), looks := true }, kinds := [], alts := [], laidByText := true, laidKinds := [.data, .data, .data, .sentinel, .sentinel], laidTests := true, laidLooks := .later }
def FnExactBaseDoomedCardSaid : Prop := Claim7.holds Tryz.pinned (.plain (OpenSpec.ofChange fnExactBaseDoomedSpec)) fnExactBaseDoomedCard

/-- THE SECOND FORM's CARD OF 'laws.FnExactTableOk'. -/
def fnExactTableOkUptoCard : Claim7 := { stood := { row := fnExactTableOkUptoRow, standIns := [], harness := (true, "b55237e5e17165301331e32107fe38c818f2ff68348f1d51d3e09c3012ad03ea"), looks := true }, kinds := [], alts := [], laidByText := true, laidKinds := [.data, .data, .data, .sentinel, .sentinel], laidTests := true, laidLooks := .later }
def FnExactTableOkUptoCardSaid : Prop := Claim7.holds Tryz.pinned (.plain (OpenSpec.upto fnExactTableOkSpec)) fnExactTableOkUptoCard

/-- THE SECOND FORM's CARD OF 'laws.FnTableOnce'. -/
def fnTableOnceUptoCard : Claim7 := { stood := { row := fnTableOnceUptoRow, standIns := [], harness := (true, "b55237e5e17165301331e32107fe38c818f2ff68348f1d51d3e09c3012ad03ea"), looks := true }, kinds := [], alts := [], laidByText := true, laidKinds := [.data, .data, .data, .sentinel, .sentinel], laidTests := true, laidLooks := .later }
def FnTableOnceUptoCardSaid : Prop := Claim7.holds Tryz.pinned (.plain (OpenSpec.upto fnTableOnceSpec)) fnTableOnceUptoCard

/-- THE SECOND FORM's CARD OF 'laws.FnTableFind'. -/
def fnTableFindUptoCard : Claim7 := { stood := { row := fnTableFindUptoRow, standIns := [], harness := (true, "b55237e5e17165301331e32107fe38c818f2ff68348f1d51d3e09c3012ad03ea"), looks := true }, kinds := [], alts := [], laidByText := true, laidKinds := [.data, .data, .data, .sentinel, .sentinel], laidTests := true, laidLooks := .later }
def FnTableFindUptoCardSaid : Prop := Claim7.holds Tryz.pinned (.plain (OpenSpec.upto fnTableFindSpec)) fnTableFindUptoCard

/-- THE SECOND FORM's CARD OF 'laws.FnExactTableRow'. -/
def fnExactTableRowUptoCard : Claim7 := { stood := { row := fnExactTableRowUptoRow, standIns := [], harness := (true, "b55237e5e17165301331e32107fe38c818f2ff68348f1d51d3e09c3012ad03ea"), looks := true }, kinds := [], alts := [], laidByText := true, laidKinds := [.data, .data, .data, .sentinel, .sentinel], laidTests := true, laidLooks := .later }
def FnExactTableRowUptoCardSaid : Prop := Claim7.holds Tryz.pinned (.plain (OpenSpec.upto fnExactTableRowSpec)) fnExactTableRowUptoCard

/-- THE SECOND FORM's CARD OF 'laws.FnTableBent'. -/
def fnTableBentUptoCard : Claim7 := { stood := { row := fnTableBentUptoRow, standIns := [], harness := (true, "b55237e5e17165301331e32107fe38c818f2ff68348f1d51d3e09c3012ad03ea"), looks := true }, kinds := [], alts := [], laidByText := true, laidKinds := [.data, .data, .data, .sentinel, .sentinel], laidTests := true, laidLooks := .later }
def FnTableBentUptoCardSaid : Prop := Claim7.holds Tryz.pinned (.plain (OpenSpec.upto fnTableBentSpec)) fnTableBentUptoCard

/-- THE SECOND FORM's CARD OF 'laws.FnExactTableShape'. -/
def fnExactTableShapeUptoCard : Claim7 := { stood := { row := fnExactTableShapeUptoRow, standIns := [], harness := (true, "b55237e5e17165301331e32107fe38c818f2ff68348f1d51d3e09c3012ad03ea"), looks := true }, kinds := [], alts := [], laidByText := true, laidKinds := [.data, .data, .data, .sentinel, .sentinel], laidTests := true, laidLooks := .later }
def FnExactTableShapeUptoCardSaid : Prop := Claim7.holds Tryz.pinned (.plain (OpenSpec.upto fnExactTableShapeSpec)) fnExactTableShapeUptoCard

/-- THE SECOND FORM's CARD OF 'laws.FnExactTableFind'. -/
def fnExactTableFindUptoCard : Claim7 := { stood := { row := fnExactTableFindUptoRow, standIns := [], harness := (true, "b55237e5e17165301331e32107fe38c818f2ff68348f1d51d3e09c3012ad03ea"), looks := true }, kinds := [], alts := [], laidByText := true, laidKinds := [.data, .data, .data, .sentinel, .sentinel], laidTests := true, laidLooks := .later }
def FnExactTableFindUptoCardSaid : Prop := Claim7.holds Tryz.pinned (.plain (OpenSpec.upto fnExactTableFindSpec)) fnExactTableFindUptoCard

/-- THE SECOND FORM's CARD OF 'laws.FnExactTableNow'. -/
def fnExactTableNowUptoCard : Claim7 := { stood := { row := fnExactTableNowUptoRow, standIns := [], harness := (true, "b55237e5e17165301331e32107fe38c818f2ff68348f1d51d3e09c3012ad03ea"), looks := true }, kinds := [], alts := [], laidByText := true, laidKinds := [.data, .data, .data, .sentinel, .sentinel], laidTests := true, laidLooks := .later }
def FnExactTableNowUptoCardSaid : Prop := Claim7.holds Tryz.pinned (.plain (OpenSpec.upto fnExactTableNowSpec)) fnExactTableNowUptoCard

/-- THE SECOND FORM's CARD OF 'laws.FnExactBaseOk'. -/
def fnExactBaseOkUptoCard : Claim7 := { stood := { row := fnExactBaseOkUptoRow, standIns := [], harness := (true, "b55237e5e17165301331e32107fe38c818f2ff68348f1d51d3e09c3012ad03ea"), looks := true }, kinds := [], alts := [], laidByText := true, laidKinds := [.data, .data, .data, .sentinel, .sentinel], laidTests := true, laidLooks := .later }
def FnExactBaseOkUptoCardSaid : Prop := Claim7.holds Tryz.pinned (.plain (OpenSpec.upto fnExactBaseOkSpec)) fnExactBaseOkUptoCard

/-- THE SECOND FORM's CARD OF 'laws.FnBaseDoomed'. -/
def fnBaseDoomedUptoCard : Claim7 := { stood := { row := fnBaseDoomedUptoRow, standIns := [], harness := (true, "b55237e5e17165301331e32107fe38c818f2ff68348f1d51d3e09c3012ad03ea"), looks := true }, kinds := [], alts := [], laidByText := true, laidKinds := [.data, .data, .data, .sentinel, .sentinel], laidTests := true, laidLooks := .later }
def FnBaseDoomedUptoCardSaid : Prop := Claim7.holds Tryz.pinned (.plain (OpenSpec.upto fnBaseDoomedSpec)) fnBaseDoomedUptoCard

/-- THE SECOND FORM's CARD OF 'laws.FnExactBaseDoomed'. -/
def fnExactBaseDoomedUptoCard : Claim7 := { stood := { row := fnExactBaseDoomedUptoRow, standIns := [], harness := (true, "b55237e5e17165301331e32107fe38c818f2ff68348f1d51d3e09c3012ad03ea"), looks := true }, kinds := [], alts := [], laidByText := true, laidKinds := [.data, .data, .data, .sentinel, .sentinel], laidTests := true, laidLooks := .later }
def FnExactBaseDoomedUptoCardSaid : Prop := Claim7.holds Tryz.pinned (.plain (OpenSpec.upto fnExactBaseDoomedSpec)) fnExactBaseDoomedUptoCard
end Rows
end Go.Proofs.YtddefkbmiicnbaaGreatDoor
