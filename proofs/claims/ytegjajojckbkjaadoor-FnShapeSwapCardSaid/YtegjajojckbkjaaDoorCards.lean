/-
  DERIVED. GIVEN WITH THE SEED: THE CARDS: each row of YtegjajojckbkjaaDoorRows.lean that lists a variable, with what it lists TIED to the program's text (the seventh form; the later family's looks); each row that meets fmt, with fmt's text TOLD by the authors' own Lean function (tested against real Go, not proved from fmt's source: count such statements apart). THE CARD IS WHAT COUNTS. Prove the row's statement (the work); the ties are given (YtegjajojckbkjaaDoorTie.lean); close each card by the builder's one call (the guide's Derived/Test/ToyasCard.lean, 'card_holds'). Laid BY PROGRAM, IN A SANDBOX (cutbox-door.mjs). By AI agents, Wed Nov 11 2026. No macro, syntax, notation, axiom, sorry.
-/
import Derived.Test.YtegjajojckbkjaaDoorRows
import GoSem.ClaimSeven
namespace Go.Proofs.YtegjajojckbkjaaDoor
namespace Rows

/-- THE TIED CARD OF 'laws.FnShapeNeed'. -/
def fnShapeNeedCard : Claim7 := { stood := { row := fnShapeNeedRow, standIns := [], harness := (true, "b40a9e7f362d632174be38b4deb3fd27c62c52551a4da2f0e07b1f787f5e05c7"), looks := true }, kinds := [], alts := [], laidByText := true, laidKinds := [.data, .data, .data, .sentinel, .sentinel], laidTests := true, laidLooks := .later }
def FnShapeNeedCardSaid : Prop := Claim7.holds Tryd.pinned (.plain (OpenSpec.ofChange fnShapeNeedSpec)) fnShapeNeedCard

/-- THE TIED CARD OF 'laws.FnShapeBack'. -/
def fnShapeBackCard : Claim7 := { stood := { row := fnShapeBackRow, standIns := [], harness := (true, "b40a9e7f362d632174be38b4deb3fd27c62c52551a4da2f0e07b1f787f5e05c7"), looks := true }, kinds := [], alts := [], laidByText := true, laidKinds := [.data, .data, .data, .sentinel, .sentinel], laidTests := true, laidLooks := .later }
def FnShapeBackCardSaid : Prop := Claim7.holds Tryd.pinned (.plain (OpenSpec.ofChange fnShapeBackSpec)) fnShapeBackCard

/-- THE TIED CARD OF 'laws.FnShapeTwice'. -/
def fnShapeTwiceCard : Claim7 := { stood := { row := fnShapeTwiceRow, standIns := [], harness := (true, "b40a9e7f362d632174be38b4deb3fd27c62c52551a4da2f0e07b1f787f5e05c7"), looks := true }, kinds := [], alts := [], laidByText := true, laidKinds := [.data, .data, .data, .sentinel, .sentinel], laidTests := true, laidLooks := .later }
def FnShapeTwiceCardSaid : Prop := Claim7.holds Tryd.pinned (.plain (OpenSpec.ofChange fnShapeTwiceSpec)) fnShapeTwiceCard

/-- THE TIED CARD OF 'laws.FnShape'. -/
def fnShapeCard : Claim7 := { stood := { row := fnShapeRow, standIns := [], harness := (true, "b40a9e7f362d632174be38b4deb3fd27c62c52551a4da2f0e07b1f787f5e05c7"), looks := true }, kinds := [], alts := [], laidByText := true, laidKinds := [.data, .data, .data, .sentinel, .sentinel], laidTests := true, laidLooks := .later }
def FnShapeCardSaid : Prop := Claim7.holds Tryd.pinned (.plain (OpenSpec.ofChange fnShapeSpec)) fnShapeCard

/-- THE TIED CARD OF 'laws.FnShapeAll'. -/
def fnShapeAllCard : Claim7 := { stood := { row := fnShapeAllRow, standIns := [], harness := (true, "b40a9e7f362d632174be38b4deb3fd27c62c52551a4da2f0e07b1f787f5e05c7"), looks := true }, kinds := [], alts := [], laidByText := true, laidKinds := [.data, .data, .data, .sentinel, .sentinel], laidTests := true, laidLooks := .later }
def FnShapeAllCardSaid : Prop := Claim7.holds Tryd.pinned (.plain (OpenSpec.ofChange fnShapeAllSpec)) fnShapeAllCard

/-- THE TIED CARD OF 'laws.FnExactShapeDo'. -/
def fnExactShapeDoCard : Claim7 := { stood := { row := fnExactShapeDoRow, standIns := [], harness := (true, "b40a9e7f362d632174be38b4deb3fd27c62c52551a4da2f0e07b1f787f5e05c7"), looks := true }, kinds := [], alts := [], laidByText := true, laidKinds := [.data, .data, .data, .sentinel, .sentinel], laidTests := true, laidLooks := .later }
def FnExactShapeDoCardSaid : Prop := Claim7.holds Tryd.pinned (.plain (OpenSpec.ofChange fnExactShapeDoSpec)) fnExactShapeDoCard

/-- THE TIED CARD OF 'laws.FnRowKeep'. -/
def fnRowKeepCard : Claim7 := { stood := { row := fnRowKeepRow, standIns := [], harness := (true, "b40a9e7f362d632174be38b4deb3fd27c62c52551a4da2f0e07b1f787f5e05c7"), looks := true }, kinds := [], alts := [], laidByText := true, laidKinds := [.data, .data, .data, .sentinel, .sentinel], laidTests := true, laidLooks := .later }
def FnRowKeepCardSaid : Prop := Claim7.holds Tryd.pinned (.plain (OpenSpec.ofChange fnRowKeepSpec)) fnRowKeepCard

/-- THE TIED CARD OF 'laws.FnShapeSwap'. -/
def fnShapeSwapCard : Claim7 := { stood := { row := fnShapeSwapRow, standIns := [], harness := (true, "b40a9e7f362d632174be38b4deb3fd27c62c52551a4da2f0e07b1f787f5e05c7"), looks := true }, kinds := [], alts := [], laidByText := true, laidKinds := [.data, .data, .data, .sentinel, .sentinel], laidTests := true, laidLooks := .later }
def FnShapeSwapCardSaid : Prop := Claim7.holds Tryd.pinned (.plain (OpenSpec.ofChange fnShapeSwapSpec)) fnShapeSwapCard

/-- THE TIED CARD OF 'laws.FnRow'. -/
def fnRowCard : Claim7 := { stood := { row := fnRowRow, standIns := [], harness := (true, "b40a9e7f362d632174be38b4deb3fd27c62c52551a4da2f0e07b1f787f5e05c7"), looks := true }, kinds := [], alts := [], laidByText := true, laidKinds := [.data, .data, .data, .sentinel, .sentinel], laidTests := true, laidLooks := .later }
def FnRowCardSaid : Prop := Claim7.holds Tryd.pinned (.plain (OpenSpec.ofChange fnRowSpec)) fnRowCard

/-- THE TIED CARD OF 'laws.FnExactRowDo'. -/
def fnExactRowDoCard : Claim7 := { stood := { row := fnExactRowDoRow, standIns := [], harness := (true, "b40a9e7f362d632174be38b4deb3fd27c62c52551a4da2f0e07b1f787f5e05c7"), looks := true }, kinds := [], alts := [], laidByText := true, laidKinds := [.data, .data, .data, .sentinel, .sentinel], laidTests := true, laidLooks := .later }
def FnExactRowDoCardSaid : Prop := Claim7.holds Tryd.pinned (.plain (OpenSpec.ofChange fnExactRowDoSpec)) fnExactRowDoCard

/-- THE TIED CARD OF 'laws.FnRowAll'. -/
def fnRowAllCard : Claim7 := { stood := { row := fnRowAllRow, standIns := [], harness := (true, "b40a9e7f362d632174be38b4deb3fd27c62c52551a4da2f0e07b1f787f5e05c7"), looks := true }, kinds := [], alts := [], laidByText := true, laidKinds := [.data, .data, .data, .sentinel, .sentinel], laidTests := true, laidLooks := .later }
def FnRowAllCardSaid : Prop := Claim7.holds Tryd.pinned (.plain (OpenSpec.ofChange fnRowAllSpec)) fnRowAllCard

/-- THE TIED CARD OF 'laws.FnExactShapeAll'. -/
def fnExactShapeAllCard : Claim7 := { stood := { row := fnExactShapeAllRow, standIns := [], harness := (true, "b40a9e7f362d632174be38b4deb3fd27c62c52551a4da2f0e07b1f787f5e05c7"), looks := true }, kinds := [], alts := [], laidByText := true, laidKinds := [.data, .data, .data, .sentinel, .sentinel], laidTests := true, laidLooks := .later }
def FnExactShapeAllCardSaid : Prop := Claim7.holds Tryd.pinned (.plain (OpenSpec.ofChange fnExactShapeAllSpec)) fnExactShapeAllCard

/-- THE SECOND FORM's CARD OF 'laws.FnShapeNeed'. -/
def fnShapeNeedUptoCard : Claim7 := { stood := { row := fnShapeNeedUptoRow, standIns := [], harness := (true, "b40a9e7f362d632174be38b4deb3fd27c62c52551a4da2f0e07b1f787f5e05c7"), looks := true }, kinds := [], alts := [], laidByText := true, laidKinds := [.data, .data, .data, .sentinel, .sentinel], laidTests := true, laidLooks := .later }
def FnShapeNeedUptoCardSaid : Prop := Claim7.holds Tryd.pinned (.plain (OpenSpec.upto fnShapeNeedSpec)) fnShapeNeedUptoCard

/-- THE SECOND FORM's CARD OF 'laws.FnShapeBack'. -/
def fnShapeBackUptoCard : Claim7 := { stood := { row := fnShapeBackUptoRow, standIns := [], harness := (true, "b40a9e7f362d632174be38b4deb3fd27c62c52551a4da2f0e07b1f787f5e05c7"), looks := true }, kinds := [], alts := [], laidByText := true, laidKinds := [.data, .data, .data, .sentinel, .sentinel], laidTests := true, laidLooks := .later }
def FnShapeBackUptoCardSaid : Prop := Claim7.holds Tryd.pinned (.plain (OpenSpec.upto fnShapeBackSpec)) fnShapeBackUptoCard

/-- THE SECOND FORM's CARD OF 'laws.FnShapeTwice'. -/
def fnShapeTwiceUptoCard : Claim7 := { stood := { row := fnShapeTwiceUptoRow, standIns := [], harness := (true, "b40a9e7f362d632174be38b4deb3fd27c62c52551a4da2f0e07b1f787f5e05c7"), looks := true }, kinds := [], alts := [], laidByText := true, laidKinds := [.data, .data, .data, .sentinel, .sentinel], laidTests := true, laidLooks := .later }
def FnShapeTwiceUptoCardSaid : Prop := Claim7.holds Tryd.pinned (.plain (OpenSpec.upto fnShapeTwiceSpec)) fnShapeTwiceUptoCard

/-- THE SECOND FORM's CARD OF 'laws.FnShape'. -/
def fnShapeUptoCard : Claim7 := { stood := { row := fnShapeUptoRow, standIns := [], harness := (true, "b40a9e7f362d632174be38b4deb3fd27c62c52551a4da2f0e07b1f787f5e05c7"), looks := true }, kinds := [], alts := [], laidByText := true, laidKinds := [.data, .data, .data, .sentinel, .sentinel], laidTests := true, laidLooks := .later }
def FnShapeUptoCardSaid : Prop := Claim7.holds Tryd.pinned (.plain (OpenSpec.upto fnShapeSpec)) fnShapeUptoCard

/-- THE SECOND FORM's CARD OF 'laws.FnShapeAll'. -/
def fnShapeAllUptoCard : Claim7 := { stood := { row := fnShapeAllUptoRow, standIns := [], harness := (true, "b40a9e7f362d632174be38b4deb3fd27c62c52551a4da2f0e07b1f787f5e05c7"), looks := true }, kinds := [], alts := [], laidByText := true, laidKinds := [.data, .data, .data, .sentinel, .sentinel], laidTests := true, laidLooks := .later }
def FnShapeAllUptoCardSaid : Prop := Claim7.holds Tryd.pinned (.plain (OpenSpec.upto fnShapeAllSpec)) fnShapeAllUptoCard

/-- THE SECOND FORM's CARD OF 'laws.FnExactShapeDo'. -/
def fnExactShapeDoUptoCard : Claim7 := { stood := { row := fnExactShapeDoUptoRow, standIns := [], harness := (true, "b40a9e7f362d632174be38b4deb3fd27c62c52551a4da2f0e07b1f787f5e05c7"), looks := true }, kinds := [], alts := [], laidByText := true, laidKinds := [.data, .data, .data, .sentinel, .sentinel], laidTests := true, laidLooks := .later }
def FnExactShapeDoUptoCardSaid : Prop := Claim7.holds Tryd.pinned (.plain (OpenSpec.upto fnExactShapeDoSpec)) fnExactShapeDoUptoCard

/-- THE SECOND FORM's CARD OF 'laws.FnRowKeep'. -/
def fnRowKeepUptoCard : Claim7 := { stood := { row := fnRowKeepUptoRow, standIns := [], harness := (true, "b40a9e7f362d632174be38b4deb3fd27c62c52551a4da2f0e07b1f787f5e05c7"), looks := true }, kinds := [], alts := [], laidByText := true, laidKinds := [.data, .data, .data, .sentinel, .sentinel], laidTests := true, laidLooks := .later }
def FnRowKeepUptoCardSaid : Prop := Claim7.holds Tryd.pinned (.plain (OpenSpec.upto fnRowKeepSpec)) fnRowKeepUptoCard

/-- THE SECOND FORM's CARD OF 'laws.FnShapeSwap'. -/
def fnShapeSwapUptoCard : Claim7 := { stood := { row := fnShapeSwapUptoRow, standIns := [], harness := (true, "b40a9e7f362d632174be38b4deb3fd27c62c52551a4da2f0e07b1f787f5e05c7"), looks := true }, kinds := [], alts := [], laidByText := true, laidKinds := [.data, .data, .data, .sentinel, .sentinel], laidTests := true, laidLooks := .later }
def FnShapeSwapUptoCardSaid : Prop := Claim7.holds Tryd.pinned (.plain (OpenSpec.upto fnShapeSwapSpec)) fnShapeSwapUptoCard

/-- THE SECOND FORM's CARD OF 'laws.FnRow'. -/
def fnRowUptoCard : Claim7 := { stood := { row := fnRowUptoRow, standIns := [], harness := (true, "b40a9e7f362d632174be38b4deb3fd27c62c52551a4da2f0e07b1f787f5e05c7"), looks := true }, kinds := [], alts := [], laidByText := true, laidKinds := [.data, .data, .data, .sentinel, .sentinel], laidTests := true, laidLooks := .later }
def FnRowUptoCardSaid : Prop := Claim7.holds Tryd.pinned (.plain (OpenSpec.upto fnRowSpec)) fnRowUptoCard

/-- THE SECOND FORM's CARD OF 'laws.FnExactRowDo'. -/
def fnExactRowDoUptoCard : Claim7 := { stood := { row := fnExactRowDoUptoRow, standIns := [], harness := (true, "b40a9e7f362d632174be38b4deb3fd27c62c52551a4da2f0e07b1f787f5e05c7"), looks := true }, kinds := [], alts := [], laidByText := true, laidKinds := [.data, .data, .data, .sentinel, .sentinel], laidTests := true, laidLooks := .later }
def FnExactRowDoUptoCardSaid : Prop := Claim7.holds Tryd.pinned (.plain (OpenSpec.upto fnExactRowDoSpec)) fnExactRowDoUptoCard

/-- THE SECOND FORM's CARD OF 'laws.FnRowAll'. -/
def fnRowAllUptoCard : Claim7 := { stood := { row := fnRowAllUptoRow, standIns := [], harness := (true, "b40a9e7f362d632174be38b4deb3fd27c62c52551a4da2f0e07b1f787f5e05c7"), looks := true }, kinds := [], alts := [], laidByText := true, laidKinds := [.data, .data, .data, .sentinel, .sentinel], laidTests := true, laidLooks := .later }
def FnRowAllUptoCardSaid : Prop := Claim7.holds Tryd.pinned (.plain (OpenSpec.upto fnRowAllSpec)) fnRowAllUptoCard

/-- THE SECOND FORM's CARD OF 'laws.FnExactShapeAll'. -/
def fnExactShapeAllUptoCard : Claim7 := { stood := { row := fnExactShapeAllUptoRow, standIns := [], harness := (true, "b40a9e7f362d632174be38b4deb3fd27c62c52551a4da2f0e07b1f787f5e05c7"), looks := true }, kinds := [], alts := [], laidByText := true, laidKinds := [.data, .data, .data, .sentinel, .sentinel], laidTests := true, laidLooks := .later }
def FnExactShapeAllUptoCardSaid : Prop := Claim7.holds Tryd.pinned (.plain (OpenSpec.upto fnExactShapeAllSpec)) fnExactShapeAllUptoCard
end Rows
end Go.Proofs.YtegjajojckbkjaaDoor
