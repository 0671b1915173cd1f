/-
  DERIVED. GIVEN WITH THE SEED: THE CARDS: each row of YtdijjjgplhbkkaaGreatDoorRows.lean that lists a variable, with what it lists TIED to the program's text (the seventh form; the later family's looks); each row that meets fmt, with fmt's text TOLD by the authors' own Lean function (tested against real Go, not proved from fmt's source: count such statements apart). THE CARD IS WHAT COUNTS. Prove the row's statement (the work); the ties are given (YtdijjjgplhbkkaaGreatDoorTie.lean); close each card by the builder's one call (the guide's Derived/Test/ToyasCard.lean, 'card_holds'). Laid BY PROGRAM, IN A SANDBOX (cutbox-door.mjs). By AI agents, Wed Nov 11 2026. No macro, syntax, notation, axiom, sorry.
-/
import Derived.Test.YtdijjjgplhbkkaaGreatDoorRows
import GoSem.ClaimSeven
namespace Go.Proofs.YtdijjjgplhbkkaaGreatDoor
namespace Rows

/-- THE TIED CARD OF 'laws.FnTableOnce'. -/
def fnTableOnceCard : Claim7 := { stood := { row := fnTableOnceRow, standIns := [], harness := (true, "1eb37b6cd1e508e17d775fdd66bb4d2638385bfc1f619e1145f2e09b3b5f18a4"), looks := true }, kinds := [], alts := [], laidByText := true, laidKinds := [.data, .data, .data, .sentinel, .sentinel], laidTests := true, laidLooks := .later }
def FnTableOnceCardSaid : Prop := Claim7.holds Tryz.pinned (.plain (OpenSpec.ofChange fnTableOnceSpec)) fnTableOnceCard

/-- THE TIED CARD OF 'laws.FnTableFind'. -/
def fnTableFindCard : Claim7 := { stood := { row := fnTableFindRow, standIns := [], harness := (true, "1eb37b6cd1e508e17d775fdd66bb4d2638385bfc1f619e1145f2e09b3b5f18a4"), looks := true }, kinds := [], alts := [], laidByText := true, laidKinds := [.data, .data, .data, .sentinel, .sentinel], laidTests := true, laidLooks := .later }
def FnTableFindCardSaid : Prop := Claim7.holds Tryz.pinned (.plain (OpenSpec.ofChange fnTableFindSpec)) fnTableFindCard

/-- THE TIED CARD OF 'laws.FnTableBent'. -/
def fnTableBentCard : Claim7 := { stood := { row := fnTableBentRow, standIns := [], harness := (true, "1eb37b6cd1e508e17d775fdd66bb4d2638385bfc1f619e1145f2e09b3b5f18a4"), looks := true }, kinds := [], alts := [], laidByText := true, laidKinds := [.data, .data, .data, .sentinel, .sentinel], laidTests := true, laidLooks := .later }
def FnTableBentCardSaid : Prop := Claim7.holds Tryz.pinned (.plain (OpenSpec.ofChange fnTableBentSpec)) fnTableBentCard

/-- THE TIED CARD OF 'laws.FnExactBaseOk'. -/
def fnExactBaseOkCard : Claim7 := { stood := { row := fnExactBaseOkRow, standIns := [], harness := (true, "1eb37b6cd1e508e17d775fdd66bb4d2638385bfc1f619e1145f2e09b3b5f18a4"), looks := true }, kinds := [], alts := [], laidByText := true, laidKinds := [.data, .data, .data, .sentinel, .sentinel], laidTests := true, laidLooks := .later }
def FnExactBaseOkCardSaid : Prop := Claim7.holds Tryz.pinned (.plain (OpenSpec.ofChange fnExactBaseOkSpec)) fnExactBaseOkCard

/-- THE TIED CARD OF 'laws.FnExactBaseDoomed'. -/
def fnExactBaseDoomedCard : Claim7 := { stood := { row := fnExactBaseDoomedRow, standIns := [], harness := (true, "1eb37b6cd1e508e17d775fdd66bb4d2638385bfc1f619e1145f2e09b3b5f18a4"), looks := true }, kinds := [], alts := [], laidByText := true, laidKinds := [.data, .data, .data, .sentinel, .sentinel], laidTests := true, laidLooks := .later }
def FnExactBaseDoomedCardSaid : Prop := Claim7.holds Tryz.pinned (.plain (OpenSpec.ofChange fnExactBaseDoomedSpec)) fnExactBaseDoomedCard

/-- THE TIED CARD OF 'laws.FnBaseDoomed'. -/
def fnBaseDoomedCard : Claim7 := { stood := { row := fnBaseDoomedRow, standIns := [], harness := (true, "1eb37b6cd1e508e17d775fdd66bb4d2638385bfc1f619e1145f2e09b3b5f18a4"), looks := true }, kinds := [], alts := [], laidByText := true, laidKinds := [.data, .data, .data, .sentinel, .sentinel], laidTests := true, laidLooks := .later }
def FnBaseDoomedCardSaid : Prop := Claim7.holds Tryz.pinned (.plain (OpenSpec.ofChange fnBaseDoomedSpec)) fnBaseDoomedCard

/-- THE TIED CARD OF 'laws.FnBaseBent'. -/
def fnBaseBentCard : Claim7 := { stood := { row := fnBaseBentRow, standIns := [], harness := (true, "1eb37b6cd1e508e17d775fdd66bb4d2638385bfc1f619e1145f2e09b3b5f18a4"), looks := true }, kinds := [], alts := [], laidByText := true, laidKinds := [.data, .data, .data, .sentinel, .sentinel], laidTests := true, laidLooks := .later }
def FnBaseBentCardSaid : Prop := Claim7.holds Tryz.pinned (.plain (OpenSpec.ofChange fnBaseBentSpec)) fnBaseBentCard

/-- THE TIED CARD OF 'laws.FnBaseDoomedOf'. -/
def fnBaseDoomedOfCard : Claim7 := { stood := { row := fnBaseDoomedOfRow, standIns := [], harness := (true, "1eb37b6cd1e508e17d775fdd66bb4d2638385bfc1f619e1145f2e09b3b5f18a4"), looks := true }, kinds := [], alts := [], laidByText := true, laidKinds := [.data, .data, .data, .sentinel, .sentinel], laidTests := true, laidLooks := .later }
def FnBaseDoomedOfCardSaid : Prop := Claim7.holds Tryz.pinned (.plain (OpenSpec.ofChange fnBaseDoomedOfSpec)) fnBaseDoomedOfCard

/-- THE TIED CARD OF 'laws.FnBaseLess'. -/
def fnBaseLessCard : Claim7 := { stood := { row := fnBaseLessRow, standIns := [], harness := (true, "1eb37b6cd1e508e17d775fdd66bb4d2638385bfc1f619e1145f2e09b3b5f18a4"), looks := true }, kinds := [], alts := [], laidByText := true, laidKinds := [.data, .data, .data, .sentinel, .sentinel], laidTests := true, laidLooks := .later }
def FnBaseLessCardSaid : Prop := Claim7.holds Tryz.pinned (.plain (OpenSpec.ofChange fnBaseLessSpec)) fnBaseLessCard

/-- THE SECOND FORM's CARD OF 'laws.FnTableOnce'. -/
def fnTableOnceUptoCard : Claim7 := { stood := { row := fnTableOnceUptoRow, standIns := [], harness := (true, "1eb37b6cd1e508e17d775fdd66bb4d2638385bfc1f619e1145f2e09b3b5f18a4"), looks := true }, kinds := [], alts := [], laidByText := true, laidKinds := [.data, .data, .data, .sentinel, .sentinel], laidTests := true, laidLooks := .later }
def FnTableOnceUptoCardSaid : Prop := Claim7.holds Tryz.pinned (.plain (OpenSpec.upto fnTableOnceSpec)) fnTableOnceUptoCard

/-- THE SECOND FORM's CARD OF 'laws.FnTableFind'. -/
def fnTableFindUptoCard : Claim7 := { stood := { row := fnTableFindUptoRow, standIns := [], harness := (true, "1eb37b6cd1e508e17d775fdd66bb4d2638385bfc1f619e1145f2e09b3b5f18a4"), looks := true }, kinds := [], alts := [], laidByText := true, laidKinds := [.data, .data, .data, .sentinel, .sentinel], laidTests := true, laidLooks := .later }
def FnTableFindUptoCardSaid : Prop := Claim7.holds Tryz.pinned (.plain (OpenSpec.upto fnTableFindSpec)) fnTableFindUptoCard

/-- THE SECOND FORM's CARD OF 'laws.FnTableBent'. -/
def fnTableBentUptoCard : Claim7 := { stood := { row := fnTableBentUptoRow, standIns := [], harness := (true, "1eb37b6cd1e508e17d775fdd66bb4d2638385bfc1f619e1145f2e09b3b5f18a4"), looks := true }, kinds := [], alts := [], laidByText := true, laidKinds := [.data, .data, .data, .sentinel, .sentinel], laidTests := true, laidLooks := .later }
def FnTableBentUptoCardSaid : Prop := Claim7.holds Tryz.pinned (.plain (OpenSpec.upto fnTableBentSpec)) fnTableBentUptoCard

/-- THE SECOND FORM's CARD OF 'laws.FnExactBaseOk'. -/
def fnExactBaseOkUptoCard : Claim7 := { stood := { row := fnExactBaseOkUptoRow, standIns := [], harness := (true, "1eb37b6cd1e508e17d775fdd66bb4d2638385bfc1f619e1145f2e09b3b5f18a4"), looks := true }, kinds := [], alts := [], laidByText := true, laidKinds := [.data, .data, .data, .sentinel, .sentinel], laidTests := true, laidLooks := .later }
def FnExactBaseOkUptoCardSaid : Prop := Claim7.holds Tryz.pinned (.plain (OpenSpec.upto fnExactBaseOkSpec)) fnExactBaseOkUptoCard

/-- THE SECOND FORM's CARD OF 'laws.FnExactBaseDoomed'. -/
def fnExactBaseDoomedUptoCard : Claim7 := { stood := { row := fnExactBaseDoomedUptoRow, standIns := [], harness := (true, "1eb37b6cd1e508e17d775fdd66bb4d2638385bfc1f619e1145f2e09b3b5f18a4"), looks := true }, kinds := [], alts := [], laidByText := true, laidKinds := [.data, .data, .data, .sentinel, .sentinel], laidTests := true, laidLooks := .later }
def FnExactBaseDoomedUptoCardSaid : Prop := Claim7.holds Tryz.pinned (.plain (OpenSpec.upto fnExactBaseDoomedSpec)) fnExactBaseDoomedUptoCard

/-- THE SECOND FORM's CARD OF 'laws.FnBaseDoomed'. -/
def fnBaseDoomedUptoCard : Claim7 := { stood := { row := fnBaseDoomedUptoRow, standIns := [], harness := (true, "1eb37b6cd1e508e17d775fdd66bb4d2638385bfc1f619e1145f2e09b3b5f18a4"), looks := true }, kinds := [], alts := [], laidByText := true, laidKinds := [.data, .data, .data, .sentinel, .sentinel], laidTests := true, laidLooks := .later }
def FnBaseDoomedUptoCardSaid : Prop := Claim7.holds Tryz.pinned (.plain (OpenSpec.upto fnBaseDoomedSpec)) fnBaseDoomedUptoCard

/-- THE SECOND FORM's CARD OF 'laws.FnBaseBent'. -/
def fnBaseBentUptoCard : Claim7 := { stood := { row := fnBaseBentUptoRow, standIns := [], harness := (true, "1eb37b6cd1e508e17d775fdd66bb4d2638385bfc1f619e1145f2e09b3b5f18a4"), looks := true }, kinds := [], alts := [], laidByText := true, laidKinds := [.data, .data, .data, .sentinel, .sentinel], laidTests := true, laidLooks := .later }
def FnBaseBentUptoCardSaid : Prop := Claim7.holds Tryz.pinned (.plain (OpenSpec.upto fnBaseBentSpec)) fnBaseBentUptoCard

/-- THE SECOND FORM's CARD OF 'laws.FnBaseDoomedOf'. -/
def fnBaseDoomedOfUptoCard : Claim7 := { stood := { row := fnBaseDoomedOfUptoRow, standIns := [], harness := (true, "1eb37b6cd1e508e17d775fdd66bb4d2638385bfc1f619e1145f2e09b3b5f18a4"), looks := true }, kinds := [], alts := [], laidByText := true, laidKinds := [.data, .data, .data, .sentinel, .sentinel], laidTests := true, laidLooks := .later }
def FnBaseDoomedOfUptoCardSaid : Prop := Claim7.holds Tryz.pinned (.plain (OpenSpec.upto fnBaseDoomedOfSpec)) fnBaseDoomedOfUptoCard

/-- THE SECOND FORM's CARD OF 'laws.FnBaseLess'. -/
def fnBaseLessUptoCard : Claim7 := { stood := { row := fnBaseLessUptoRow, standIns := [], harness := (true, "1eb37b6cd1e508e17d775fdd66bb4d2638385bfc1f619e1145f2e09b3b5f18a4"), looks := true }, kinds := [], alts := [], laidByText := true, laidKinds := [.data, .data, .data, .sentinel, .sentinel], laidTests := true, laidLooks := .later }
def FnBaseLessUptoCardSaid : Prop := Claim7.holds Tryz.pinned (.plain (OpenSpec.upto fnBaseLessSpec)) fnBaseLessUptoCard
end Rows
end Go.Proofs.YtdijjjgplhbkkaaGreatDoor
