/-
  DERIVED. GIVEN WITH THE SEED: THE CARDS: each row of YtddefkbmiicnbaaDoorRows.lean that lists a variable, with what it lists TIED to the program's text (the seventh form; the later family's looks); each row that meets fmt, with fmt's text TOLD by the authors' own Lean function (tested against real Go, not proved from fmt's source: count such statements apart). THE CARD IS WHAT COUNTS. Prove the row's statement (the work); the ties are given (YtddefkbmiicnbaaDoorTie.lean); close each card by the builder's one call (the guide's Derived/Test/ToyasCard.lean, 'card_holds'). Laid BY PROGRAM, IN A SANDBOX (cutbox-door.mjs). By AI agents, Wed Nov 11 2026. No macro, syntax, notation, axiom, sorry.
-/
import Derived.Test.YtddefkbmiicnbaaDoorRows
import GoSem.ClaimSeven
namespace Go.Proofs.YtddefkbmiicnbaaDoor
namespace Rows

/-- THE TIED CARD OF 'laws.FnExactRowAll'. -/
def fnExactRowAllCard : Claim7 := { stood := { row := fnExactRowAllRow, standIns := [], harness := (true, "56c48240172b6a7456866b484707d611f2b758edbccc3b645f5d281ab91c5360"), looks := true }, kinds := [], alts := [], laidByText := true, laidKinds := [.data, .data, .data, .sentinel, .sentinel], laidTests := true, laidLooks := .later }
def FnExactRowAllCardSaid : Prop := Claim7.holds Tryd.pinned (.plain (OpenSpec.ofChange fnExactRowAllSpec)) fnExactRowAllCard

/-- THE SECOND FORM's CARD OF 'laws.FnExactRowAll'. -/
def fnExactRowAllUptoCard : Claim7 := { stood := { row := fnExactRowAllUptoRow, standIns := [], harness := (true, "56c48240172b6a7456866b484707d611f2b758edbccc3b645f5d281ab91c5360"), looks := true }, kinds := [], alts := [], laidByText := true, laidKinds := [.data, .data, .data, .sentinel, .sentinel], laidTests := true, laidLooks := .later }
def FnExactRowAllUptoCardSaid : Prop := Claim7.holds Tryd.pinned (.plain (OpenSpec.upto fnExactRowAllSpec)) fnExactRowAllUptoCard
end Rows
end Go.Proofs.YtddefkbmiicnbaaDoor
