/-
  DERIVED. GIVEN WITH THE SEED: THE CARDS: each row of YtodknhldemgneaaDoorRows.lean that lists a variable, with what it lists TIED to the program's text (the seventh form; the later family's looks); each row that meets fmt, with fmt's text TOLD by the authors' own Lean function (tested against real Go, not proved from fmt's source: count such statements apart). THE CARD IS WHAT COUNTS. Prove the row's statement (the work); the ties are given (YtodknhldemgneaaDoorTie.lean); close each card by the builder's one call (the guide's Derived/Test/ToyasCard.lean, 'card_holds'). Laid BY PROGRAM, IN A SANDBOX (cutbox-door.mjs). By AI agents, Wed Nov 11 2026. No macro, syntax, notation, axiom, sorry.
-/
import Derived.Test.YtodknhldemgneaaDoorRows
import GoSem.ClaimSeven
namespace Go.Proofs.YtodknhldemgneaaDoor
namespace Rows

/-- THE TIED CARD OF 'laws.FnExactValText'. -/
def fnExactValTextCard : Claim7 := { stood := { row := fnExactValTextRow, standIns := [], harness := (true, "28b72acd260423560f5285f5f2e4257894b8a4487542f3460846e7cb9d99314c"), looks := true }, kinds := [], alts := [], laidByText := true, laidKinds := [.data, .data, .data], laidTests := true, laidLooks := .later }
def FnExactValTextCardSaid : Prop := Claim7.holds Tryd.pinned (.plain (OpenSpec.ofChange fnExactValTextSpec)) fnExactValTextCard

/-- THE TIED CARD OF 'laws.FnExactValAs'. -/
def fnExactValAsCard : Claim7 := { stood := { row := fnExactValAsRow, standIns := [], harness := (true, "28b72acd260423560f5285f5f2e4257894b8a4487542f3460846e7cb9d99314c"), looks := true }, kinds := [], alts := [], laidByText := true, laidKinds := [.data, .data, .data, .sentinel, .sentinel], laidTests := true, laidLooks := .later }
def FnExactValAsCardSaid : Prop := Claim7.holds Tryd.pinned (.plain (OpenSpec.ofChange fnExactValAsSpec)) fnExactValAsCard

/-- THE TIED CARD OF 'laws.FnExactValRead'. -/
def fnExactValReadCard : Claim7 := { stood := { row := fnExactValReadRow, standIns := [], harness := (true, "28b72acd260423560f5285f5f2e4257894b8a4487542f3460846e7cb9d99314c"), looks := true }, kinds := [], alts := [], laidByText := true, laidKinds := [.data, .data, .data, .sentinel, .sentinel], laidTests := true, laidLooks := .later }
def FnExactValReadCardSaid : Prop := Claim7.holds Tryd.pinned (.plain (OpenSpec.ofChange fnExactValReadSpec)) fnExactValReadCard

/-- THE TIED CARD OF 'laws.FnValAs'. -/
def fnValAsCard : Claim7 := { stood := { row := fnValAsRow, standIns := [], harness := (true, "28b72acd260423560f5285f5f2e4257894b8a4487542f3460846e7cb9d99314c"), looks := true }, kinds := [], alts := [], laidByText := true, laidKinds := [.data, .data, .data, .sentinel, .sentinel], laidTests := true, laidLooks := .later }
def FnValAsCardSaid : Prop := Claim7.holds Tryd.pinned (.plain (OpenSpec.ofChange fnValAsSpec)) fnValAsCard

/-- THE TIED CARD OF 'laws.FnValTurn'. -/
def fnValTurnCard : Claim7 := { stood := { row := fnValTurnRow, standIns := [], harness := (true, "28b72acd260423560f5285f5f2e4257894b8a4487542f3460846e7cb9d99314c"), looks := true }, kinds := [], alts := [], laidByText := true, laidKinds := [.data, .data, .data, .sentinel, .sentinel], laidTests := true, laidLooks := .later }
def FnValTurnCardSaid : Prop := Claim7.holds Tryd.pinned (.plain (OpenSpec.ofChange fnValTurnSpec)) fnValTurnCard

/-- THE TIED CARD OF 'laws.FnValNum'. -/
def fnValNumCard : Claim7 := { stood := { row := fnValNumRow, standIns := [], harness := (true, "28b72acd260423560f5285f5f2e4257894b8a4487542f3460846e7cb9d99314c"), looks := true }, kinds := [], alts := [], laidByText := true, laidKinds := [.data, .data, .data, .sentinel, .sentinel], laidTests := true, laidLooks := .later }
def FnValNumCardSaid : Prop := Claim7.holds Tryd.pinned (.plain (OpenSpec.ofChange fnValNumSpec)) fnValNumCard

/-- THE TIED CARD OF 'laws.FnVal'. -/
def fnValCard : Claim7 := { stood := { row := fnValRow, standIns := [], harness := (true, "28b72acd260423560f5285f5f2e4257894b8a4487542f3460846e7cb9d99314c"), looks := true }, kinds := [], alts := [], laidByText := true, laidKinds := [.data, .data, .data, .sentinel, .sentinel], laidTests := true, laidLooks := .later }
def FnValCardSaid : Prop := Claim7.holds Tryd.pinned (.plain (OpenSpec.ofChange fnValSpec)) fnValCard

/-- THE SECOND FORM's CARD OF 'laws.FnExactValText'. -/
def fnExactValTextUptoCard : Claim7 := { stood := { row := fnExactValTextUptoRow, standIns := [], harness := (true, "28b72acd260423560f5285f5f2e4257894b8a4487542f3460846e7cb9d99314c"), looks := true }, kinds := [], alts := [], laidByText := true, laidKinds := [.data, .data, .data], laidTests := true, laidLooks := .later }
def FnExactValTextUptoCardSaid : Prop := Claim7.holds Tryd.pinned (.plain (OpenSpec.upto fnExactValTextSpec)) fnExactValTextUptoCard

/-- THE SECOND FORM's CARD OF 'laws.FnExactValAs'. -/
def fnExactValAsUptoCard : Claim7 := { stood := { row := fnExactValAsUptoRow, standIns := [], harness := (true, "28b72acd260423560f5285f5f2e4257894b8a4487542f3460846e7cb9d99314c"), looks := true }, kinds := [], alts := [], laidByText := true, laidKinds := [.data, .data, .data, .sentinel, .sentinel], laidTests := true, laidLooks := .later }
def FnExactValAsUptoCardSaid : Prop := Claim7.holds Tryd.pinned (.plain (OpenSpec.upto fnExactValAsSpec)) fnExactValAsUptoCard

/-- THE SECOND FORM's CARD OF 'laws.FnExactValRead'. -/
def fnExactValReadUptoCard : Claim7 := { stood := { row := fnExactValReadUptoRow, standIns := [], harness := (true, "28b72acd260423560f5285f5f2e4257894b8a4487542f3460846e7cb9d99314c"), looks := true }, kinds := [], alts := [], laidByText := true, laidKinds := [.data, .data, .data, .sentinel, .sentinel], laidTests := true, laidLooks := .later }
def FnExactValReadUptoCardSaid : Prop := Claim7.holds Tryd.pinned (.plain (OpenSpec.upto fnExactValReadSpec)) fnExactValReadUptoCard

/-- THE SECOND FORM's CARD OF 'laws.FnValAs'. -/
def fnValAsUptoCard : Claim7 := { stood := { row := fnValAsUptoRow, standIns := [], harness := (true, "28b72acd260423560f5285f5f2e4257894b8a4487542f3460846e7cb9d99314c"), looks := true }, kinds := [], alts := [], laidByText := true, laidKinds := [.data, .data, .data, .sentinel, .sentinel], laidTests := true, laidLooks := .later }
def FnValAsUptoCardSaid : Prop := Claim7.holds Tryd.pinned (.plain (OpenSpec.upto fnValAsSpec)) fnValAsUptoCard

/-- THE SECOND FORM's CARD OF 'laws.FnValTurn'. -/
def fnValTurnUptoCard : Claim7 := { stood := { row := fnValTurnUptoRow, standIns := [], harness := (true, "28b72acd260423560f5285f5f2e4257894b8a4487542f3460846e7cb9d99314c"), looks := true }, kinds := [], alts := [], laidByText := true, laidKinds := [.data, .data, .data, .sentinel, .sentinel], laidTests := true, laidLooks := .later }
def FnValTurnUptoCardSaid : Prop := Claim7.holds Tryd.pinned (.plain (OpenSpec.upto fnValTurnSpec)) fnValTurnUptoCard

/-- THE SECOND FORM's CARD OF 'laws.FnValNum'. -/
def fnValNumUptoCard : Claim7 := { stood := { row := fnValNumUptoRow, standIns := [], harness := (true, "28b72acd260423560f5285f5f2e4257894b8a4487542f3460846e7cb9d99314c"), looks := true }, kinds := [], alts := [], laidByText := true, laidKinds := [.data, .data, .data, .sentinel, .sentinel], laidTests := true, laidLooks := .later }
def FnValNumUptoCardSaid : Prop := Claim7.holds Tryd.pinned (.plain (OpenSpec.upto fnValNumSpec)) fnValNumUptoCard

/-- THE SECOND FORM's CARD OF 'laws.FnVal'. -/
def fnValUptoCard : Claim7 := { stood := { row := fnValUptoRow, standIns := [], harness := (true, "28b72acd260423560f5285f5f2e4257894b8a4487542f3460846e7cb9d99314c"), looks := true }, kinds := [], alts := [], laidByText := true, laidKinds := [.data, .data, .data, .sentinel, .sentinel], laidTests := true, laidLooks := .later }
def FnValUptoCardSaid : Prop := Claim7.holds Tryd.pinned (.plain (OpenSpec.upto fnValSpec)) fnValUptoCard
end Rows
end Go.Proofs.YtodknhldemgneaaDoor
