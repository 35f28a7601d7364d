/-
  DERIVED. GIVEN WITH THE SEED: THE CARDS: each row of YtegnaiffnkklpaaDoorRows.lean that lists a variable, with what it lists TIED to the program's text (the seventh form; the later family's looks); each row that meets fmt, with fmt's text TOLD by the authors' own Lean function (tested against real Go, not proved from fmt's source: count such statements apart). THE CARD IS WHAT COUNTS. Prove the row's statement (the work); the ties are given (YtegnaiffnkklpaaDoorTie.lean); close each card by the builder's one call (the guide's Derived/Test/ToyasCard.lean, 'card_holds'). Laid BY PROGRAM, IN A SANDBOX (cutbox-door.mjs). By AI agents, Wed Nov 11 2026. No macro, syntax, notation, axiom, sorry.
-/
import Derived.Test.YtegnaiffnkklpaaDoorRows
import GoSem.ClaimSeven
namespace Go.Proofs.YtegnaiffnkklpaaDoor
namespace Rows

/-- THE TIED CARD OF 'serinettelaw02.WrapTurns'. -/
def wrapTurnsCard : Claim7 := { stood := { row := wrapTurnsRow, standIns := [], harness := (true, "b94ba8564ccf53fdcefb16da88d14bbbcbfbb9baa22bd2331e11ddb11ea69f26"), looks := true }, kinds := [], alts := [], laidByText := true, laidKinds := [.data, .data, .data], laidTests := true, laidLooks := .later }
def WrapTurnsCardSaid : Prop := Claim7.holds Tryd.pinned (.plain (OpenSpec.ofChange wrapTurnsSpec)) wrapTurnsCard

/-- THE TIED CARD OF 'serinettelaw02.FormatParses'. -/
def formatParsesCard : Claim7 := { stood := { row := formatParsesRow, standIns := [], harness := (true, "b94ba8564ccf53fdcefb16da88d14bbbcbfbb9baa22bd2331e11ddb11ea69f26"), looks := true }, kinds := [], alts := [], laidByText := true, laidKinds := [.data, .data, .data, .data, .sentinel, .sentinel, .pinned], laidTests := true, laidLooks := .later }
def FormatParsesCardSaid : Prop := Claim7.holds Tryd.pinned (.plain (OpenSpec.ofChange formatParsesSpec)) formatParsesCard

/-- THE SECOND FORM's CARD OF 'serinettelaw02.WrapTurns'. -/
def wrapTurnsUptoCard : Claim7 := { stood := { row := wrapTurnsUptoRow, standIns := [], harness := (true, "b94ba8564ccf53fdcefb16da88d14bbbcbfbb9baa22bd2331e11ddb11ea69f26"), looks := true }, kinds := [], alts := [], laidByText := true, laidKinds := [.data, .data, .data], laidTests := true, laidLooks := .later }
def WrapTurnsUptoCardSaid : Prop := Claim7.holds Tryd.pinned (.plain (OpenSpec.upto wrapTurnsSpec)) wrapTurnsUptoCard

/-- THE SECOND FORM's CARD OF 'serinettelaw02.FormatParses'. -/
def formatParsesUptoCard : Claim7 := { stood := { row := formatParsesUptoRow, standIns := [], harness := (true, "b94ba8564ccf53fdcefb16da88d14bbbcbfbb9baa22bd2331e11ddb11ea69f26"), looks := true }, kinds := [], alts := [], laidByText := true, laidKinds := [.data, .data, .data, .data, .sentinel, .sentinel, .pinned], laidTests := true, laidLooks := .later }
def FormatParsesUptoCardSaid : Prop := Claim7.holds Tryd.pinned (.plain (OpenSpec.upto formatParsesSpec)) formatParsesUptoCard
end Rows
end Go.Proofs.YtegnaiffnkklpaaDoor
