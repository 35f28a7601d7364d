/-
  DERIVED. GIVEN WITH THE SEED: THE CARDS: each row of YtpkphcmnknjbeaaDoorRows.lean that lists a variable, with what it lists TIED to the program's text (the seventh form; the later family's looks); each row that meets fmt, with fmt's text TOLD by the authors' own Lean function (tested against real Go, not proved from fmt's source: count such statements apart). THE CARD IS WHAT COUNTS. Prove the row's statement (the work); the ties are given (YtpkphcmnknjbeaaDoorTie.lean); close each card by the builder's one call (the guide's Derived/Test/ToyasCard.lean, 'card_holds'). Laid BY PROGRAM, IN A SANDBOX (cutbox-door.mjs). By AI agents, Wed Nov 11 2026. No macro, syntax, notation, axiom, sorry.
-/
import Derived.Test.YtpkphcmnknjbeaaDoorRows
import GoSem.ClaimSeven
namespace Go.Proofs.YtpkphcmnknjbeaaDoor
namespace Rows

/-- THE TIED CARD OF 'serinettelaw02.FitKeeps'. -/
def fitKeepsCard : Claim7 := { stood := { row := fitKeepsRow, standIns := [], harness := (true, "672aff10940fbc8a22f5185dd35006c44d3abf19806b7a1dad44a5713e7c29bc"), looks := false }, kinds := [], alts := [], laidByText := true, laidKinds := [.data, .data, .data], laidTests := true, laidLooks := .later }
def FitKeepsCardSaid : Prop := Claim7.holds Tryd.pinned (.plain (OpenSpec.ofChange fitKeepsSpec)) fitKeepsCard

/-- THE TIED CARD OF 'serinettelaw02.WrapTurns'. -/
def wrapTurnsCard : Claim7 := { stood := { row := wrapTurnsRow, standIns := [], harness := (true, "672aff10940fbc8a22f5185dd35006c44d3abf19806b7a1dad44a5713e7c29bc"), looks := false }, kinds := [], alts := [], laidByText := true, laidKinds := [.data, .data, .data], laidTests := true, laidLooks := .later }
def WrapTurnsCardSaid : Prop := Claim7.holds Tryd.pinned (.plain (OpenSpec.ofChange wrapTurnsSpec)) wrapTurnsCard

/-- THE TIED CARD OF 'serinettelaw02.FormatSays'. -/
def formatSaysCard : Claim7 := { stood := { row := formatSaysRow, standIns := [], harness := (true, "672aff10940fbc8a22f5185dd35006c44d3abf19806b7a1dad44a5713e7c29bc"), looks := false }, kinds := [], alts := [], laidByText := true, laidKinds := [.data, .data, .data], laidTests := true, laidLooks := .later }
def FormatSaysCardSaid : Prop := Claim7.holds Tryd.pinned (.plain (OpenSpec.ofChange formatSaysSpec)) formatSaysCard

/-- THE SECOND FORM's CARD OF 'serinettelaw02.FitKeeps'. -/
def fitKeepsUptoCard : Claim7 := { stood := { row := fitKeepsUptoRow, standIns := [], harness := (true, "672aff10940fbc8a22f5185dd35006c44d3abf19806b7a1dad44a5713e7c29bc"), looks := false }, kinds := [], alts := [], laidByText := true, laidKinds := [.data, .data, .data], laidTests := true, laidLooks := .later }
def FitKeepsUptoCardSaid : Prop := Claim7.holds Tryd.pinned (.plain (OpenSpec.upto fitKeepsSpec)) fitKeepsUptoCard

/-- THE SECOND FORM's CARD OF 'serinettelaw02.WrapTurns'. -/
def wrapTurnsUptoCard : Claim7 := { stood := { row := wrapTurnsUptoRow, standIns := [], harness := (true, "672aff10940fbc8a22f5185dd35006c44d3abf19806b7a1dad44a5713e7c29bc"), looks := false }, kinds := [], alts := [], laidByText := true, laidKinds := [.data, .data, .data], laidTests := true, laidLooks := .later }
def WrapTurnsUptoCardSaid : Prop := Claim7.holds Tryd.pinned (.plain (OpenSpec.upto wrapTurnsSpec)) wrapTurnsUptoCard

/-- THE SECOND FORM's CARD OF 'serinettelaw02.FormatSays'. -/
def formatSaysUptoCard : Claim7 := { stood := { row := formatSaysUptoRow, standIns := [], harness := (true, "672aff10940fbc8a22f5185dd35006c44d3abf19806b7a1dad44a5713e7c29bc"), looks := false }, kinds := [], alts := [], laidByText := true, laidKinds := [.data, .data, .data], laidTests := true, laidLooks := .later }
def FormatSaysUptoCardSaid : Prop := Claim7.holds Tryd.pinned (.plain (OpenSpec.upto formatSaysSpec)) formatSaysUptoCard
end Rows
end Go.Proofs.YtpkphcmnknjbeaaDoor
