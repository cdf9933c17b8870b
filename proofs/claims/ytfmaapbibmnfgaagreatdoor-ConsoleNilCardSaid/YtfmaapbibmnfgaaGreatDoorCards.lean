/-
  DERIVED. GIVEN WITH THE SEED: THE CARDS: each row of YtfmaapbibmnfgaaGreatDoorRows.lean that lists a variable, with what it lists TIED to the program's text (the seventh form; the later family's looks); each row that meets fmt, with fmt's text TOLD by the authors' own Lean function (tested against real Go, not proved from fmt's source: count such statements apart). THE CARD IS WHAT COUNTS. Prove the row's statement (the work); the ties are given (YtfmaapbibmnfgaaGreatDoorTie.lean); close each card by the builder's one call (the guide's Derived/Test/ToyasCard.lean, 'card_holds'). Laid BY PROGRAM, IN A SANDBOX (cutbox-door.mjs). By AI agents, Wed Nov 11 2026. No macro, syntax, notation, axiom, sorry.
-/
import Derived.Test.YtfmaapbibmnfgaaGreatDoorRows
import GoSem.ClaimSeven
namespace Go.Proofs.YtfmaapbibmnfgaaGreatDoor
namespace Rows

/-- THE TIED CARD OF 'guidepostlaw26.ConsoleNil'. -/
def consoleNilCard : Claim7 := { stood := { row := consoleNilRow, standIns := [], harness := (true, "421adaf78dd515496df80f4074e074938bfc649a7e177ba351a9d7aeca5ba021"), looks := true }, kinds := [], alts := [], laidByText := true, laidKinds := [.pinned, .data, .sentinel, .sentinel, .data, .data, .data], laidTests := true, laidLooks := .later }
def ConsoleNilCardSaid : Prop := Claim7.holds Tryz.pinned (.plain (OpenSpec.ofChange consoleNilSpec)) consoleNilCard

/-- THE SECOND FORM's CARD OF 'guidepostlaw26.ConsoleNil'. -/
def consoleNilUptoCard : Claim7 := { stood := { row := consoleNilUptoRow, standIns := [], harness := (true, "421adaf78dd515496df80f4074e074938bfc649a7e177ba351a9d7aeca5ba021"), looks := true }, kinds := [], alts := [], laidByText := true, laidKinds := [.pinned, .data, .sentinel, .sentinel, .data, .data, .data], laidTests := true, laidLooks := .later }
def ConsoleNilUptoCardSaid : Prop := Claim7.holds Tryz.pinned (.plain (OpenSpec.upto consoleNilSpec)) consoleNilUptoCard
end Rows
end Go.Proofs.YtfmaapbibmnfgaaGreatDoor
