/- What is asked of the text that ConsoleNil reaches, fact by fact: unfollowed. -/
import Derived.Test.YtfmaapbibmnfgaaGreatDoorCFo
import Derived.ProofKit
namespace Go.Proofs.YtfmaapbibmnfgaaGreatDoor
open Go
set_option maxRecDepth 100000
theorem cn_unfollowed : (Rows.consoleNilRow.unfollowed == Tryz.prog.unfollowed 3) = true := by kernel_rfl
end Go.Proofs.YtfmaapbibmnfgaaGreatDoor
set_option linter.unusedSectionVars false
set_option linter.unusedVariables false
set_option linter.unusedSimpArgs false
