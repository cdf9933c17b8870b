/- What is asked of the text that ConsoleNil reaches, fact by fact: main, what it looks at. -/
import Derived.Test.YtfmaapbibmnfgaaGreatDoorCFo
import Derived.ProofKit
namespace Go.Proofs.YtfmaapbibmnfgaaGreatDoor
open Go
set_option maxRecDepth 100000
theorem cn_main : Tryz.pinned.checked.prog.mainIs = some (Rows.consoleNilCard.stood.harness.1, Rows.consoleNilCard.stood.harness.2.toList) := by kernel_rfl
theorem cn_looks : true = Tryz.pinned.checked.prog.looks [] := by kernel_rfl
end Go.Proofs.YtfmaapbibmnfgaaGreatDoor
set_option linter.unusedSectionVars false
set_option linter.unusedVariables false
set_option linter.unusedSimpArgs false
