/- A start that fits: what is read of its variables. -/
import Derived.Test.YtfmaapbibmnfgaaGreatDoorCFs
namespace Go.Proofs.YtfmaapbibmnfgaaGreatDoor
open Go.ChangeShapes Go.WideShapes Go.ChangeAt Go.RowKit
set_option maxRecDepth 1000000 in
theorem lm1 (os : Os) (args : Array Value) : (DataW.laidRun Tryz.prog (lwM os args) 8 (Rows.consoleNilRow.laid.map (·.1))).map (·.1) = some Rows.consoleNilRow.laid := by kernel_rfl
end Go.Proofs.YtfmaapbibmnfgaaGreatDoor
set_option linter.unusedSectionVars false
set_option linter.unusedVariables false
set_option linter.unusedSimpArgs false
