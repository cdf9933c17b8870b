/- A start that fits: where its variables' data lie. -/
import Derived.Test.YtfmaapbibmnfgaaGreatDoorCFx
namespace Go.Proofs.YtfmaapbibmnfgaaGreatDoor
open Go.ChangeShapes Go.WideShapes Go.ChangeAt Go.RowKit
set_option maxRecDepth 1000000 in
theorem lm2 (os : Os) (args : Array Value) : (DataW.laidRun Tryz.prog (lwM os args) 8 (Rows.consoleNilRow.laid.map (·.1))).map (fun x => decide x.2.Nodup && laidRowsB Tryz.prog (lwM os args) x.2) = some true := by kernel_rfl
theorem laid_met (os : Os) (args : Array Value) : laidMet Tryz.prog Rows.consoleNilRow.laid ((laidWorld os).forCall (fun _ _ => 0) ⟨#[], args, []⟩).memory :=
  laidMet_of_run' 8 (lm1 os args) (lm2 os args)
end Go.Proofs.YtfmaapbibmnfgaaGreatDoor
set_option linter.unusedSectionVars false
set_option linter.unusedVariables false
set_option linter.unusedSimpArgs false
