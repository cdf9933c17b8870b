/- The law's known rows, reckoned by the kernel. -/
import Derived.Test.YtfmaapbibmnfgaaGreatDoorEvLd
set_option linter.unusedSectionVars false
set_option linter.unusedVariables false
set_option linter.unusedSimpArgs false
namespace Go.Proofs.YtfmaapbibmnfgaaGreatDoor
open Go Go.Proofs.YtfmaapbibmnfgaaGreatDoor.Ev
set_option maxRecDepth 1000000
theorem run13 : allTrue (ev Tryz.prog cfS 1000000 (.call 13 []) st0) = true := by kernel_rfl
end Go.Proofs.YtfmaapbibmnfgaaGreatDoor
