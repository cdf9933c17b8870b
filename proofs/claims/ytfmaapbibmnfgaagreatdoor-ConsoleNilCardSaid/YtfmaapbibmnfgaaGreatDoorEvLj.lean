/- The law's run, reckoned by the kernel. -/
import Derived.Test.YtfmaapbibmnfgaaGreatDoorEvLi
set_option linter.unusedSectionVars false
set_option linter.unusedVariables false
set_option linter.unusedSimpArgs false
namespace Go.Proofs.YtfmaapbibmnfgaaGreatDoor
open Go Go.Proofs.YtfmaapbibmnfgaaGreatDoor.Ev Go.RowKit
set_option maxRecDepth 1000000
noncomputable def rs3 : List ResultVar := ((Tryz.prog.funcs[3]?).map (·.results.toList)).getD []
theorem run3 : allTrue (valR (finsA Tryz.prog [] rs3 (body3 ⟨UF, []⟩ st0))) = true := by kernel_rfl
end Go.Proofs.YtfmaapbibmnfgaaGreatDoor
