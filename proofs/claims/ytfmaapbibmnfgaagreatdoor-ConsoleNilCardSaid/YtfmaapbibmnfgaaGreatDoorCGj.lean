/- What is asked of the text that ConsoleNil reaches, fact by fact: the types, second part. -/
import Derived.Test.YtfmaapbibmnfgaaGreatDoorCFo
import Derived.ProofKit
namespace Go.Proofs.YtfmaapbibmnfgaaGreatDoor
open Go
set_option maxRecDepth 100000
theorem ly_b : (List.range' 350 (Tryz.prog.types.size - 350)).all (rowFine Tryz.prog) = true := by kernel_rfl
end Go.Proofs.YtfmaapbibmnfgaaGreatDoor
set_option linter.unusedSectionVars false
set_option linter.unusedVariables false
set_option linter.unusedSimpArgs false
