/- The tie of the listed variables to the program's text, fact by fact: the names, and that the run ends. -/
import Derived.Test.YtfmaapbibmnfgaaGreatDoorCTa
import Derived.LaidByTextLater
import Derived.SevenTiedAt
import Derived.LaidSub
import Derived.KernelRfl
namespace Go.Proofs.YtfmaapbibmnfgaaGreatDoor
open Go
set_option maxRecDepth 100000
theorem ti_hn : varsNamedLaterB Tryz.prog (varsId Tryz.prog) tiL = true := by kernel_rfl
theorem ti_hd : ∀ os tape, varsDone Tryz.prog 400 (varsId Tryz.prog) os tape = true := fun _ _ => by kernel_rfl
end Go.Proofs.YtfmaapbibmnfgaaGreatDoor
set_option linter.unusedSectionVars false
set_option linter.unusedVariables false
set_option linter.unusedSimpArgs false
