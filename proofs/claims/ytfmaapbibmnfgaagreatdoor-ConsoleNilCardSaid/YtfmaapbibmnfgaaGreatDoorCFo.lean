/- What the program's head says. -/
import Derived.Test.YtfmaapbibmnfgaaGreatDoorRows
import Derived.Test.YtfmaapbibmnfgaaGreatDoorCards
import Derived.ProofKit
import Derived.OpenShut
import Derived.ShutString
import Derived.ChangeOld
import Derived.Deep.DeepHandedRow
import Derived.Deep.DeepWitnessRowRef
import Derived.Lib.LaidTab
import Derived.Lib.LaidU8
import Derived.Lib.LaidIn
import Derived.Lib.SmallJoins
import Derived.SevenTiedAt
import Derived.Shelf.LaysM
import Derived.LaidSub
namespace Go.Proofs.YtfmaapbibmnfgaaGreatDoor
open Go.ChangeShapes Go.WideShapes Go.ChangeAt Go.RowKit

theorem own : ownKnob Tryz.prog.godebug = none := by kernel_rfl

end Go.Proofs.YtfmaapbibmnfgaaGreatDoor
set_option linter.unusedSectionVars false
set_option linter.unusedVariables false
set_option linter.unusedSimpArgs false
