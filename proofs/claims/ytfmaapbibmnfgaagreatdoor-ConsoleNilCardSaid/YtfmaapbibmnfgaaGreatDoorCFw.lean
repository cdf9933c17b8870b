/- What the row lists of package-level variables: an error. -/
import Derived.Test.YtfmaapbibmnfgaaGreatDoorRows
import Derived.Test.YtfmaapbibmnfgaaGreatDoorCards
import Derived.ProofKit
import Derived.OpenShut
import Derived.ShutString
import Derived.ChangeOld
import Derived.Deep.DeepHandedRow
import Derived.Deep.DeepWitnessRowRef
import Derived.Lib.LaidTab
import Derived.Lib.LaidU8
import Derived.Lib.LaidIn
import Derived.Lib.SmallJoins
import Derived.SevenTiedAt
import Derived.Shelf.LaysM
import Derived.LaidSub
namespace Go.Proofs.YtfmaapbibmnfgaaGreatDoor
open Go.ChangeShapes Go.WideShapes Go.ChangeAt Go.RowKit

theorem env_syn {W : World} (hL : laidMetH Tryz.prog Rows.consoleNilRow.laid W) : ∃ t p, W.cell? ⟨1, 0, none⟩ = some (.iface t p) := by
  have hM : laidMet Tryz.prog Rows.consoleNilRow.laid W := hL
  obtain ⟨ps, hv, _⟩ := hM.filter (fun x => x.1 == "strconv.ErrSyntax")
  obtain ⟨g, t, cs, fuel, p, q, e1, e2, e3, e4, _, _⟩ := (show DataW.LaidVars Tryz.prog W [("strconv.ErrSyntax", Rows.laid_strconv_ErrSyntax)] ps from hv)
  obtain rfl : 1 = g := Option.some.inj ((show Tryz.prog.globalNamed "strconv.ErrSyntax" = some 1 by kernel_rfl).symm.trans e1)
  obtain rfl : 54 = t := Option.some.inj ((show (Tryz.prog.globals[1]?).map (·.type) = some 54 by kernel_rfl).symm.trans e2)
  obtain ⟨_, u, x, hcs, _⟩ := iface_of_trod Tryz.underlying54 e4
  refine ⟨u, x, ?_⟩
  rw [World.var?_cell e1 e3 0, ← Array.getElem?_toList, hcs]; rfl
end Go.Proofs.YtfmaapbibmnfgaaGreatDoor
set_option linter.unusedSectionVars false
set_option linter.unusedVariables false
set_option linter.unusedSimpArgs false
