/- What is asked of the text that ConsoleNil reaches, fact by fact: where it goes. -/
import Derived.Test.YtfmaapbibmnfgaaGreatDoorCFo
import Derived.ProofKit
import Derived.Test.YtfmaapbibmnfgaaGreatDoorCGk
import Derived.Test.YtfmaapbibmnfgaaGreatDoorCGm
namespace Go.Proofs.YtfmaapbibmnfgaaGreatDoor
open Go
set_option maxRecDepth 100000
theorem cn_goB : (Tryz.prog.unfollowed 3 && Tryz.prog.funcs.any Func.goes) = false := by
  have h : Tryz.prog.funcs.any Func.goes = false := by as_aux_lemma => kernel_rfl
  rw [h, Bool.and_false]
theorem cn_goes : false = Rows.consoleNilRow.goesBy Tryz.pinned.checked.prog := by
  have e : Rows.consoleNilRow.goesBy Tryz.prog = (Tryz.prog.funcNamed "guidepost/guidepostlaw26.ConsoleNil").any Tryz.prog.goes := by unfold OpenClaim.goesBy Program.goesAt Program.goesFrom; exact Bool.or_false _
  exact (e.trans (by rw [cn_funcNamed, Option.any_some, Program.goes, cn_goA, cn_goB, Bool.or_false])).symm
end Go.Proofs.YtfmaapbibmnfgaaGreatDoor
set_option linter.unusedSectionVars false
set_option linter.unusedVariables false
set_option linter.unusedSimpArgs false
