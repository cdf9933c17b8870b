/- What is asked of the text that ConsoleNil reaches, fact by fact: what kind of function it is. -/
import Derived.Test.YtfmaapbibmnfgaaGreatDoorCFo
import Derived.ProofKit
namespace Go.Proofs.YtfmaapbibmnfgaaGreatDoor
open Go
set_option maxRecDepth 100000
theorem cn_inst : Tryz.f3.isInstance Tryz.prog Rows.consoleNilRow.origin Rows.consoleNilRow.targs := of_decide_eq_true (by kernel_rfl)
theorem cn_wrap : Tryz.f3.isWrapper Tryz.prog Rows.consoleNilRow.wrapper Rows.consoleNilRow.mainSum := by unfold Func.isWrapper; first | (rw [if_pos (by decide +kernel)]; kernel_rfl) | (rw [if_neg (by decide +kernel)]; exact ⟨rfl, rfl⟩)
end Go.Proofs.YtfmaapbibmnfgaaGreatDoor
set_option linter.unusedSectionVars false
set_option linter.unusedVariables false
set_option linter.unusedSimpArgs false
