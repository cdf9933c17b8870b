/- What is asked of the text that ConsoleNil reaches, fact by fact: all of them. -/
import Derived.Test.YtfmaapbibmnfgaaGreatDoorCFo
import Derived.ProofKit
import Derived.Test.YtfmaapbibmnfgaaGreatDoorCGa
import Derived.Test.YtfmaapbibmnfgaaGreatDoorCGb
import Derived.Test.YtfmaapbibmnfgaaGreatDoorCGc
import Derived.Test.YtfmaapbibmnfgaaGreatDoorCGd
import Derived.Test.YtfmaapbibmnfgaaGreatDoorCGe
import Derived.Test.YtfmaapbibmnfgaaGreatDoorCGf
import Derived.Test.YtfmaapbibmnfgaaGreatDoorCGg
import Derived.Test.YtfmaapbibmnfgaaGreatDoorCGh
import Derived.Test.YtfmaapbibmnfgaaGreatDoorCGi
import Derived.Test.YtfmaapbibmnfgaaGreatDoorCGj
namespace Go.Proofs.YtfmaapbibmnfgaaGreatDoor
open Go
set_option maxRecDepth 100000
theorem and_t {a b : Bool} (ha : a = true) (hb : b = true) : (a && b) = true := by rw [ha, hb]; rfl
theorem ly_t : (List.range Tryz.prog.types.size).all (rowFine Tryz.prog) = true := by
  rw [List.all_eq_true]
  intro i hi
  have hi := List.mem_range.1 hi
  by_cases h : i < 350
  · exact List.all_eq_true.1 ly_a i (List.mem_range'_1.2 ⟨Nat.zero_le _, by omega⟩)
  · exact List.all_eq_true.1 ly_b i (List.mem_range'_1.2 ⟨by omega, by omega⟩)
theorem fact_laid : laidOutB Tryz.prog = true := and_t (and_t ly_t ly_g) ly_f
theorem cn_facts : joinedFacts Tryz.prog 3 Tryz.f3 Rows.consoleNilSpec Rows.consoleNilRow = true := by
  unfold joinedFacts
  repeat' (with_reducible (apply and_t))
  all_goals first
    | with_reducible exact cn_wf
    | with_reducible exact fact_laid
    | with_reducible exact fact_rowed
    | with_reducible exact fact_heard
    | with_reducible exact fact_enter
    | with_reducible exact cn_inPlace
    | with_reducible exact cn_unfollowed
    | with_reducible exact cn_recurses
    | with_reducible exact cn_named
    | (as_aux_lemma => kernel_rfl)
end Go.Proofs.YtfmaapbibmnfgaaGreatDoor
set_option linter.unusedSectionVars false
set_option linter.unusedVariables false
set_option linter.unusedSimpArgs false
