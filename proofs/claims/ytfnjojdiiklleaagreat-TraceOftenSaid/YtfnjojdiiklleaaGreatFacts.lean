/- What is asked of the whole program: facts of its text, each reckoned alone. -/
import Derived.Test.YtfnjojdiiklleaaGreatRows
import Derived.ProofKit
namespace Go.Proofs.YtfnjojdiiklleaaGreat
set_option maxRecDepth 100000
theorem and_t {a b : Bool} (ha : a = true) (hb : b = true) : (a && b) = true := by rw [ha, hb]; rfl
theorem own : ownKnob Tryz.prog.godebug = none := by kernel_rfl
theorem fact_rowed : mapsRowed Tryz.prog = true := by kernel_rfl
theorem fact_heard : Tryz.prog.stopsHeard = true := by kernel_rfl
theorem fact_enter : Tryz.prog.mayEnter = true := by kernel_rfl
theorem fact_laid : laidOutB Tryz.prog = true := by kernel_rfl
end Go.Proofs.YtfnjojdiiklleaaGreat
