/- What the known calls 36 to 42 of the run come to. -/
import Derived.Test.YtfnjojdiiklleaaGreatKtwCfg
import Derived.KernelRfl
namespace Go.Proofs.YtfnjojdiiklleaaGreat.Ktw
open Go.Proofs.YtfnjojdiiklleaaGreat Go.Proofs.YtfnjojdiiklleaaGreat.Ev
set_option maxRecDepth 100000
theorem wf36 : wfKn kn36 = true := by decide +kernel
theorem run36 : fevK Tryz.prog runCf [] 1000000 (.call kn36.f kn36.args) kn36.s = .one (.val kn36.v, kn36.s') := by kernel_rfl
theorem wf37 : wfKn kn37 = true := by decide +kernel
theorem run37 : fevK Tryz.prog runCf [] 1000000 (.call kn37.f kn37.args) kn37.s = .one (.val kn37.v, kn37.s') := by kernel_rfl
theorem wf38 : wfKn kn38 = true := by decide +kernel
theorem run38 : fevK Tryz.prog runCf [] 1000000 (.call kn38.f kn38.args) kn38.s = .one (.val kn38.v, kn38.s') := by kernel_rfl
theorem wf39 : wfKn kn39 = true := by decide +kernel
theorem run39 : fevK Tryz.prog runCf [] 1000000 (.call kn39.f kn39.args) kn39.s = .one (.val kn39.v, kn39.s') := by kernel_rfl
theorem wf40 : wfKn kn40 = true := by decide +kernel
theorem run40 : fevK Tryz.prog runCf [] 1000000 (.call kn40.f kn40.args) kn40.s = .one (.val kn40.v, kn40.s') := by kernel_rfl
theorem wf41 : wfKn kn41 = true := by decide +kernel
theorem run41 : fevK Tryz.prog runCf [] 1000000 (.call kn41.f kn41.args) kn41.s = .one (.val kn41.v, kn41.s') := by kernel_rfl
theorem wf42 : wfKn kn42 = true := by decide +kernel
theorem run42 : fevK Tryz.prog runCf [] 1000000 (.call kn42.f kn42.args) kn42.s = .one (.val kn42.v, kn42.s') := by kernel_rfl
end Go.Proofs.YtfnjojdiiklleaaGreat.Ktw
