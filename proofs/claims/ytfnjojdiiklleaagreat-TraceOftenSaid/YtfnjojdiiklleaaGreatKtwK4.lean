/- What the known calls 22 to 28 of the run come to. -/
import Derived.Test.YtfnjojdiiklleaaGreatKtwCfg
import Derived.KernelRfl
namespace Go.Proofs.YtfnjojdiiklleaaGreat.Ktw
open Go.Proofs.YtfnjojdiiklleaaGreat Go.Proofs.YtfnjojdiiklleaaGreat.Ev
set_option maxRecDepth 100000
theorem wf22 : wfKn kn22 = true := by decide +kernel
theorem run22 : fevK Tryz.prog runCf [] 1000000 (.call kn22.f kn22.args) kn22.s = .one (.val kn22.v, kn22.s') := by kernel_rfl
theorem wf23 : wfKn kn23 = true := by decide +kernel
theorem run23 : fevK Tryz.prog runCf [] 1000000 (.call kn23.f kn23.args) kn23.s = .one (.val kn23.v, kn23.s') := by kernel_rfl
theorem wf24 : wfKn kn24 = true := by decide +kernel
theorem run24 : fevK Tryz.prog runCf [] 1000000 (.call kn24.f kn24.args) kn24.s = .one (.val kn24.v, kn24.s') := by kernel_rfl
theorem wf25 : wfKn kn25 = true := by decide +kernel
theorem run25 : fevK Tryz.prog runCf [] 1000000 (.call kn25.f kn25.args) kn25.s = .one (.val kn25.v, kn25.s') := by kernel_rfl
theorem wf26 : wfKn kn26 = true := by decide +kernel
theorem run26 : fevK Tryz.prog runCf [] 1000000 (.call kn26.f kn26.args) kn26.s = .one (.val kn26.v, kn26.s') := by kernel_rfl
theorem wf27 : wfKn kn27 = true := by decide +kernel
theorem run27 : fevK Tryz.prog runCf [] 1000000 (.call kn27.f kn27.args) kn27.s = .one (.val kn27.v, kn27.s') := by kernel_rfl
theorem wf28 : wfKn kn28 = true := by decide +kernel
theorem run28 : fevK Tryz.prog runCf [] 1000000 (.call kn28.f kn28.args) kn28.s = .one (.val kn28.v, kn28.s') := by kernel_rfl
end Go.Proofs.YtfnjojdiiklleaaGreat.Ktw
