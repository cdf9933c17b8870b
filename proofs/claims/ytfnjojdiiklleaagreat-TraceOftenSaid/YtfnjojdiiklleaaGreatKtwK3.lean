/- What the known calls 15 to 21 of the run come to. -/
import Derived.Test.YtfnjojdiiklleaaGreatKtwCfg
import Derived.KernelRfl
namespace Go.Proofs.YtfnjojdiiklleaaGreat.Ktw
open Go.Proofs.YtfnjojdiiklleaaGreat Go.Proofs.YtfnjojdiiklleaaGreat.Ev
set_option maxRecDepth 100000
theorem wf15 : wfKn kn15 = true := by decide +kernel
theorem run15 : fevK Tryz.prog runCf [] 1000000 (.call kn15.f kn15.args) kn15.s = .one (.val kn15.v, kn15.s') := by kernel_rfl
theorem wf16 : wfKn kn16 = true := by decide +kernel
theorem run16 : fevK Tryz.prog runCf [] 1000000 (.call kn16.f kn16.args) kn16.s = .one (.val kn16.v, kn16.s') := by kernel_rfl
theorem wf17 : wfKn kn17 = true := by decide +kernel
theorem run17 : fevK Tryz.prog runCf [] 1000000 (.call kn17.f kn17.args) kn17.s = .one (.val kn17.v, kn17.s') := by kernel_rfl
theorem wf18 : wfKn kn18 = true := by decide +kernel
theorem run18 : fevK Tryz.prog runCf [] 1000000 (.call kn18.f kn18.args) kn18.s = .one (.val kn18.v, kn18.s') := by kernel_rfl
theorem wf19 : wfKn kn19 = true := by decide +kernel
theorem run19 : fevK Tryz.prog runCf [] 1000000 (.call kn19.f kn19.args) kn19.s = .one (.val kn19.v, kn19.s') := by kernel_rfl
theorem wf20 : wfKn kn20 = true := by decide +kernel
theorem run20 : fevK Tryz.prog runCf [] 1000000 (.call kn20.f kn20.args) kn20.s = .one (.val kn20.v, kn20.s') := by kernel_rfl
theorem wf21 : wfKn kn21 = true := by decide +kernel
theorem run21 : fevK Tryz.prog runCf [] 1000000 (.call kn21.f kn21.args) kn21.s = .one (.val kn21.v, kn21.s') := by kernel_rfl
end Go.Proofs.YtfnjojdiiklleaaGreat.Ktw
