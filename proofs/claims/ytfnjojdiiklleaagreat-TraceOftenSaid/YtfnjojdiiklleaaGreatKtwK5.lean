/- What the known calls 29 to 35 of the run come to. -/
import Derived.Test.YtfnjojdiiklleaaGreatKtwCfg
import Derived.KernelRfl
namespace Go.Proofs.YtfnjojdiiklleaaGreat.Ktw
open Go.Proofs.YtfnjojdiiklleaaGreat Go.Proofs.YtfnjojdiiklleaaGreat.Ev
set_option maxRecDepth 100000
theorem wf29 : wfKn kn29 = true := by decide +kernel
theorem run29 : fevK Tryz.prog runCf [] 1000000 (.call kn29.f kn29.args) kn29.s = .one (.val kn29.v, kn29.s') := by kernel_rfl
theorem wf30 : wfKn kn30 = true := by decide +kernel
theorem run30 : fevK Tryz.prog runCf [] 1000000 (.call kn30.f kn30.args) kn30.s = .one (.val kn30.v, kn30.s') := by kernel_rfl
theorem wf31 : wfKn kn31 = true := by decide +kernel
theorem run31 : fevK Tryz.prog runCf [] 1000000 (.call kn31.f kn31.args) kn31.s = .one (.val kn31.v, kn31.s') := by kernel_rfl
theorem wf32 : wfKn kn32 = true := by decide +kernel
theorem run32 : fevK Tryz.prog runCf [] 1000000 (.call kn32.f kn32.args) kn32.s = .one (.val kn32.v, kn32.s') := by kernel_rfl
theorem wf33 : wfKn kn33 = true := by decide +kernel
theorem run33 : fevK Tryz.prog runCf [] 1000000 (.call kn33.f kn33.args) kn33.s = .one (.val kn33.v, kn33.s') := by kernel_rfl
theorem wf34 : wfKn kn34 = true := by decide +kernel
theorem run34 : fevK Tryz.prog runCf [] 1000000 (.call kn34.f kn34.args) kn34.s = .one (.val kn34.v, kn34.s') := by kernel_rfl
theorem wf35 : wfKn kn35 = true := by decide +kernel
theorem run35 : fevK Tryz.prog runCf [] 1000000 (.call kn35.f kn35.args) kn35.s = .one (.val kn35.v, kn35.s') := by kernel_rfl
end Go.Proofs.YtfnjojdiiklleaaGreat.Ktw
