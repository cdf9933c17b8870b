/- What the known calls 8 to 14 of the run come to. -/
import Derived.Test.YtfnjojdiiklleaaGreatKtwCfg
import Derived.KernelRfl
namespace Go.Proofs.YtfnjojdiiklleaaGreat.Ktw
open Go.Proofs.YtfnjojdiiklleaaGreat Go.Proofs.YtfnjojdiiklleaaGreat.Ev
set_option maxRecDepth 100000
theorem wf8 : wfKn kn8 = true := by decide +kernel
theorem run8 : fevK Tryz.prog runCf [] 1000000 (.call kn8.f kn8.args) kn8.s = .one (.val kn8.v, kn8.s') := by kernel_rfl
theorem wf9 : wfKn kn9 = true := by decide +kernel
theorem run9 : fevK Tryz.prog runCf [] 1000000 (.call kn9.f kn9.args) kn9.s = .one (.val kn9.v, kn9.s') := by kernel_rfl
theorem wf10 : wfKn kn10 = true := by decide +kernel
theorem run10 : fevK Tryz.prog runCf [] 1000000 (.call kn10.f kn10.args) kn10.s = .one (.val kn10.v, kn10.s') := by kernel_rfl
theorem wf11 : wfKn kn11 = true := by decide +kernel
theorem run11 : fevK Tryz.prog runCf [] 1000000 (.call kn11.f kn11.args) kn11.s = .one (.val kn11.v, kn11.s') := by kernel_rfl
theorem wf12 : wfKn kn12 = true := by decide +kernel
theorem run12 : fevK Tryz.prog runCf [] 1000000 (.call kn12.f kn12.args) kn12.s = .one (.val kn12.v, kn12.s') := by kernel_rfl
theorem wf13 : wfKn kn13 = true := by decide +kernel
theorem run13 : fevK Tryz.prog runCf [] 1000000 (.call kn13.f kn13.args) kn13.s = .one (.val kn13.v, kn13.s') := by kernel_rfl
theorem wf14 : wfKn kn14 = true := by decide +kernel
theorem run14 : fevK Tryz.prog runCf [] 1000000 (.call kn14.f kn14.args) kn14.s = .one (.val kn14.v, kn14.s') := by kernel_rfl
end Go.Proofs.YtfnjojdiiklleaaGreat.Ktw
