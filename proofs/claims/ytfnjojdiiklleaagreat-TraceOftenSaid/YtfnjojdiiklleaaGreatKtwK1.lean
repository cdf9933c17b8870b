/- What the known calls 1 to 7 of the run come to. -/
import Derived.Test.YtfnjojdiiklleaaGreatKtwCfg
import Derived.KernelRfl
namespace Go.Proofs.YtfnjojdiiklleaaGreat.Ktw
open Go.Proofs.YtfnjojdiiklleaaGreat Go.Proofs.YtfnjojdiiklleaaGreat.Ev
set_option maxRecDepth 100000
theorem wf1 : wfKn kn1 = true := by decide +kernel
theorem run1 : fevK Tryz.prog runCf [] 1000000 (.call kn1.f kn1.args) kn1.s = .one (.val kn1.v, kn1.s') := by kernel_rfl
theorem wf2 : wfKn kn2 = true := by decide +kernel
theorem run2 : fevK Tryz.prog runCf [] 1000000 (.call kn2.f kn2.args) kn2.s = .one (.val kn2.v, kn2.s') := by kernel_rfl
theorem wf3 : wfKn kn3 = true := by decide +kernel
theorem run3 : fevK Tryz.prog runCf [] 1000000 (.call kn3.f kn3.args) kn3.s = .one (.val kn3.v, kn3.s') := by kernel_rfl
theorem wf4 : wfKn kn4 = true := by decide +kernel
theorem run4 : fevK Tryz.prog runCf [] 1000000 (.call kn4.f kn4.args) kn4.s = .one (.val kn4.v, kn4.s') := by kernel_rfl
theorem wf5 : wfKn kn5 = true := by decide +kernel
theorem run5 : fevK Tryz.prog runCf [] 1000000 (.call kn5.f kn5.args) kn5.s = .one (.val kn5.v, kn5.s') := by kernel_rfl
theorem wf6 : wfKn kn6 = true := by decide +kernel
theorem run6 : fevK Tryz.prog runCf [] 1000000 (.call kn6.f kn6.args) kn6.s = .one (.val kn6.v, kn6.s') := by kernel_rfl
theorem wf7 : wfKn kn7 = true := by decide +kernel
theorem run7 : fevK Tryz.prog runCf [] 1000000 (.call kn7.f kn7.args) kn7.s = .one (.val kn7.v, kn7.s') := by kernel_rfl
end Go.Proofs.YtfnjojdiiklleaaGreat.Ktw
