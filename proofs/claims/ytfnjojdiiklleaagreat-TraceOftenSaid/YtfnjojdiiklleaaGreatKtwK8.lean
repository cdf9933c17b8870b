/- What the known calls 50 to 54 of the run come to. -/
import Derived.Test.YtfnjojdiiklleaaGreatKtwCfg
import Derived.KernelRfl
namespace Go.Proofs.YtfnjojdiiklleaaGreat.Ktw
open Go.Proofs.YtfnjojdiiklleaaGreat Go.Proofs.YtfnjojdiiklleaaGreat.Ev
set_option maxRecDepth 100000
theorem wf50 : wfKn kn50 = true := by decide +kernel
theorem run50 : fevK Tryz.prog runCf [] 1000000 (.call kn50.f kn50.args) kn50.s = .one (.val kn50.v, kn50.s') := by kernel_rfl
theorem wf51 : wfKn kn51 = true := by decide +kernel
theorem run51 : fevK Tryz.prog runCf [] 1000000 (.call kn51.f kn51.args) kn51.s = .one (.val kn51.v, kn51.s') := by kernel_rfl
theorem wf52 : wfKn kn52 = true := by decide +kernel
theorem run52 : fevK Tryz.prog runCf [] 1000000 (.call kn52.f kn52.args) kn52.s = .one (.val kn52.v, kn52.s') := by kernel_rfl
theorem wf53 : wfKn kn53 = true := by decide +kernel
theorem run53 : fevK Tryz.prog runCf [] 1000000 (.call kn53.f kn53.args) kn53.s = .one (.val kn53.v, kn53.s') := by kernel_rfl
theorem wf54 : wfKn kn54 = true := by decide +kernel
theorem run54 : fevK Tryz.prog runCf [] 1000000 (.call kn54.f kn54.args) kn54.s = .one (.val kn54.v, kn54.s') := by kernel_rfl
end Go.Proofs.YtfnjojdiiklleaaGreat.Ktw
