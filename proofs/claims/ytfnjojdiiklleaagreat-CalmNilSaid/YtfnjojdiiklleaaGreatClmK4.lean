/- What the known calls 19 to 22 of the run come to. -/
import Derived.Test.YtfnjojdiiklleaaGreatClmCfg
import Derived.KernelRfl
namespace Go.Proofs.YtfnjojdiiklleaaGreat.Clm
open Go.Proofs.YtfnjojdiiklleaaGreat Go.Proofs.YtfnjojdiiklleaaGreat.Ev
set_option maxRecDepth 100000
theorem wf19 : wfKn kn19 = true := by decide +kernel
theorem run19 : fevK Tryz.prog runCf [] 1000000 (.call kn19.f kn19.args) kn19.s = .one (.val kn19.v, kn19.s') := by kernel_rfl
theorem wf20 : wfKn kn20 = true := by decide +kernel
theorem run20 : fevK Tryz.prog runCf [] 1000000 (.call kn20.f kn20.args) kn20.s = .one (.val kn20.v, kn20.s') := by kernel_rfl
theorem wf21 : wfKn kn21 = true := by decide +kernel
theorem run21 : fevK Tryz.prog runCf [] 1000000 (.call kn21.f kn21.args) kn21.s = .one (.val kn21.v, kn21.s') := by kernel_rfl
theorem wf22 : wfKn kn22 = true := by decide +kernel
theorem run22 : fevK Tryz.prog runCf [] 1000000 (.call kn22.f kn22.args) kn22.s = .one (.val kn22.v, kn22.s') := by kernel_rfl
end Go.Proofs.YtfnjojdiiklleaaGreat.Clm
