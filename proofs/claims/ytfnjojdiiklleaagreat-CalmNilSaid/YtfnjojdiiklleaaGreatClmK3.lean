/- What the known calls 13 to 18 of the run come to. -/
import Derived.Test.YtfnjojdiiklleaaGreatClmCfg
import Derived.KernelRfl
namespace Go.Proofs.YtfnjojdiiklleaaGreat.Clm
open Go.Proofs.YtfnjojdiiklleaaGreat Go.Proofs.YtfnjojdiiklleaaGreat.Ev
set_option maxRecDepth 100000
theorem wf13 : wfKn kn13 = true := by decide +kernel
theorem run13 : fevK Tryz.prog runCf [] 1000000 (.call kn13.f kn13.args) kn13.s = .one (.val kn13.v, kn13.s') := by kernel_rfl
theorem wf14 : wfKn kn14 = true := by decide +kernel
theorem run14 : fevK Tryz.prog runCf [] 1000000 (.call kn14.f kn14.args) kn14.s = .one (.val kn14.v, kn14.s') := by kernel_rfl
theorem wf15 : wfKn kn15 = true := by decide +kernel
theorem run15 : fevK Tryz.prog runCf [] 1000000 (.call kn15.f kn15.args) kn15.s = .one (.val kn15.v, kn15.s') := by kernel_rfl
theorem wf16 : wfKn kn16 = true := by decide +kernel
theorem run16 : fevK Tryz.prog runCf [] 1000000 (.call kn16.f kn16.args) kn16.s = .one (.val kn16.v, kn16.s') := by kernel_rfl
theorem wf17 : wfKn kn17 = true := by decide +kernel
theorem run17 : fevK Tryz.prog runCf [] 1000000 (.call kn17.f kn17.args) kn17.s = .one (.val kn17.v, kn17.s') := by kernel_rfl
theorem wf18 : wfKn kn18 = true := by decide +kernel
theorem run18 : fevK Tryz.prog runCf [] 1000000 (.call kn18.f kn18.args) kn18.s = .one (.val kn18.v, kn18.s') := by kernel_rfl
end Go.Proofs.YtfnjojdiiklleaaGreat.Clm
