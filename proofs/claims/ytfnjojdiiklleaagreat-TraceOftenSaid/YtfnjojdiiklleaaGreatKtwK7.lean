/- What the known calls 43 to 49 of the run come to. -/
import Derived.Test.YtfnjojdiiklleaaGreatKtwCfg
import Derived.KernelRfl
namespace Go.Proofs.YtfnjojdiiklleaaGreat.Ktw
open Go.Proofs.YtfnjojdiiklleaaGreat Go.Proofs.YtfnjojdiiklleaaGreat.Ev
set_option maxRecDepth 100000
theorem wf43 : wfKn kn43 = true := by decide +kernel
theorem run43 : fevK Tryz.prog runCf [] 1000000 (.call kn43.f kn43.args) kn43.s = .one (.val kn43.v, kn43.s') := by kernel_rfl
theorem wf44 : wfKn kn44 = true := by decide +kernel
theorem run44 : fevK Tryz.prog runCf [] 1000000 (.call kn44.f kn44.args) kn44.s = .one (.val kn44.v, kn44.s') := by kernel_rfl
theorem wf45 : wfKn kn45 = true := by decide +kernel
theorem run45 : fevK Tryz.prog runCf [] 1000000 (.call kn45.f kn45.args) kn45.s = .one (.val kn45.v, kn45.s') := by kernel_rfl
theorem wf46 : wfKn kn46 = true := by decide +kernel
theorem run46 : fevK Tryz.prog runCf [] 1000000 (.call kn46.f kn46.args) kn46.s = .one (.val kn46.v, kn46.s') := by kernel_rfl
theorem wf47 : wfKn kn47 = true := by decide +kernel
theorem run47 : fevK Tryz.prog runCf [] 1000000 (.call kn47.f kn47.args) kn47.s = .one (.val kn47.v, kn47.s') := by kernel_rfl
theorem wf48 : wfKn kn48 = true := by decide +kernel
theorem run48 : fevK Tryz.prog runCf [] 1000000 (.call kn48.f kn48.args) kn48.s = .one (.val kn48.v, kn48.s') := by kernel_rfl
theorem wf49 : wfKn kn49 = true := by decide +kernel
theorem run49 : fevK Tryz.prog runCf [] 1000000 (.call kn49.f kn49.args) kn49.s = .one (.val kn49.v, kn49.s') := by kernel_rfl
end Go.Proofs.YtfnjojdiiklleaaGreat.Ktw
