/- What acts 25 to 30 of NetNil's network come to. -/
import Derived.Test.YthgkdadchfoomabGreatNetCfg
import Derived.KernelRfl
namespace Go.Proofs.YthgkdadchfoomabGreat
open Go.Proofs.YthgkdadchfoomabGreat.Ev
set_option maxRecDepth 100000
theorem wf25 : wfKn kn25 = true := by decide +kernel
theorem run25 : fevK Tryz.prog runCf [] 1000000 (.call kn25.f kn25.args) kn25.s = .one (.val kn25.v, kn25.s') := by kernel_rfl
theorem wf26 : wfKn kn26 = true := by decide +kernel
theorem run26 : fevK Tryz.prog runCf [] 1000000 (.call kn26.f kn26.args) kn26.s = .one (.val kn26.v, kn26.s') := by kernel_rfl
theorem wf27 : wfKn kn27 = true := by decide +kernel
theorem run27 : fevK Tryz.prog runCf [] 1000000 (.call kn27.f kn27.args) kn27.s = .one (.val kn27.v, kn27.s') := by kernel_rfl
theorem wf28 : wfKn kn28 = true := by decide +kernel
theorem run28 : fevK Tryz.prog runCf [] 1000000 (.call kn28.f kn28.args) kn28.s = .one (.val kn28.v, kn28.s') := by kernel_rfl
theorem wf29 : wfKn kn29 = true := by decide +kernel
theorem run29 : fevK Tryz.prog runCf [] 1000000 (.call kn29.f kn29.args) kn29.s = .one (.val kn29.v, kn29.s') := by kernel_rfl
theorem wf30 : wfKn kn30 = true := by decide +kernel
theorem run30 : fevK Tryz.prog runCf [] 1000000 (.call kn30.f kn30.args) kn30.s = .one (.val kn30.v, kn30.s') := by kernel_rfl
end Go.Proofs.YthgkdadchfoomabGreat
