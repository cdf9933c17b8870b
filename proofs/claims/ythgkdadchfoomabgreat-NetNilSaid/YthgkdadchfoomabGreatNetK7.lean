/- What acts 37 to 39 of NetNil's network come to. -/
import Derived.Test.YthgkdadchfoomabGreatNetCfg
import Derived.KernelRfl
namespace Go.Proofs.YthgkdadchfoomabGreat
open Go.Proofs.YthgkdadchfoomabGreat.Ev
set_option maxRecDepth 100000
theorem wf37 : wfKn kn37 = true := by decide +kernel
theorem run37 : fevK Tryz.prog runCf [] 1000000 (.call kn37.f kn37.args) kn37.s = .one (.val kn37.v, kn37.s') := by kernel_rfl
theorem wf38 : wfKn kn38 = true := by decide +kernel
theorem run38 : fevK Tryz.prog runCf [] 1000000 (.call kn38.f kn38.args) kn38.s = .one (.val kn38.v, kn38.s') := by kernel_rfl
theorem wf39 : wfKn kn39 = true := by decide +kernel
theorem run39 : fevK Tryz.prog runCf [] 1000000 (.call kn39.f kn39.args) kn39.s = .one (.val kn39.v, kn39.s') := by kernel_rfl
end Go.Proofs.YthgkdadchfoomabGreat
