/- The run of GraphNil on abstract memory: every outcome is true. -/
import Derived.Test.YtfnjojdiiklleaaGreatKgrRun
namespace Go.Proofs.YtfnjojdiiklleaaGreat.Grf
open Go.Proofs.YtfnjojdiiklleaaGreat Go.Proofs.YtfnjojdiiklleaaGreat.Ev
set_option maxRecDepth 100000
theorem run : allTrue (fevC Tryz.prog Kgr.runCf [22] 1000000 (.call 5 []) clean) = true := by decide +kernel
theorem closed : ClosedIs Tryz.prog 5 := closed_by Kgr.hmix (by kernel_rfl) (fun f hf => by
  simp only [List.mem_singleton] at hf
  subst hf
  exact Kgr.closed) run
end Go.Proofs.YtfnjojdiiklleaaGreat.Grf
