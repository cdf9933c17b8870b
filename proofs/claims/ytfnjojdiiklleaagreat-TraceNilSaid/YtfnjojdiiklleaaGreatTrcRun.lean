/- The run of TraceNil on abstract memory: every outcome is true. -/
import Derived.Test.YtfnjojdiiklleaaGreatKtwRun
namespace Go.Proofs.YtfnjojdiiklleaaGreat.Trc
open Go.Proofs.YtfnjojdiiklleaaGreat Go.Proofs.YtfnjojdiiklleaaGreat.Ev
set_option maxRecDepth 100000
theorem run : allTrue (fevC Tryz.prog Ktw.runCf [7] 1000000 (.call 4 []) clean) = true := by decide +kernel
theorem closed : ClosedIs Tryz.prog 4 := closed_by Ktw.hmix (by kernel_rfl) (fun f hf => by
  simp only [List.mem_singleton] at hf
  subst hf
  exact Ktw.closed) run
end Go.Proofs.YtfnjojdiiklleaaGreat.Trc
