/- The run of NodeNil on abstract memory: every outcome is true. -/
import Derived.Test.YthdimknjlnmjdaaGreatEvBa
import Derived.Test.YthdimknjlnmjdaaGreatProg
namespace Go.Proofs.YthdimknjlnmjdaaGreat
open Go.Proofs.YthdimknjlnmjdaaGreat.Ev
def runCf : Cf := ⟨fun _ => false, fun _ => 0, fun _ => 0⟩
set_option maxRecDepth 100000 in
theorem run : allTrue (ev Tryz.prog runCf 1000000 (.call 3 []) clean) = true := by decide +kernel
end Go.Proofs.YthdimknjlnmjdaaGreat
