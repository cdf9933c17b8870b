/- What the row lists of package-level variables, as the walk wants it. -/
import Derived.Test.YtfmaapbibmnfgaaGreatDoorEvLk
import Derived.Test.YtfmaapbibmnfgaaGreatDoorCFr
import Derived.Test.YtfmaapbibmnfgaaGreatDoorCFv
import Derived.Test.YtfmaapbibmnfgaaGreatDoorCFw
set_option linter.unusedSectionVars false
set_option linter.unusedVariables false
set_option linter.unusedSimpArgs false
namespace Go.Proofs.YtfmaapbibmnfgaaGreatDoor
theorem env_of {W : World} (hL : laidMetH Tryz.prog Rows.consoleNilRow.laid W) (hsh : W.ShapedOpen Tryz.prog) : EnvW W := ⟨env_size hL, env_max hsh, env_pow hL, env_syn hL⟩
end Go.Proofs.YtfmaapbibmnfgaaGreatDoor
