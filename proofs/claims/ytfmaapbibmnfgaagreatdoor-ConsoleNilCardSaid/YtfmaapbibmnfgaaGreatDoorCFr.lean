/- What the row lists of package-level variables: how many blocks there are, a number. -/
import Derived.Test.YtfmaapbibmnfgaaGreatDoorRows
import Derived.Test.YtfmaapbibmnfgaaGreatDoorCards
import Derived.ProofKit
import Derived.OpenShut
import Derived.ShutString
import Derived.ChangeOld
import Derived.Deep.DeepHandedRow
import Derived.Deep.DeepWitnessRowRef
import Derived.Lib.LaidTab
import Derived.Lib.LaidU8
import Derived.Lib.LaidIn
import Derived.Lib.SmallJoins
import Derived.SevenTiedAt
import Derived.Shelf.LaysM
import Derived.LaidSub
namespace Go.Proofs.YtfmaapbibmnfgaaGreatDoor
open Go.ChangeShapes Go.WideShapes Go.ChangeAt Go.RowKit

theorem var?_lt {W : World} {n : String} {g : Nat} {cs : Array Value} (hg : Tryz.prog.globalNamed n = some g) (h : W.var? Tryz.prog n = some cs) : g < W.heap.size := by
  rcases Nat.lt_or_ge g W.heap.size with hlt | hge
  · exact hlt
  · exfalso
    simp only [World.var?, hg, Option.bind_some] at h
    rw [Array.getElem?_eq_none hge] at h
    cases h

theorem env_size {W : World} (hL : laidMetH Tryz.prog Rows.consoleNilRow.laid W) : 8 ≤ W.heap.size := by
  have hM : laidMet Tryz.prog Rows.consoleNilRow.laid W := hL
  obtain ⟨ps, hv, _⟩ := hM.filter (fun x => x.1 == "math/bits.deBruijn64tab")
  obtain ⟨g, t, cs, fuel, p, q, e1, e2, e3, e4, _, _⟩ := (show DataW.LaidVars Tryz.prog W [("math/bits.deBruijn64tab", Rows.laid_math_bits_deBruijn64tab)] ps from hv)
  have h1 := var?_lt e1 e3
  obtain rfl : 7 = g := Option.some.inj ((show Tryz.prog.globalNamed "math/bits.deBruijn64tab" = some 7 by kernel_rfl).symm.trans e1)
  omega
theorem env_max {W : World} (hsh : W.ShapedOpen Tryz.prog) : ∃ m, W.cell? ⟨0, 0, none⟩ = some (.int .i64 m) := Go.Proofs.cell_of_shapedOpen_int (zero := #[.int .i64 0]) (t := 3) hsh (of_decide_eq_true (by kernel_rfl)) (by kernel_rfl) rfl (by kernel_rfl) (by kernel_rfl) Tryz.underlying3
end Go.Proofs.YtfmaapbibmnfgaaGreatDoor
set_option linter.unusedSectionVars false
set_option linter.unusedVariables false
set_option linter.unusedSimpArgs false
