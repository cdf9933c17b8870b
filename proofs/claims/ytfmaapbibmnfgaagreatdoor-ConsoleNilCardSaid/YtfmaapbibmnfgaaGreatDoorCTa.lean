/- The tie of the listed variables to the program's text, fact by fact: the words. -/
import Derived.Test.YtfmaapbibmnfgaaGreatDoorRows
import Derived.LaidByTextLater
import Derived.SevenTiedAt
import Derived.LaidSub
import Derived.KernelRfl
namespace Go.Proofs.YtfmaapbibmnfgaaGreatDoor
open Go
set_option maxRecDepth 100000
/-- The listed variables that the text lays. -/
def tiL : List (String × DataW Unit) := [("unicode/utf8.acceptRanges", Rows.laid_unicode_utf8_acceptRanges), ("strconv.ErrSyntax", Rows.laid_strconv_ErrSyntax), ("strconv.ErrRange", Rows.laid_strconv_ErrRange), ("internal/strconv.uint64pow10", Rows.laid_internal_strconv_uint64pow10), ("math/bits.deBruijn32tab", Rows.laid_math_bits_deBruijn32tab), ("math/bits.deBruijn64tab", Rows.laid_math_bits_deBruijn64tab)]
def tiK : List LaidKind := [.data, .sentinel, .sentinel, .data, .data, .data]
theorem ti_hw : Tryz.prog.worded (varsWordLater true) = true := by kernel_rfl
theorem ti_hw2 : Tryz.prog.worded (varsWordLater !true) = false := by kernel_rfl
theorem ti_hroot : Tryz.prog.worded rootWordLater = true := by kernel_rfl
theorem ti_hk : tiL.map (fun x => Tryz.prog.kindOfLater x.1) = tiK.map some := by kernel_rfl
theorem ti_hg : (Tryz.prog.funcNamed "gosem.cut.vars").isSome = true := by kernel_rfl
end Go.Proofs.YtfmaapbibmnfgaaGreatDoor
set_option linter.unusedSectionVars false
set_option linter.unusedVariables false
set_option linter.unusedSimpArgs false
