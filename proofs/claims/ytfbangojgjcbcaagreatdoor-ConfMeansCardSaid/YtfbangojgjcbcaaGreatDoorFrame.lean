/- What the rows of this seat list of package-level variables, as the walks want it; a start that fits. -/
import Derived.Test.YtfbangojgjcbcaaGreatDoorBase
import Derived.Test.YtfbangojgjcbcaaGreatDoorRows
import Derived.Test.YtfbangojgjcbcaaGreatDoorCards
import Derived.Test.YtfbangojgjcbcaaGreatDoorTie
import Derived.ProofKit
import Derived.OpenShut
import Derived.ShutString
import Derived.ChangeOld
import Derived.Deep.DeepHandedRow
import Derived.Deep.DeepWitnessRowRef
import Derived.Lib.LaidTab
import Derived.Lib.LaidU8
import Derived.Lib.LaidIn
import Derived.Lib.SmallJoins
import Derived.SevenTiedAt
import Derived.Shelf.LaysM
namespace Go.Proofs.YtfbangojgjcbcaaGreatDoor
open Go.ChangeShapes Go.WideShapes Go.ChangeAt Go.RowKit

theorem own : ownKnob Tryz.prog.godebug = none := by kernel_rfl
theorem laidOut : laidOutB Tryz.prog = true := by kernel_rfl

theorem var?_lt {W : World} {n : String} {g : Nat} {cs : Array Value} (hg : Tryz.prog.globalNamed n = some g) (h : W.var? Tryz.prog n = some cs) : g < W.heap.size := by
  rcases Nat.lt_or_ge g W.heap.size with hlt | hge
  · exact hlt
  · exfalso
    simp only [World.var?, hg, Option.bind_some] at h
    rw [Array.getElem?_eq_none hge] at h
    cases h

theorem env_of {W : World} (hL : laidMetH Tryz.prog Rows.confParsesRow.laid W) (hsh : W.ShapedOpen Tryz.prog) : Env W := by
  have hM : laidMet Tryz.prog Rows.confParsesRow.laid W := hL
  have hsz : 8 ≤ W.heap.size := by
    obtain ⟨ps, hv, _⟩ := hM.filter (fun x => x.1 == "math/bits.deBruijn64tab")
    obtain ⟨g, t, cs, fuel, p, q, e1, e2, e3, e4, _, _⟩ := (show DataW.LaidVars Tryz.prog W [("math/bits.deBruijn64tab", Rows.laid_math_bits_deBruijn64tab)] ps from hv)
    have h1 := var?_lt e1 e3
    obtain rfl : 7 = g := Option.some.inj ((show Tryz.prog.globalNamed "math/bits.deBruijn64tab" = some 7 by kernel_rfl).symm.trans e1)
    omega
  refine ⟨hsz, Go.Proofs.cell_of_shapedOpen_int (zero := #[.int .i64 0]) (t := 3) hsh (of_decide_eq_true (by kernel_rfl)) (by kernel_rfl) rfl (by kernel_rfl) (by kernel_rfl) Tryz.underlying3, ?_, ?_, ?_⟩
  · have h := hM.filter (fun x => x.1 == "internal/strconv.uint64pow10")
    exact Lib.tabIs_of_head (rest := []) (g := 1) (t := 260) (e := 169) (n := 20) (by kernel_rfl) (by kernel_rfl) (by kernel_rfl) (by kernel_rfl) (by kernel_rfl) (by kernel_rfl) h
  · obtain ⟨ps, hv, _⟩ := hM.filter (fun x => x.1 == "strconv.ErrSyntax")
    obtain ⟨g, t, cs, fuel, p, q, e1, e2, e3, e4, _, _⟩ := (show DataW.LaidVars Tryz.prog W [("strconv.ErrSyntax", Rows.laid_strconv_ErrSyntax)] ps from hv)
    obtain rfl : 2 = g := Option.some.inj ((show Tryz.prog.globalNamed "strconv.ErrSyntax" = some 2 by kernel_rfl).symm.trans e1)
    obtain rfl : 116 = t := Option.some.inj ((show (Tryz.prog.globals[2]?).map (·.type) = some 116 by kernel_rfl).symm.trans e2)
    obtain ⟨_, u, x, hcs, _⟩ := iface_of_trod Tryz.underlying116 e4
    refine ⟨u, x, ?_⟩
    rw [World.var?_cell e1 e3 0, ← Array.getElem?_toList, hcs]; rfl
  · obtain ⟨ps, hv, _⟩ := hM.filter (fun x => x.1 == "strconv.ErrRange")
    obtain ⟨g, t, cs, fuel, p, q, e1, e2, e3, e4, _, _⟩ := (show DataW.LaidVars Tryz.prog W [("strconv.ErrRange", Rows.laid_strconv_ErrRange)] ps from hv)
    obtain rfl : 3 = g := Option.some.inj ((show Tryz.prog.globalNamed "strconv.ErrRange" = some 3 by kernel_rfl).symm.trans e1)
    obtain rfl : 116 = t := Option.some.inj ((show (Tryz.prog.globals[3]?).map (·.type) = some 116 by kernel_rfl).symm.trans e2)
    obtain ⟨_, u, x, hcs, _⟩ := iface_of_trod Tryz.underlying116 e4
    refine ⟨u, x, ?_⟩
    rw [World.var?_cell e1 e3 0, ← Array.getElem?_toList, hcs]; rfl

/-- A start: the settled world with two blocks more (the two errors' texts), the listed variables holding what their initialisers lay. -/
noncomputable def laidWorld (os : Os) : World :=
  let N := (World.settled Tryz.prog os).heap.size
  let w0 := World.holding Tryz.prog os ⟨#[.cells #[.string ⟨#[118, 97, 108, 117, 101, 32, 111, 117, 116, 32, 111, 102, 32, 114, 97, 110, 103, 101]⟩] 275, .cells #[.string ⟨#[105, 110, 118, 97, 108, 105, 100, 32, 115, 121, 110, 116, 97, 120]⟩] 275], #[], []⟩
  let put (h : Array Obj) (g : Nat) (cs : Array Value) : Array Obj := h.modify g fun
    | .cells _ t frozen => .cells cs t frozen
    | o => o
  let h0 := put w0.heap 3 #[.iface 273 (.pointer (some ⟨N, 0, none⟩))]
  let h1 := put h0 2 #[.iface 273 (.pointer (some ⟨N + 1, 0, none⟩))]
  let h2 := put h1 1 #[.int .u64 1, .int .u64 10, .int .u64 100, .int .u64 1000, .int .u64 10000, .int .u64 100000, .int .u64 1000000, .int .u64 10000000, .int .u64 100000000, .int .u64 1000000000, .int .u64 10000000000, .int .u64 100000000000, .int .u64 1000000000000, .int .u64 10000000000000, .int .u64 100000000000000, .int .u64 1000000000000000, .int .u64 10000000000000000, .int .u64 100000000000000000, .int .u64 1000000000000000000, .int .u64 10000000000000000000]
  let h3 := put h2 4 (Lib.firstTab.map fun z => Value.int .u8 z).toArray
  let h4 := put h3 5 #[.int .u8 128, .int .u8 191, .int .u8 160, .int .u8 191, .int .u8 128, .int .u8 159, .int .u8 144, .int .u8 191, .int .u8 128, .int .u8 143, .int .u8 0, .int .u8 0, .int .u8 0, .int .u8 0, .int .u8 0, .int .u8 0, .int .u8 0, .int .u8 0, .int .u8 0, .int .u8 0, .int .u8 0, .int .u8 0, .int .u8 0, .int .u8 0, .int .u8 0, .int .u8 0, .int .u8 0, .int .u8 0, .int .u8 0, .int .u8 0, .int .u8 0, .int .u8 0]
  let h5 := put h4 6 #[.int .u8 0, .int .u8 1, .int .u8 28, .int .u8 2, .int .u8 29, .int .u8 14, .int .u8 24, .int .u8 3, .int .u8 30, .int .u8 22, .int .u8 20, .int .u8 15, .int .u8 25, .int .u8 17, .int .u8 4, .int .u8 8, .int .u8 31, .int .u8 27, .int .u8 13, .int .u8 23, .int .u8 21, .int .u8 19, .int .u8 16, .int .u8 7, .int .u8 26, .int .u8 12, .int .u8 18, .int .u8 6, .int .u8 11, .int .u8 5, .int .u8 10, .int .u8 9]
  let h6 := put h5 7 #[.int .u8 0, .int .u8 1, .int .u8 56, .int .u8 2, .int .u8 57, .int .u8 49, .int .u8 28, .int .u8 3, .int .u8 61, .int .u8 58, .int .u8 42, .int .u8 50, .int .u8 38, .int .u8 29, .int .u8 17, .int .u8 4, .int .u8 62, .int .u8 47, .int .u8 59, .int .u8 36, .int .u8 45, .int .u8 43, .int .u8 51, .int .u8 22, .int .u8 53, .int .u8 39, .int .u8 33, .int .u8 30, .int .u8 24, .int .u8 18, .int .u8 12, .int .u8 5, .int .u8 63, .int .u8 55, .int .u8 48, .int .u8 27, .int .u8 60, .int .u8 41, .int .u8 37, .int .u8 16, .int .u8 46, .int .u8 35, .int .u8 44, .int .u8 21, .int .u8 52, .int .u8 32, .int .u8 23, .int .u8 11, .int .u8 54, .int .u8 26, .int .u8 40, .int .u8 15, .int .u8 34, .int .u8 20, .int .u8 31, .int .u8 10, .int .u8 25, .int .u8 14, .int .u8 19, .int .u8 9, .int .u8 13, .int .u8 8, .int .u8 7, .int .u8 6]
  { w0 with heap := h6 }
set_option maxRecDepth 1000000 in
theorem laid_met (os : Os) (args : Array Value) : laidMet Tryz.prog Rows.confParsesRow.laid ((laidWorld os).forCall (fun _ _ => 0) ⟨#[], args, []⟩).memory :=
  laidMet_of_run' 8 (by kernel_rfl) (by kernel_rfl)
end Go.Proofs.YtfbangojgjcbcaaGreatDoor
