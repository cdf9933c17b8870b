/- Opening the arguments of this seat's laws. -/
import Derived.Test.YteafakpipbhioaaDoorFrame
namespace Go.Proofs.YteafakpipbhioaaDoor
open Go.ChangeShapes Go.WideShapes Go.ChangeAt Go.RowKit

theorem isAddr_of_wf {a : Int} (h : (Lit.int .u32 a).wf = true) : 0 ≤ a ∧ a < 4294967296 := by
  simp [Lit.wf, IntKind.min, IntKind.max, IntKind.signed, IntKind.bits] at h
  exact ⟨by omega, by omega⟩
section
variable {H : Type} {enc : TypeId × Value → H} {W : World} {base b0 : Nat} {sp : Nat → Bool} {held : Bool} {r : Reach}
set_option maxRecDepth 100000 in
theorem open_addr {v : Value} {d : DataW H} {p : List MemPlace} (hv : Value.okWide Tryd.prog W r b0 36 v) (h : DataW.Trod enc Tryd.prog W base sp held 36 v d p) :
    ∃ a, v = .int .u32 a ∧ (0 ≤ a ∧ a < 4294967296) := by
  obtain ⟨a, rfl, _, _, wa⟩ := open_int Tryd.underlying36 hv h
  exact ⟨a, rfl, isAddr_of_wf wa⟩
set_option maxRecDepth 100000 in
theorem open_prefix {v : Value} {d : DataW H} {p : List MemPlace} (hv : Value.okWide Tryd.prog W r b0 38 v) (h : DataW.Trod enc Tryd.prog W base sp held 38 v d p) :
    ∃ a n, v = .agg #[.int .u32 a, .int .i64 n] ∧ (0 ≤ a ∧ a < 4294967296) := by
  obtain ⟨c0, c1, y0, y1, m, rfl, rfl, rfl, hy0, hy1⟩ := Go.Joins.open_agg2 Tryd.underlying38 (by kernel_rfl) (by kernel_rfl) hv h
  obtain ⟨a, e0, _, wa⟩ := DataW.trod_int Tryd.underlying36 hy0
  obtain ⟨n, e1, _, _⟩ := DataW.trod_int Tryd.underlying3 hy1
  simp at e0 e1
  subst e0 e1
  exact ⟨a, n, rfl, isAddr_of_wf wa⟩
end
end Go.Proofs.YteafakpipbhioaaDoor
