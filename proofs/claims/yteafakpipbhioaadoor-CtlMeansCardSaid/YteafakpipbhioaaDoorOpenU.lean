/- Opening the arguments of this seat's laws: updates. -/
import Derived.Test.YteafakpipbhioaaDoorOpen
import Derived.Test.YteafakpipbhioaaDoorCtl
namespace Go.Proofs.YteafakpipbhioaaDoor
open Go.ChangeShapes Go.WideShapes Go.ChangeAt Go.RowKit

section
variable {H : Type} {enc : TypeId × Value → H} {W : World} {base b0 : Nat} {sp : Nat → Bool} {held : Bool} {r : Reach}
theorem list2 {cs : List Value} (h : cs.length = 2) : ∃ a b, cs = [a, b] := by
  match cs, h with | [a, b], _ => exact ⟨a, b, rfl⟩
theorem list3 {cs : List Value} (h : cs.length = 3) : ∃ a b c, cs = [a, b, c] := by
  match cs, h with | [a, b, c], _ => exact ⟨a, b, c, rfl⟩
theorem cellsA : Tryd.prog.cellsOf 36 = 1 := by kernel_rfl
theorem cellsI : Tryd.prog.cellsOf 3 = 1 := by kernel_rfl
theorem cellsP : Tryd.prog.cellsOf 38 = 2 := by kernel_rfl
theorem cellsU : Tryd.prog.cellsOf 77 = 3 := by kernel_rfl
set_option maxRecDepth 100000 in
theorem trod_prefix {fuel : Nat} {cs : List Value} {x : DataW H × List MemPlace} (h : DataW.trod enc Tryd.prog W base sp held fuel 38 cs = some x) :
    ∃ a n, cs = [.int .u32 a, .int .i64 n] ∧ (0 ≤ a ∧ a < 4294967296) := by
  obtain ⟨y0, y1, m, _, hl, h0, h1⟩ := trod_struct2 Tryd.underlying38 h
  obtain ⟨c0, c1, rfl⟩ := list2 (hl.trans cellsP)
  simp only [cellsA, cellsI, List.drop_zero, List.drop_succ_cons, List.take_succ_cons, List.take_zero] at h0 h1
  obtain ⟨a, e0, _, wa⟩ := DataW.trod_int Tryd.underlying36 h0
  obtain ⟨n, e1, _, _⟩ := DataW.trod_int Tryd.underlying3 h1
  simp at e0 e1
  subst e0 e1
  exact ⟨a, n, rfl, isAddr_of_wf wa⟩
set_option maxRecDepth 100000 in
theorem trod_update {fuel : Nat} {cs : List Value} {x : DataW H × List MemPlace} (h : DataW.trod enc Tryd.prog W base sp held fuel 77 cs = some x) :
    ∃ a n d, cs = [.int .u32 a, .int .i64 n, .int .i64 d] ∧ (0 ≤ a ∧ a < 4294967296) := by
  obtain ⟨y0, y1, m, _, hl, h0, h1⟩ := trod_struct2 Tryd.underlying77 h
  obtain ⟨c0, c1, c2, rfl⟩ := list3 (hl.trans cellsU)
  simp only [cellsP, cellsI, List.drop_zero, List.drop_succ_cons, List.take_succ_cons, List.take_zero] at h0 h1
  obtain ⟨a, n, e0, wa⟩ := trod_prefix h0
  obtain ⟨d, e1, _, _⟩ := DataW.trod_int Tryd.underlying3 h1
  simp at e0 e1
  obtain ⟨rfl, rfl⟩ := e0
  subst e1
  exact ⟨a, n, d, rfl, wa⟩
set_option maxRecDepth 100000 in
theorem open_update {v : Value} {d : DataW H} {p : List MemPlace} (hv : Value.okWide Tryd.prog W r b0 77 v) (h : DataW.Trod enc Tryd.prog W base sp held 77 v d p) :
    ∃ a n c, v = upd a n c ∧ (0 ≤ a ∧ a < 4294967296) := by
  obtain ⟨cs, rfl, hsz⟩ := okWide_struct Tryd.underlying77 hv
  obtain ⟨fuel, hf⟩ := h
  obtain ⟨a, n, c, e, wa⟩ := trod_update hf
  refine ⟨a, n, c, ?_, wa⟩
  have : cs = #[.int .u32 a, .int .i64 n, .int .i64 c] := by
    apply Array.ext'
    simpa [Value.cells] using e
  rw [this]
end
end Go.Proofs.YteafakpipbhioaaDoor
