/- The run of NetNil on abstract memory: every outcome is true. -/
import Derived.Test.YthgkdadchfoomabGreatNetK1
import Derived.Test.YthgkdadchfoomabGreatNetK2
import Derived.Test.YthgkdadchfoomabGreatNetK3
import Derived.Test.YthgkdadchfoomabGreatNetK4
import Derived.Test.YthgkdadchfoomabGreatNetK5
import Derived.Test.YthgkdadchfoomabGreatNetK6
import Derived.Test.YthgkdadchfoomabGreatNetK7
namespace Go.Proofs.YthgkdadchfoomabGreat
open Go.Proofs.YthgkdadchfoomabGreat.Ev
set_option maxRecDepth 100000
noncomputable def kns : List Kn := [kn1, kn2, kn3, kn4, kn5, kn6, kn7, kn8, kn9, kn10, kn11, kn12, kn13, kn14, kn15, kn16, kn17, kn18, kn19, kn20, kn21, kn22, kn23, kn24, kn25, kn26, kn27, kn28, kn29, kn30, kn31, kn32, kn33, kn34, kn35, kn36, kn37, kn38, kn39]
theorem is_known {e : Kn} (hw : wfKn e = true) (h : fevK Tryz.prog runCf [] 1000000 (.call e.f e.args) e.s = .one (.val e.v, e.s')) : KnIs Tryz.prog e := kn_by hmix (fun _ hx => absurd hx List.not_mem_nil) hw h
theorem known : ∀ e ∈ kns, KnIs Tryz.prog e := by
  intro e he
  simp only [kns, List.mem_cons, List.not_mem_nil, or_false] at he
  rcases he with rfl | rfl | rfl | rfl | rfl | rfl | rfl | rfl | rfl | rfl | rfl | rfl | rfl | rfl | rfl | rfl | rfl | rfl | rfl | rfl | rfl | rfl | rfl | rfl | rfl | rfl | rfl | rfl | rfl | rfl | rfl | rfl | rfl | rfl | rfl | rfl | rfl | rfl | rfl
  · exact is_known wf1 run1
  · exact is_known wf2 run2
  · exact is_known wf3 run3
  · exact is_known wf4 run4
  · exact is_known wf5 run5
  · exact is_known wf6 run6
  · exact is_known wf7 run7
  · exact is_known wf8 run8
  · exact is_known wf9 run9
  · exact is_known wf10 run10
  · exact is_known wf11 run11
  · exact is_known wf12 run12
  · exact is_known wf13 run13
  · exact is_known wf14 run14
  · exact is_known wf15 run15
  · exact is_known wf16 run16
  · exact is_known wf17 run17
  · exact is_known wf18 run18
  · exact is_known wf19 run19
  · exact is_known wf20 run20
  · exact is_known wf21 run21
  · exact is_known wf22 run22
  · exact is_known wf23 run23
  · exact is_known wf24 run24
  · exact is_known wf25 run25
  · exact is_known wf26 run26
  · exact is_known wf27 run27
  · exact is_known wf28 run28
  · exact is_known wf29 run29
  · exact is_known wf30 run30
  · exact is_known wf31 run31
  · exact is_known wf32 run32
  · exact is_known wf33 run33
  · exact is_known wf34 run34
  · exact is_known wf35 run35
  · exact is_known wf36 run36
  · exact is_known wf37 run37
  · exact is_known wf38 run38
  · exact is_known wf39 run39
theorem run : allTrue (fevK Tryz.prog runCf kns 1000000 (.call 3 []) clean) = true := by decide +kernel
end Go.Proofs.YthgkdadchfoomabGreat
