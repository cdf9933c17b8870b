/- A closed run on abstract memory: every outcome is true. -/
import Derived.Test.YtfnjojdiiklleaaGreatEwK
import Derived.Test.YtfnjojdiiklleaaGreatClmK1
import Derived.Test.YtfnjojdiiklleaaGreatClmK2
import Derived.Test.YtfnjojdiiklleaaGreatClmK3
import Derived.Test.YtfnjojdiiklleaaGreatClmK4
namespace Go.Proofs.YtfnjojdiiklleaaGreat.Clm
open Go.Proofs.YtfnjojdiiklleaaGreat Go.Proofs.YtfnjojdiiklleaaGreat.Ev
set_option maxRecDepth 100000
noncomputable def kns : List Kn := [kk1, kk2, kk3, kk4, kk5, kk6, kk7, kk8, kk9, kk10, kk11, kk12, kk13, kk14, kk15, kk16, kk17, kk18, kk19, kk20, kk21, kk22]
theorem is_known {e e' : Kn} (hw : wfKn e = true) (h : fevK Tryz.prog runCf [] 1000000 (.call e.f e.args) e.s = .one (.val e.v, e.s')) (l : List Nam) (h1 : e'.f = e.f) (h2 : e'.args = e.args) (h3 : e'.s = e.s) (h4 : e'.v = e.v) (h5 : e'.s' = killL l e.s') : KnIs Tryz.prog e' :=
  kn_kill (kn_by hmix (fun _ hx => absurd hx List.not_mem_nil) hw h) h1 h2 h3 h4 h5
theorem known : ∀ e ∈ kns, KnIs Tryz.prog e := by
  intro e he
  simp only [kns, List.mem_cons, List.not_mem_nil, or_false] at he
  rcases he with rfl | rfl | rfl | rfl | rfl | rfl | rfl | rfl | rfl | rfl | rfl | rfl | rfl | rfl | rfl | rfl | rfl | rfl | rfl | rfl | rfl | rfl
  · exact is_known wf1 run1 [] rfl rfl rfl rfl (by kernel_rfl)
  · exact is_known wf2 run2 [] rfl rfl rfl rfl (by kernel_rfl)
  · exact is_known wf3 run3 [] rfl rfl rfl rfl (by kernel_rfl)
  · exact is_known wf4 run4 [] rfl rfl rfl rfl (by kernel_rfl)
  · exact is_known wf5 run5 [] rfl rfl rfl rfl (by kernel_rfl)
  · exact is_known wf6 run6 [nam 1643] rfl rfl rfl rfl (by kernel_rfl)
  · exact is_known wf7 run7 [] rfl rfl rfl rfl (by kernel_rfl)
  · exact is_known wf8 run8 [nam 1666, nam 1803, nam 1938, nam 2212] rfl rfl rfl rfl (by kernel_rfl)
  · exact is_known wf9 run9 [nam 1232, nam 1369, nam 1502, nam 1504, nam 1936, nam 2400] rfl rfl rfl rfl (by kernel_rfl)
  · exact is_known wf10 run10 [nam 500, nam 501, nam 521, nam 2838, nam 2976, nam 3252] rfl rfl rfl rfl (by kernel_rfl)
  · exact is_known wf11 run11 [nam 940, nam 941, nam 961, nam 2538, nam 2816, nam 2818, nam 3250, nam 3272] rfl rfl rfl rfl (by kernel_rfl)
  · exact is_known wf12 run12 [nam 3823, nam 3961, nam 4131, nam 4169, nam 4171, nam 4184, nam 4185, nam 4205, nam 4358] rfl rfl rfl rfl (by kernel_rfl)
  · exact is_known wf13 run13 [nam 3410, nam 3580, nam 3618, nam 3620, nam 3633, nam 3634, nam 3654, nam 3801, nam 3803, nam 4356, nam 4378] rfl rfl rfl rfl (by kernel_rfl)
  · exact is_known wf14 run14 [nam 3616, nam 5015, nam 5162, nam 5338, nam 5386, nam 5388, nam 5410, nam 5411, nam 5431, nam 5474, nam 5479, nam 5628] rfl rfl rfl rfl (by kernel_rfl)
  · exact is_known wf15 run15 [nam 4167, nam 4525, nam 4701, nam 4749, nam 4751, nam 4773, nam 4774, nam 4811, nam 4837, nam 4842, nam 4993, nam 4995, nam 5626, nam 5648] rfl rfl rfl rfl (by kernel_rfl)
  · exact is_known wf16 run16 [nam 4747, nam 6294, nam 6441, nam 6593, nam 6598, nam 6711, nam 6712, nam 6749, nam 6775, nam 6780, nam 6924] rfl rfl rfl rfl (by kernel_rfl)
  · exact is_known wf17 run17 [nam 5384, nam 5795, nam 5947, nam 5952, nam 6065, nam 6066, nam 6086, nam 6129, nam 6134, nam 6272, nam 6274, nam 6922, nam 6944] rfl rfl rfl rfl (by kernel_rfl)
  · exact is_known wf18 run18 [nam 7530] rfl rfl rfl rfl (by kernel_rfl)
  · exact is_known wf19 run19 [nam 7086] rfl rfl rfl rfl (by kernel_rfl)
  · exact is_known wf20 run20 [] rfl rfl rfl rfl (by kernel_rfl)
  · exact is_known wf21 run21 [] rfl rfl rfl rfl (by kernel_rfl)
  · exact is_known wf22 run22 [] rfl rfl rfl rfl (by kernel_rfl)
theorem run : allTrue (fevK Tryz.prog runCf kns 1000000 (.call 6 []) clean) = true := by decide +kernel
theorem closed : ClosedIs Tryz.prog 6 := closed_is hmix (by kernel_rfl) known run
end Go.Proofs.YtfnjojdiiklleaaGreat.Clm
