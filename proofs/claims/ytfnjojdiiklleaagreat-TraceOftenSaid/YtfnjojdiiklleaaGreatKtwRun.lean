/- A closed run on abstract memory: every outcome is true. -/
import Derived.Test.YtfnjojdiiklleaaGreatEwK
import Derived.Test.YtfnjojdiiklleaaGreatKtwK1
import Derived.Test.YtfnjojdiiklleaaGreatKtwK2
import Derived.Test.YtfnjojdiiklleaaGreatKtwK3
import Derived.Test.YtfnjojdiiklleaaGreatKtwK4
import Derived.Test.YtfnjojdiiklleaaGreatKtwK5
import Derived.Test.YtfnjojdiiklleaaGreatKtwK6
import Derived.Test.YtfnjojdiiklleaaGreatKtwK7
import Derived.Test.YtfnjojdiiklleaaGreatKtwK8
namespace Go.Proofs.YtfnjojdiiklleaaGreat.Ktw
open Go.Proofs.YtfnjojdiiklleaaGreat Go.Proofs.YtfnjojdiiklleaaGreat.Ev
set_option maxRecDepth 100000
noncomputable def kns : List Kn := [kk1, kk2, kk3, kk4, kk5, kk6, kk7, kk8, kk9, kk10, kk11, kk12, kk13, kk14, kk15, kk16, kk17, kk18, kk19, kk20, kk21, kk22, kk23, kk24, kk25, kk26, kk27, kk28, kk29, kk30, kk31, kk32, kk33, kk34, kk35, kk36, kk37, kk38, kk39, kk40, kk41, kk42, kk43, kk44, kk45, kk46, kk47, kk48, kk49, kk50, kk51, kk52, kk53, kk54]
theorem is_known {e e' : Kn} (hw : wfKn e = true) (h : fevK Tryz.prog runCf [] 1000000 (.call e.f e.args) e.s = .one (.val e.v, e.s')) (l : List Nam) (h1 : e'.f = e.f) (h2 : e'.args = e.args) (h3 : e'.s = e.s) (h4 : e'.v = e.v) (h5 : e'.s' = killL l e.s') : KnIs Tryz.prog e' :=
  kn_kill (kn_by hmix (fun _ hx => absurd hx List.not_mem_nil) hw h) h1 h2 h3 h4 h5
theorem known : ∀ e ∈ kns, KnIs Tryz.prog e := by
  intro e he
  simp only [kns, List.mem_cons, List.not_mem_nil, or_false] at he
  rcases he with rfl | rfl | rfl | rfl | rfl | rfl | rfl | rfl | rfl | rfl | rfl | rfl | rfl | rfl | rfl | rfl | rfl | rfl | rfl | rfl | rfl | rfl | rfl | rfl | rfl | rfl | rfl | rfl | rfl | rfl | rfl | rfl | rfl | rfl | rfl | rfl | rfl | rfl | rfl | rfl | rfl | rfl | rfl | rfl | rfl | rfl | rfl | rfl | rfl | rfl | rfl | rfl | rfl | rfl
  · exact is_known wf1 run1 [] rfl rfl rfl rfl (by kernel_rfl)
  · exact is_known wf2 run2 [] rfl rfl rfl rfl (by kernel_rfl)
  · exact is_known wf3 run3 [nam 2048] rfl rfl rfl rfl (by kernel_rfl)
  · exact is_known wf4 run4 [nam 2619] rfl rfl rfl rfl (by kernel_rfl)
  · exact is_known wf5 run5 [nam 2071, nam 2343, nam 3054] rfl rfl rfl rfl (by kernel_rfl)
  · exact is_known wf6 run6 [nam 1502, nam 1639, nam 1772, nam 1774, nam 2208, nam 3075] rfl rfl rfl rfl (by kernel_rfl)
  · exact is_known wf7 run7 [nam 2341, nam 2643, nam 2913, nam 2915, nam 3510] rfl rfl rfl rfl (by kernel_rfl)
  · exact is_known wf8 run8 [nam 2780, nam 3213, nam 3489, nam 3949] rfl rfl rfl rfl (by kernel_rfl)
  · exact is_known wf9 run9 [nam 547, nam 548, nam 568, nam 3487, nam 3648, nam 3928, nam 4384] rfl rfl rfl rfl (by kernel_rfl)
  · exact is_known wf10 run10 [nam 987, nam 988, nam 1008, nam 3926, nam 4522, nam 4802, nam 4823] rfl rfl rfl rfl (by kernel_rfl)
  · exact is_known wf11 run11 [nam 5379, nam 5517, nam 5687, nam 5740, nam 5741, nam 5761, nam 5910] rfl rfl rfl rfl (by kernel_rfl)
  · exact is_known wf12 run12 [nam 1427, nam 1428, nam 1448, nam 4087, nam 4361, nam 4363, nam 4800, nam 5931] rfl rfl rfl rfl (by kernel_rfl)
  · exact is_known wf13 run13 [nam 5725, nam 5727, nam 6069, nam 6239, nam 6277, nam 6279, nam 6292, nam 6293, nam 6313, nam 6466, nam 6487] rfl rfl rfl rfl (by kernel_rfl)
  · exact is_known wf14 run14 [nam 4961, nam 5131, nam 5169, nam 5171, nam 5184, nam 5185, nam 5205, nam 5356, nam 5358, nam 5908, nam 8116] rfl rfl rfl rfl (by kernel_rfl)
  · exact is_known wf15 run15 [nam 6464, nam 6625, nam 6795, nam 6833, nam 6835, nam 6848, nam 6849, nam 6869, nam 7018, nam 8137] rfl rfl rfl rfl (by kernel_rfl)
  · exact is_known wf16 run16 [nam 7016, nam 7186, nam 7365, nam 7413, nam 7415, nam 7433, nam 7435, nam 7457, nam 7458, nam 7495, nam 7521, nam 7526, nam 7824, nam 8775] rfl rfl rfl rfl (by kernel_rfl)
  · exact is_known wf17 run17 [nam 5167, nam 7673, nam 8284, nam 8460, nam 8508, nam 8510, nam 8532, nam 8533, nam 8553, nam 8596, nam 8601, nam 8754, nam 10559] rfl rfl rfl rfl (by kernel_rfl)
  · exact is_known wf18 run18 [nam 7822, nam 8922, nam 9098, nam 9146, nam 9148, nam 9170, nam 9171, nam 9208, nam 9234, nam 9239, nam 9388, nam 10580] rfl rfl rfl rfl (by kernel_rfl)
  · exact is_known wf19 run19 [nam 5723, nam 8752, nam 9556, nam 9735, nam 9793, nam 9795, nam 9846, nam 9847, nam 9884, nam 9910, nam 9915, nam 9964, nam 9969, nam 10267, nam 11231] rfl rfl rfl rfl (by kernel_rfl)
  · exact is_known wf20 run20 [nam 6275, nam 9386, nam 9813, nam 9815, nam 11938, nam 12085, nam 12384, nam 12385, nam 12422, nam 12448, nam 12453, nam 12502, nam 12507, nam 12647] rfl rfl rfl rfl (by kernel_rfl)
  · exact is_known wf21 run21 [nam 10116, nam 10727, nam 10879, nam 10884, nam 10997, nam 10998, nam 11018, nam 11061, nam 11066, nam 11210, nam 12668] rfl rfl rfl rfl (by kernel_rfl)
  · exact is_known wf22 run22 [nam 6831, nam 10265, nam 11378, nam 11554, nam 11612, nam 11614, nam 11645, nam 11646, nam 11683, nam 11726, nam 11731, nam 11763, nam 11768, nam 11917, nam 13402] rfl rfl rfl rfl (by kernel_rfl)
  · exact is_known wf23 run23 [nam 7411, nam 11208, nam 12237, nam 12242, nam 12815, nam 13114, nam 13115, nam 13152, nam 13178, nam 13183, nam 13232, nam 13237, nam 13381, nam 14113] rfl rfl rfl rfl (by kernel_rfl)
  · exact is_known wf24 run24 [nam 7431, nam 11915, nam 12967, nam 12972, nam 14843, nam 14985, nam 15219, nam 15220, nam 15257, nam 15283, nam 15288, nam 15337, nam 15342] rfl rfl rfl rfl (by kernel_rfl)
  · exact is_known wf25 run25 [nam 8506, nam 12645, nam 13549, nam 13725, nam 13783, nam 13785, nam 13816, nam 13817, nam 13837, nam 13880, nam 13885, nam 13934, nam 13939, nam 14092, nam 15363] rfl rfl rfl rfl (by kernel_rfl)
  · exact is_known wf26 run26 [nam 9144, nam 13379, nam 14260, nam 14412, nam 14417, nam 14559, nam 14560, nam 14597, nam 14640, nam 14645, nam 14677, nam 14682, nam 14822, nam 16097] rfl rfl rfl rfl (by kernel_rfl)
  · exact is_known wf27 run27 [nam 9791, nam 14090, nam 15132, nam 15135, nam 15510, nam 15809, nam 15810, nam 15847, nam 15873, nam 15878, nam 15927, nam 15932, nam 16076, nam 16617] rfl rfl rfl rfl (by kernel_rfl)
  · exact is_known wf28 run28 [nam 9811, nam 14820, nam 15662, nam 15667, nam 17137, nam 17284, nam 17581, nam 17582, nam 17619, nam 17645, nam 17650, nam 17699, nam 17704, nam 17844] rfl rfl rfl rfl (by kernel_rfl)
  · exact is_known wf29 run29 [nam 11610, nam 16074, nam 16759, nam 16906, nam 16909, nam 16993, nam 16994, nam 17031, nam 17074, nam 17079, nam 17111, nam 17116, nam 17865] rfl rfl rfl rfl (by kernel_rfl)
  · exact is_known wf30 run30 [nam 13781, nam 16239, nam 16386, nam 16389, nam 16473, nam 16474, nam 16494, nam 16537, nam 16542, nam 16591, nam 16596, nam 17842, nam 18383] rfl rfl rfl rfl (by kernel_rfl)
  · exact is_known wf31 run31 [nam 19451] rfl rfl rfl rfl (by kernel_rfl)
  · exact is_known wf32 run32 [nam 18901, nam 19474] rfl rfl rfl rfl (by kernel_rfl)
  · exact is_known wf33 run33 [nam 19498, nam 20393] rfl rfl rfl rfl (by kernel_rfl)
  · exact is_known wf34 run34 [nam 19846, nam 20118, nam 20827] rfl rfl rfl rfl (by kernel_rfl)
  · exact is_known wf35 run35 [nam 19551, nam 19688, nam 19821, nam 19823, nam 19983, nam 20848] rfl rfl rfl rfl (by kernel_rfl)
  · exact is_known wf36 run36 [nam 20116, nam 20417, nam 20687, nam 20689, nam 21007] rfl rfl rfl rfl (by kernel_rfl)
  · exact is_known wf37 run37 [nam 20554, nam 20986, nam 21166] rfl rfl rfl rfl (by kernel_rfl)
  · exact is_known wf38 run38 [nam 21516] rfl rfl rfl rfl (by kernel_rfl)
  · exact is_known wf39 run39 [nam 21325, nam 21539] rfl rfl rfl rfl (by kernel_rfl)
  · exact is_known wf40 run40 [nam 21563, nam 22458] rfl rfl rfl rfl (by kernel_rfl)
  · exact is_known wf41 run41 [nam 21911, nam 22183, nam 22892] rfl rfl rfl rfl (by kernel_rfl)
  · exact is_known wf42 run42 [nam 21616, nam 21753, nam 21886, nam 21888, nam 22048, nam 22913] rfl rfl rfl rfl (by kernel_rfl)
  · exact is_known wf43 run43 [nam 22181, nam 22482, nam 22752, nam 22754, nam 23072] rfl rfl rfl rfl (by kernel_rfl)
  · exact is_known wf44 run44 [nam 22619, nam 23051, nam 23231] rfl rfl rfl rfl (by kernel_rfl)
  · exact is_known wf45 run45 [nam 23581] rfl rfl rfl rfl (by kernel_rfl)
  · exact is_known wf46 run46 [nam 23390, nam 23604] rfl rfl rfl rfl (by kernel_rfl)
  · exact is_known wf47 run47 [nam 23628, nam 24523] rfl rfl rfl rfl (by kernel_rfl)
  · exact is_known wf48 run48 [nam 23976, nam 24248, nam 24957] rfl rfl rfl rfl (by kernel_rfl)
  · exact is_known wf49 run49 [nam 23681, nam 23818, nam 23951, nam 23953, nam 24113, nam 24978] rfl rfl rfl rfl (by kernel_rfl)
  · exact is_known wf50 run50 [nam 24246, nam 24547, nam 24817, nam 24819, nam 25137] rfl rfl rfl rfl (by kernel_rfl)
  · exact is_known wf51 run51 [nam 24684, nam 25116, nam 25296] rfl rfl rfl rfl (by kernel_rfl)
  · exact is_known wf52 run52 [nam 25646] rfl rfl rfl rfl (by kernel_rfl)
  · exact is_known wf53 run53 [nam 25455, nam 25669, nam 26252] rfl rfl rfl rfl (by kernel_rfl)
  · exact is_known wf54 run54 [nam 25693, nam 26273, nam 27046] rfl rfl rfl rfl (by kernel_rfl)
theorem run : allTrue (fevK Tryz.prog runCf kns 1000000 (.call 7 []) clean) = true := by decide +kernel
theorem closed : ClosedIs Tryz.prog 7 := closed_is hmix (by kernel_rfl) known run
end Go.Proofs.YtfnjojdiiklleaaGreat.Ktw
