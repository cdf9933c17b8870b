/- A closed run on abstract memory: every outcome is true. -/
import Derived.Test.YtfnjojdiiklleaaGreatEwK
import Derived.Test.YtfnjojdiiklleaaGreatKgrK1
import Derived.Test.YtfnjojdiiklleaaGreatKgrK2
import Derived.Test.YtfnjojdiiklleaaGreatKgrK3
import Derived.Test.YtfnjojdiiklleaaGreatKgrK4
import Derived.Test.YtfnjojdiiklleaaGreatKgrK5
import Derived.Test.YtfnjojdiiklleaaGreatKgrK6
import Derived.Test.YtfnjojdiiklleaaGreatKgrK7
import Derived.Test.YtfnjojdiiklleaaGreatKgrK8
namespace Go.Proofs.YtfnjojdiiklleaaGreat.Kgr
open Go.Proofs.YtfnjojdiiklleaaGreat Go.Proofs.YtfnjojdiiklleaaGreat.Ev
set_option maxRecDepth 100000
noncomputable def kns : List Kn := [kk1, kk2, kk3, kk4, kk5, kk6, kk7, kk8, kk9, kk10, kk11, kk12, kk13, kk14, kk15, kk16, kk17, kk18, kk19, kk20, kk21, kk22, kk23, kk24, kk25, kk26, kk27, kk28, kk29, kk30, kk31, kk32, kk33, kk34, kk35, kk36, kk37, kk38, kk39, kk40, kk41, kk42, kk43, kk44, kk45, kk46, kk47, kk48, kk49, kk50, kk51, kk52, kk53, kk54]
theorem is_known {e e' : Kn} (hw : wfKn e = true) (h : fevK Tryz.prog runCf [] 1000000 (.call e.f e.args) e.s = .one (.val e.v, e.s')) (l : List Nam) (h1 : e'.f = e.f) (h2 : e'.args = e.args) (h3 : e'.s = e.s) (h4 : e'.v = e.v) (h5 : e'.s' = killL l e.s') : KnIs Tryz.prog e' :=
  kn_kill (kn_by hmix (fun _ hx => absurd hx List.not_mem_nil) hw h) h1 h2 h3 h4 h5
theorem known : ∀ e ∈ kns, KnIs Tryz.prog e := by
  intro e he
  simp only [kns, List.mem_cons, List.not_mem_nil, or_false] at he
  rcases he with rfl | rfl | rfl | rfl | rfl | rfl | rfl | rfl | rfl | rfl | rfl | rfl | rfl | rfl | rfl | rfl | rfl | rfl | rfl | rfl | rfl | rfl | rfl | rfl | rfl | rfl | rfl | rfl | rfl | rfl | rfl | rfl | rfl | rfl | rfl | rfl | rfl | rfl | rfl | rfl | rfl | rfl | rfl | rfl | rfl | rfl | rfl | rfl | rfl | rfl | rfl | rfl | rfl | rfl
  · exact is_known wf1 run1 [] rfl rfl rfl rfl (by kernel_rfl)
  · exact is_known wf2 run2 [] rfl rfl rfl rfl (by kernel_rfl)
  · exact is_known wf3 run3 [nam 2047] rfl rfl rfl rfl (by kernel_rfl)
  · exact is_known wf4 run4 [nam 2618] rfl rfl rfl rfl (by kernel_rfl)
  · exact is_known wf5 run5 [nam 2070, nam 2342, nam 3053] rfl rfl rfl rfl (by kernel_rfl)
  · exact is_known wf6 run6 [nam 1501, nam 1638, nam 1771, nam 1773, nam 2207, nam 3074] rfl rfl rfl rfl (by kernel_rfl)
  · exact is_known wf7 run7 [nam 2340, nam 2642, nam 2912, nam 2914, nam 3509] rfl rfl rfl rfl (by kernel_rfl)
  · exact is_known wf8 run8 [nam 2779, nam 3212, nam 3488, nam 3948] rfl rfl rfl rfl (by kernel_rfl)
  · exact is_known wf9 run9 [nam 546, nam 547, nam 567, nam 3486, nam 3647, nam 3927, nam 4383] rfl rfl rfl rfl (by kernel_rfl)
  · exact is_known wf10 run10 [nam 986, nam 987, nam 1007, nam 3925, nam 4521, nam 4801, nam 4822] rfl rfl rfl rfl (by kernel_rfl)
  · exact is_known wf11 run11 [nam 5378, nam 5516, nam 5686, nam 5739, nam 5740, nam 5760, nam 5909] rfl rfl rfl rfl (by kernel_rfl)
  · exact is_known wf12 run12 [nam 1426, nam 1427, nam 1447, nam 4086, nam 4360, nam 4362, nam 4799, nam 5930] rfl rfl rfl rfl (by kernel_rfl)
  · exact is_known wf13 run13 [nam 5724, nam 5726, nam 6068, nam 6238, nam 6276, nam 6278, nam 6291, nam 6292, nam 6312, nam 6465, nam 6486] rfl rfl rfl rfl (by kernel_rfl)
  · exact is_known wf14 run14 [nam 4960, nam 5130, nam 5168, nam 5170, nam 5183, nam 5184, nam 5204, nam 5355, nam 5357, nam 5907, nam 8115] rfl rfl rfl rfl (by kernel_rfl)
  · exact is_known wf15 run15 [nam 6463, nam 6624, nam 6794, nam 6832, nam 6834, nam 6847, nam 6848, nam 6868, nam 7017, nam 8136] rfl rfl rfl rfl (by kernel_rfl)
  · exact is_known wf16 run16 [nam 7015, nam 7185, nam 7364, nam 7412, nam 7414, nam 7432, nam 7434, nam 7456, nam 7457, nam 7494, nam 7520, nam 7525, nam 7823, nam 8774] rfl rfl rfl rfl (by kernel_rfl)
  · exact is_known wf17 run17 [nam 5166, nam 7672, nam 8283, nam 8459, nam 8507, nam 8509, nam 8531, nam 8532, nam 8552, nam 8595, nam 8600, nam 8753, nam 10558] rfl rfl rfl rfl (by kernel_rfl)
  · exact is_known wf18 run18 [nam 7821, nam 8921, nam 9097, nam 9145, nam 9147, nam 9169, nam 9170, nam 9207, nam 9233, nam 9238, nam 9387, nam 10579] rfl rfl rfl rfl (by kernel_rfl)
  · exact is_known wf19 run19 [nam 5722, nam 8751, nam 9555, nam 9734, nam 9792, nam 9794, nam 9845, nam 9846, nam 9883, nam 9909, nam 9914, nam 9963, nam 9968, nam 10266, nam 11230] rfl rfl rfl rfl (by kernel_rfl)
  · exact is_known wf20 run20 [nam 6274, nam 9385, nam 9812, nam 9814, nam 11937, nam 12084, nam 12383, nam 12384, nam 12421, nam 12447, nam 12452, nam 12501, nam 12506, nam 12646] rfl rfl rfl rfl (by kernel_rfl)
  · exact is_known wf21 run21 [nam 10115, nam 10726, nam 10878, nam 10883, nam 10996, nam 10997, nam 11017, nam 11060, nam 11065, nam 11209, nam 12667] rfl rfl rfl rfl (by kernel_rfl)
  · exact is_known wf22 run22 [nam 6830, nam 10264, nam 11377, nam 11553, nam 11611, nam 11613, nam 11644, nam 11645, nam 11682, nam 11725, nam 11730, nam 11762, nam 11767, nam 11916, nam 13401] rfl rfl rfl rfl (by kernel_rfl)
  · exact is_known wf23 run23 [nam 7410, nam 11207, nam 12236, nam 12241, nam 12814, nam 13113, nam 13114, nam 13151, nam 13177, nam 13182, nam 13231, nam 13236, nam 13380, nam 14112] rfl rfl rfl rfl (by kernel_rfl)
  · exact is_known wf24 run24 [nam 7430, nam 11914, nam 12966, nam 12971, nam 14842, nam 14984, nam 15218, nam 15219, nam 15256, nam 15282, nam 15287, nam 15336, nam 15341] rfl rfl rfl rfl (by kernel_rfl)
  · exact is_known wf25 run25 [nam 8505, nam 12644, nam 13548, nam 13724, nam 13782, nam 13784, nam 13815, nam 13816, nam 13836, nam 13879, nam 13884, nam 13933, nam 13938, nam 14091, nam 15362] rfl rfl rfl rfl (by kernel_rfl)
  · exact is_known wf26 run26 [nam 9143, nam 13378, nam 14259, nam 14411, nam 14416, nam 14558, nam 14559, nam 14596, nam 14639, nam 14644, nam 14676, nam 14681, nam 14821, nam 16096] rfl rfl rfl rfl (by kernel_rfl)
  · exact is_known wf27 run27 [nam 9790, nam 14089, nam 15131, nam 15134, nam 15509, nam 15808, nam 15809, nam 15846, nam 15872, nam 15877, nam 15926, nam 15931, nam 16075, nam 16616] rfl rfl rfl rfl (by kernel_rfl)
  · exact is_known wf28 run28 [nam 9810, nam 14819, nam 15661, nam 15666, nam 17136, nam 17283, nam 17580, nam 17581, nam 17618, nam 17644, nam 17649, nam 17698, nam 17703, nam 17843] rfl rfl rfl rfl (by kernel_rfl)
  · exact is_known wf29 run29 [nam 11609, nam 16073, nam 16758, nam 16905, nam 16908, nam 16992, nam 16993, nam 17030, nam 17073, nam 17078, nam 17110, nam 17115, nam 17864] rfl rfl rfl rfl (by kernel_rfl)
  · exact is_known wf30 run30 [nam 13780, nam 16238, nam 16385, nam 16388, nam 16472, nam 16473, nam 16493, nam 16536, nam 16541, nam 16590, nam 16595, nam 17841, nam 18382] rfl rfl rfl rfl (by kernel_rfl)
  · exact is_known wf31 run31 [nam 19450] rfl rfl rfl rfl (by kernel_rfl)
  · exact is_known wf32 run32 [nam 18900, nam 19473] rfl rfl rfl rfl (by kernel_rfl)
  · exact is_known wf33 run33 [nam 19497, nam 20392] rfl rfl rfl rfl (by kernel_rfl)
  · exact is_known wf34 run34 [nam 19845, nam 20117, nam 20826] rfl rfl rfl rfl (by kernel_rfl)
  · exact is_known wf35 run35 [nam 19550, nam 19687, nam 19820, nam 19822, nam 19982, nam 20847] rfl rfl rfl rfl (by kernel_rfl)
  · exact is_known wf36 run36 [nam 20115, nam 20416, nam 20686, nam 20688, nam 21006] rfl rfl rfl rfl (by kernel_rfl)
  · exact is_known wf37 run37 [nam 20553, nam 20985, nam 21165] rfl rfl rfl rfl (by kernel_rfl)
  · exact is_known wf38 run38 [nam 21515] rfl rfl rfl rfl (by kernel_rfl)
  · exact is_known wf39 run39 [nam 21324, nam 21538] rfl rfl rfl rfl (by kernel_rfl)
  · exact is_known wf40 run40 [nam 21562, nam 22457] rfl rfl rfl rfl (by kernel_rfl)
  · exact is_known wf41 run41 [nam 21910, nam 22182, nam 22891] rfl rfl rfl rfl (by kernel_rfl)
  · exact is_known wf42 run42 [nam 21615, nam 21752, nam 21885, nam 21887, nam 22047, nam 22912] rfl rfl rfl rfl (by kernel_rfl)
  · exact is_known wf43 run43 [nam 22180, nam 22481, nam 22751, nam 22753, nam 23071] rfl rfl rfl rfl (by kernel_rfl)
  · exact is_known wf44 run44 [nam 22618, nam 23050, nam 23230] rfl rfl rfl rfl (by kernel_rfl)
  · exact is_known wf45 run45 [nam 23580] rfl rfl rfl rfl (by kernel_rfl)
  · exact is_known wf46 run46 [nam 23389, nam 23603] rfl rfl rfl rfl (by kernel_rfl)
  · exact is_known wf47 run47 [nam 23627, nam 24522] rfl rfl rfl rfl (by kernel_rfl)
  · exact is_known wf48 run48 [nam 23975, nam 24247, nam 24956] rfl rfl rfl rfl (by kernel_rfl)
  · exact is_known wf49 run49 [nam 23680, nam 23817, nam 23950, nam 23952, nam 24112, nam 24977] rfl rfl rfl rfl (by kernel_rfl)
  · exact is_known wf50 run50 [nam 24245, nam 24546, nam 24816, nam 24818, nam 25136] rfl rfl rfl rfl (by kernel_rfl)
  · exact is_known wf51 run51 [nam 24683, nam 25115, nam 25295] rfl rfl rfl rfl (by kernel_rfl)
  · exact is_known wf52 run52 [] rfl rfl rfl rfl (by kernel_rfl)
  · exact is_known wf53 run53 [] rfl rfl rfl rfl (by kernel_rfl)
  · exact is_known wf54 run54 [] rfl rfl rfl rfl (by kernel_rfl)
theorem run : allTrue (fevK Tryz.prog runCf kns 1000000 (.call 22 []) clean) = true := by decide +kernel
theorem closed : ClosedIs Tryz.prog 22 := closed_is hmix (by kernel_rfl) known run
end Go.Proofs.YtfnjojdiiklleaaGreat.Kgr
