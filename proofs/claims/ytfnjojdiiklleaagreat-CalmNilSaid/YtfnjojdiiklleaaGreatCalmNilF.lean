/- What is asked of the text that CalmNil reaches. -/
import Derived.Test.YtfnjojdiiklleaaGreatFacts
namespace Go.Proofs.YtfnjojdiiklleaaGreat
set_option maxRecDepth 100000
theorem calmNil_inPlace : (Rows.calmNilRow.inPlace == Tryz.prog.inPlace 6) = true := by kernel_rfl
theorem calmNil_unfollowed : (Rows.calmNilRow.unfollowed == Tryz.prog.unfollowed 6) = true := by kernel_rfl
theorem calmNil_recurses : (Rows.calmNilRow.recurses == Tryz.prog.recurses 6) = true := by kernel_rfl
theorem calmNil_named : (Rows.calmNilRow.named == Tryz.prog.varsNamed 6) = true := by kernel_rfl
theorem calmNil_facts : joinedFacts Tryz.prog 6 Tryz.f6 Rows.calmNilSpec Rows.calmNilRow = true := by
  unfold joinedFacts
  repeat' (with_reducible (apply and_t))
  all_goals first
    | with_reducible exact fact_laid
    | with_reducible exact fact_rowed
    | with_reducible exact fact_heard
    | with_reducible exact fact_enter
    | with_reducible exact calmNil_inPlace
    | with_reducible exact calmNil_unfollowed
    | with_reducible exact calmNil_recurses
    | with_reducible exact calmNil_named
    | (as_aux_lemma => kernel_rfl)
end Go.Proofs.YtfnjojdiiklleaaGreat
