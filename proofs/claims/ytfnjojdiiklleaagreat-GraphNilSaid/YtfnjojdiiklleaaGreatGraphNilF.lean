/- What is asked of the text that GraphNil reaches. -/
import Derived.Test.YtfnjojdiiklleaaGreatFacts
namespace Go.Proofs.YtfnjojdiiklleaaGreat
set_option maxRecDepth 100000
theorem graphNil_inPlace : (Rows.graphNilRow.inPlace == Tryz.prog.inPlace 5) = true := by kernel_rfl
theorem graphNil_unfollowed : (Rows.graphNilRow.unfollowed == Tryz.prog.unfollowed 5) = true := by kernel_rfl
theorem graphNil_recurses : (Rows.graphNilRow.recurses == Tryz.prog.recurses 5) = true := by kernel_rfl
theorem graphNil_named : (Rows.graphNilRow.named == Tryz.prog.varsNamed 5) = true := by kernel_rfl
theorem graphNil_facts : joinedFacts Tryz.prog 5 Tryz.f5 Rows.graphNilSpec Rows.graphNilRow = true := by
  unfold joinedFacts
  repeat' (with_reducible (apply and_t))
  all_goals first
    | with_reducible exact fact_laid
    | with_reducible exact fact_rowed
    | with_reducible exact fact_heard
    | with_reducible exact fact_enter
    | with_reducible exact graphNil_inPlace
    | with_reducible exact graphNil_unfollowed
    | with_reducible exact graphNil_recurses
    | with_reducible exact graphNil_named
    | (as_aux_lemma => kernel_rfl)
end Go.Proofs.YtfnjojdiiklleaaGreat
