/- What is asked of the text that TraceNil reaches. -/
import Derived.Test.YtfnjojdiiklleaaGreatFacts
namespace Go.Proofs.YtfnjojdiiklleaaGreat
set_option maxRecDepth 100000
theorem traceNil_inPlace : (Rows.traceNilRow.inPlace == Tryz.prog.inPlace 4) = true := by kernel_rfl
theorem traceNil_unfollowed : (Rows.traceNilRow.unfollowed == Tryz.prog.unfollowed 4) = true := by kernel_rfl
theorem traceNil_recurses : (Rows.traceNilRow.recurses == Tryz.prog.recurses 4) = true := by kernel_rfl
theorem traceNil_named : (Rows.traceNilRow.named == Tryz.prog.varsNamed 4) = true := by kernel_rfl
theorem traceNil_facts : joinedFacts Tryz.prog 4 Tryz.f4 Rows.traceNilSpec Rows.traceNilRow = true := by
  unfold joinedFacts
  repeat' (with_reducible (apply and_t))
  all_goals first
    | with_reducible exact fact_laid
    | with_reducible exact fact_rowed
    | with_reducible exact fact_heard
    | with_reducible exact fact_enter
    | with_reducible exact traceNil_inPlace
    | with_reducible exact traceNil_unfollowed
    | with_reducible exact traceNil_recurses
    | with_reducible exact traceNil_named
    | (as_aux_lemma => kernel_rfl)
end Go.Proofs.YtfnjojdiiklleaaGreat
