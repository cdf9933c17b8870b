/- What is asked of the text that TraceOften reaches. -/
import Derived.Test.YtfnjojdiiklleaaGreatFacts
namespace Go.Proofs.YtfnjojdiiklleaaGreat
set_option maxRecDepth 100000
theorem traceOften_inPlace : (Rows.traceOftenRow.inPlace == Tryz.prog.inPlace 3) = true := by kernel_rfl
theorem traceOften_unfollowed : (Rows.traceOftenRow.unfollowed == Tryz.prog.unfollowed 3) = true := by kernel_rfl
theorem traceOften_recurses : (Rows.traceOftenRow.recurses == Tryz.prog.recurses 3) = true := by kernel_rfl
theorem traceOften_named : (Rows.traceOftenRow.named == Tryz.prog.varsNamed 3) = true := by kernel_rfl
theorem traceOften_facts : joinedFacts Tryz.prog 3 Tryz.f3 Rows.traceOftenSpec Rows.traceOftenRow = true := by
  unfold joinedFacts
  repeat' (with_reducible (apply and_t))
  all_goals first
    | with_reducible exact fact_laid
    | with_reducible exact fact_rowed
    | with_reducible exact fact_heard
    | with_reducible exact fact_enter
    | with_reducible exact traceOften_inPlace
    | with_reducible exact traceOften_unfollowed
    | with_reducible exact traceOften_recurses
    | with_reducible exact traceOften_named
    | (as_aux_lemma => kernel_rfl)
end Go.Proofs.YtfnjojdiiklleaaGreat
