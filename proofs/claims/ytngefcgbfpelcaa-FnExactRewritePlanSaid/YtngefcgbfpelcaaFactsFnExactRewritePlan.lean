/- Closed facts of the row of FnExactRewritePlan. -/
import Derived.Test.YtngefcgbfpelcaaRows
import Derived.JoinedOf
namespace Go.Proofs.Ytngefcgbfpelcaa.fnExactRewritePlan
theorem fc1 : (Rows.fnExactRewritePlanRow.inPlace == Try.prog.inPlace 8) = true := by kernel_rfl
theorem fc2 : (Rows.fnExactRewritePlanRow.unfollowed == Try.prog.unfollowed 8) = true := by kernel_rfl
theorem fc3 : (Rows.fnExactRewritePlanRow.recurses == Try.prog.recurses 8) = true := by kernel_rfl
theorem fc4 : (Rows.fnExactRewritePlanRow.named == Try.prog.varsNamed 8) = true := by kernel_rfl
theorem facts : joinedFacts Try.prog 8 Try.f8 Rows.fnExactRewritePlanSpec Rows.fnExactRewritePlanRow = true := by
  unfold joinedFacts
  rw [fc1, fc2, fc3, fc4]
  kernel_rfl
end Go.Proofs.Ytngefcgbfpelcaa.fnExactRewritePlan
