/- Closed facts of the row of FnExactPrunePlan. -/
import Derived.Test.YtngefcgbfpelcaaRows
import Derived.JoinedOf
namespace Go.Proofs.Ytngefcgbfpelcaa.fnExactPrunePlan
theorem fc1 : (Rows.fnExactPrunePlanRow.inPlace == Try.prog.inPlace 7) = true := by kernel_rfl
theorem fc2 : (Rows.fnExactPrunePlanRow.unfollowed == Try.prog.unfollowed 7) = true := by kernel_rfl
theorem fc3 : (Rows.fnExactPrunePlanRow.recurses == Try.prog.recurses 7) = true := by kernel_rfl
theorem fc4 : (Rows.fnExactPrunePlanRow.named == Try.prog.varsNamed 7) = true := by kernel_rfl
theorem facts : joinedFacts Try.prog 7 Try.f7 Rows.fnExactPrunePlanSpec Rows.fnExactPrunePlanRow = true := by
  unfold joinedFacts
  rw [fc1, fc2, fc3, fc4]
  kernel_rfl
end Go.Proofs.Ytngefcgbfpelcaa.fnExactPrunePlan
