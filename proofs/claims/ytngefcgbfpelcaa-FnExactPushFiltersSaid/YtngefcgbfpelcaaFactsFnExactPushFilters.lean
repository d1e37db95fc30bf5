/- Closed facts of the row of FnExactPushFilters. -/
import Derived.Test.YtngefcgbfpelcaaRows
import Derived.JoinedOf
namespace Go.Proofs.Ytngefcgbfpelcaa.fnExactPushFilters
theorem fc1 : (Rows.fnExactPushFiltersRow.inPlace == Try.prog.inPlace 6) = true := by kernel_rfl
theorem fc2 : (Rows.fnExactPushFiltersRow.unfollowed == Try.prog.unfollowed 6) = true := by kernel_rfl
theorem fc3 : (Rows.fnExactPushFiltersRow.recurses == Try.prog.recurses 6) = true := by kernel_rfl
theorem fc4 : (Rows.fnExactPushFiltersRow.named == Try.prog.varsNamed 6) = true := by kernel_rfl
theorem facts : joinedFacts Try.prog 6 Try.f6 Rows.fnExactPushFiltersSpec Rows.fnExactPushFiltersRow = true := by
  unfold joinedFacts
  rw [fc1, fc2, fc3, fc4]
  kernel_rfl
end Go.Proofs.Ytngefcgbfpelcaa.fnExactPushFilters
