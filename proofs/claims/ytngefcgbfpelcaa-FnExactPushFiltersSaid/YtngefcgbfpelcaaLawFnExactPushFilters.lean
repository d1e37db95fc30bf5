/- Whatever the input, the law FnExactPushFilters answers true, and its arguments read as before. No conditions. -/
import Derived.Test.YtngefcgbfpelcaaLiftFnExactPushFilters
import Derived.Test.YtngefcgbfpelcaaFactsFnExactPushFilters
namespace Go.Proofs.Ytngefcgbfpelcaa.fnExactPushFilters
open Go.RowKit
theorem over : Rows.fnExactPushFiltersRow.holds Try.pinned (OpenSpec.ofChange Rows.fnExactPushFiltersSpec) :=
  OpenClaim.holds_of_wide 6 Try.f6 rfl rfl rfl rfl rfl rfl rfl ⟨rfl, rfl, rfl, rfl, rfl⟩ rfl rfl rfl rfl rfl (by kernel_rfl) Try.func6 facts
    (of_decide_eq_true (by kernel_rfl)) (by unfold Func.isWrapper; first | (rw [if_pos (by decide +kernel)]; kernel_rfl) | (rw [if_neg (by decide +kernel)]; exact ⟨rfl, rfl⟩))
    (fun os started H enc _ => lifted os started H enc)
end Go.Proofs.Ytngefcgbfpelcaa.fnExactPushFilters
namespace Go.Proofs.Ytngefcgbfpelcaa
/-- The row, under a short name, for the claim. -/
theorem fnExactPushFilters_holds : Rows.FnExactPushFiltersSaid := fnExactPushFilters.over
#print axioms fnExactPushFilters_holds
end Go.Proofs.Ytngefcgbfpelcaa
