/- Whatever the input, the law FnExactPrunePlan answers true, and its arguments read as before. No conditions. -/
import Derived.Test.YtngefcgbfpelcaaLiftFnExactPrunePlan
import Derived.Test.YtngefcgbfpelcaaFactsFnExactPrunePlan
namespace Go.Proofs.Ytngefcgbfpelcaa.fnExactPrunePlan
open Go.RowKit
theorem over : Rows.fnExactPrunePlanRow.holds Try.pinned (OpenSpec.ofChange Rows.fnExactPrunePlanSpec) :=
  OpenClaim.holds_of_wide 7 Try.f7 rfl rfl rfl rfl rfl rfl rfl ⟨rfl, rfl, rfl, rfl, rfl⟩ rfl rfl rfl rfl rfl (by kernel_rfl) Try.func7 facts
    (of_decide_eq_true (by kernel_rfl)) (by unfold Func.isWrapper; first | (rw [if_pos (by decide +kernel)]; kernel_rfl) | (rw [if_neg (by decide +kernel)]; exact ⟨rfl, rfl⟩))
    (fun os started H enc _ => lifted os started H enc)
end Go.Proofs.Ytngefcgbfpelcaa.fnExactPrunePlan
namespace Go.Proofs.Ytngefcgbfpelcaa
/-- The row, under a short name, for the claim. -/
theorem fnExactPrunePlan_holds : Rows.FnExactPrunePlanSaid := fnExactPrunePlan.over
#print axioms fnExactPrunePlan_holds
end Go.Proofs.Ytngefcgbfpelcaa
