/- Whatever the input, the law FnExactRewritePlan answers true, and its arguments read as before. No conditions. -/
import Derived.Test.YtngefcgbfpelcaaLiftFnExactRewritePlan
import Derived.Test.YtngefcgbfpelcaaFactsFnExactRewritePlan
namespace Go.Proofs.Ytngefcgbfpelcaa.fnExactRewritePlan
open Go.RowKit
theorem over : Rows.fnExactRewritePlanRow.holds Try.pinned (OpenSpec.ofChange Rows.fnExactRewritePlanSpec) :=
  OpenClaim.holds_of_wide 8 Try.f8 rfl rfl rfl rfl rfl rfl rfl ⟨rfl, rfl, rfl, rfl, rfl⟩ rfl rfl rfl rfl rfl (by kernel_rfl) Try.func8 facts
    (of_decide_eq_true (by kernel_rfl)) (by unfold Func.isWrapper; first | (rw [if_pos (by decide +kernel)]; kernel_rfl) | (rw [if_neg (by decide +kernel)]; exact ⟨rfl, rfl⟩))
    (fun os started H enc _ => lifted os started H enc)
end Go.Proofs.Ytngefcgbfpelcaa.fnExactRewritePlan
namespace Go.Proofs.Ytngefcgbfpelcaa
/-- The row, under a short name, for the claim. -/
theorem fnExactRewritePlan_holds : Rows.FnExactRewritePlanSaid := fnExactRewritePlan.over
#print axioms fnExactRewritePlan_holds
end Go.Proofs.Ytngefcgbfpelcaa
