/- Whatever the input, the law FnExactDeadNodes answers true, and its arguments read as before. No conditions. -/
import Derived.Test.YtngefcgbfpelcaaLiftFnExactDeadNodes
import Derived.Test.YtngefcgbfpelcaaFactsFnExactDeadNodes
namespace Go.Proofs.Ytngefcgbfpelcaa.fnExactDeadNodes
open Go.RowKit
theorem over : Rows.fnExactDeadNodesRow.holds Try.pinned (OpenSpec.ofChange Rows.fnExactDeadNodesSpec) :=
  OpenClaim.holds_of_wide 3 Try.f3 rfl rfl rfl rfl rfl rfl rfl ⟨rfl, rfl, rfl, rfl, rfl⟩ rfl rfl rfl rfl rfl (by kernel_rfl) Try.func3 facts
    (of_decide_eq_true (by kernel_rfl)) (by unfold Func.isWrapper; first | (rw [if_pos (by decide +kernel)]; kernel_rfl) | (rw [if_neg (by decide +kernel)]; exact ⟨rfl, rfl⟩))
    (fun os started H enc _ => lifted os started H enc)
end Go.Proofs.Ytngefcgbfpelcaa.fnExactDeadNodes
namespace Go.Proofs.Ytngefcgbfpelcaa
/-- The row, under a short name, for the claim. -/
theorem fnExactDeadNodes_holds : Rows.FnExactDeadNodesSaid := fnExactDeadNodes.over
#print axioms fnExactDeadNodes_holds
end Go.Proofs.Ytngefcgbfpelcaa
