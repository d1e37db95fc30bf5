/- Whatever the input, the law FnExactFoldProjects answers true, and its arguments read as before. No conditions. -/
import Derived.Test.YtngefcgbfpelcaaLiftFnExactFoldProjects
import Derived.Test.YtngefcgbfpelcaaFactsFnExactFoldProjects
namespace Go.Proofs.Ytngefcgbfpelcaa.fnExactFoldProjects
open Go.RowKit
theorem over : Rows.fnExactFoldProjectsRow.holds Try.pinned (OpenSpec.ofChange Rows.fnExactFoldProjectsSpec) :=
  OpenClaim.holds_of_wide 4 Try.f4 rfl rfl rfl rfl rfl rfl rfl ⟨rfl, rfl, rfl, rfl, rfl⟩ rfl rfl rfl rfl rfl (by kernel_rfl) Try.func4 facts
    (of_decide_eq_true (by kernel_rfl)) (by unfold Func.isWrapper; first | (rw [if_pos (by decide +kernel)]; kernel_rfl) | (rw [if_neg (by decide +kernel)]; exact ⟨rfl, rfl⟩))
    (fun os started H enc _ => lifted os started H enc)
end Go.Proofs.Ytngefcgbfpelcaa.fnExactFoldProjects
namespace Go.Proofs.Ytngefcgbfpelcaa
/-- The row, under a short name, for the claim. -/
theorem fnExactFoldProjects_holds : Rows.FnExactFoldProjectsSaid := fnExactFoldProjects.over
#print axioms fnExactFoldProjects_holds
end Go.Proofs.Ytngefcgbfpelcaa
