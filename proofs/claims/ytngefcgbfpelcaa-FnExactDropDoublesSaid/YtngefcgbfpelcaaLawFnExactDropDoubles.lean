/- Whatever the input, the law FnExactDropDoubles answers true, and its arguments read as before. No conditions. -/
import Derived.Test.YtngefcgbfpelcaaLiftFnExactDropDoubles
import Derived.Test.YtngefcgbfpelcaaFactsFnExactDropDoubles
namespace Go.Proofs.Ytngefcgbfpelcaa.fnExactDropDoubles
open Go.RowKit
theorem over : Rows.fnExactDropDoublesRow.holds Try.pinned (OpenSpec.ofChange Rows.fnExactDropDoublesSpec) :=
  OpenClaim.holds_of_wide 5 Try.f5 rfl rfl rfl rfl rfl rfl rfl ⟨rfl, rfl, rfl, rfl, rfl⟩ rfl rfl rfl rfl rfl (by kernel_rfl) Try.func5 facts
    (of_decide_eq_true (by kernel_rfl)) (by unfold Func.isWrapper; first | (rw [if_pos (by decide +kernel)]; kernel_rfl) | (rw [if_neg (by decide +kernel)]; exact ⟨rfl, rfl⟩))
    (fun os started H enc _ => lifted os started H enc)
end Go.Proofs.Ytngefcgbfpelcaa.fnExactDropDoubles
namespace Go.Proofs.Ytngefcgbfpelcaa
/-- The row, under a short name, for the claim. -/
theorem fnExactDropDoubles_holds : Rows.FnExactDropDoublesSaid := fnExactDropDoubles.over
#print axioms fnExactDropDoubles_holds
end Go.Proofs.Ytngefcgbfpelcaa
