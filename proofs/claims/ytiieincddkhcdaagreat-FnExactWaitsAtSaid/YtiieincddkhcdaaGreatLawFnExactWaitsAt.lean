/- Whatever the input, the law FnExactWaitsAt answers true, and its arguments read as before. No conditions. -/
import Derived.Test.YtiieincddkhcdaaGreatLiftFnExactWaitsAt
import Derived.Test.YtiieincddkhcdaaGreatFactsFnExactWaitsAt
namespace Go.Proofs.YtiieincddkhcdaaGreat.fnExactWaitsAt
open Go.RowKit
theorem over : Rows.fnExactWaitsAtRow.holds Tryz.pinned (OpenSpec.ofChange Rows.fnExactWaitsAtSpec) :=
  OpenClaim.holds_of_wide 3 Tryz.f3 rfl rfl rfl rfl rfl rfl rfl ⟨rfl, rfl, rfl, rfl, rfl⟩ rfl rfl rfl rfl rfl (by kernel_rfl) Tryz.func3 facts
    (of_decide_eq_true (by kernel_rfl)) (by unfold Func.isWrapper; first | (rw [if_pos (by decide +kernel)]; kernel_rfl) | (rw [if_neg (by decide +kernel)]; exact ⟨rfl, rfl⟩))
    (fun os started H enc _ => lifted os started H enc)
end Go.Proofs.YtiieincddkhcdaaGreat.fnExactWaitsAt
namespace Go.Proofs.YtiieincddkhcdaaGreat
/-- The row, under a short name, for the claim. -/
theorem fnExactWaitsAt_holds : Rows.FnExactWaitsAtSaid := fnExactWaitsAt.over
#print axioms fnExactWaitsAt_holds
end Go.Proofs.YtiieincddkhcdaaGreat
