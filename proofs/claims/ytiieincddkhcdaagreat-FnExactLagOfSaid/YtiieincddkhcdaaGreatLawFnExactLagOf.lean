/- Whatever the input, the law FnExactLagOf answers true, and its arguments read as before. No conditions. -/
import Derived.Test.YtiieincddkhcdaaGreatLiftFnExactLagOf
import Derived.Test.YtiieincddkhcdaaGreatFactsFnExactLagOf
namespace Go.Proofs.YtiieincddkhcdaaGreat.fnExactLagOf
open Go.RowKit
theorem over : Rows.fnExactLagOfRow.holds Tryz.pinned (OpenSpec.ofChange Rows.fnExactLagOfSpec) :=
  OpenClaim.holds_of_wide 4 Tryz.f4 rfl rfl rfl rfl rfl rfl rfl ⟨rfl, rfl, rfl, rfl, rfl⟩ rfl rfl rfl rfl rfl (by kernel_rfl) Tryz.func4 facts
    (of_decide_eq_true (by kernel_rfl)) (by unfold Func.isWrapper; first | (rw [if_pos (by decide +kernel)]; kernel_rfl) | (rw [if_neg (by decide +kernel)]; exact ⟨rfl, rfl⟩))
    (fun os started H enc _ => lifted os started H enc)
end Go.Proofs.YtiieincddkhcdaaGreat.fnExactLagOf
namespace Go.Proofs.YtiieincddkhcdaaGreat
/-- The row, under a short name, for the claim. -/
theorem fnExactLagOf_holds : Rows.FnExactLagOfSaid := fnExactLagOf.over
#print axioms fnExactLagOf_holds
end Go.Proofs.YtiieincddkhcdaaGreat
