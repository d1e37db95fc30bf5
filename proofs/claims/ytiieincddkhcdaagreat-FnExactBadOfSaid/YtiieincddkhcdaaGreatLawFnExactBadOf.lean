/- Whatever the input, the law FnExactBadOf answers true, and its arguments read as before. No conditions. -/
import Derived.Test.YtiieincddkhcdaaGreatLiftFnExactBadOf
import Derived.Test.YtiieincddkhcdaaGreatFactsFnExactBadOf
namespace Go.Proofs.YtiieincddkhcdaaGreat.fnExactBadOf
open Go.RowKit
theorem over : Rows.fnExactBadOfRow.holds Tryz.pinned (OpenSpec.ofChange Rows.fnExactBadOfSpec) :=
  OpenClaim.holds_of_wide 6 Tryz.f6 rfl rfl rfl rfl rfl rfl rfl ⟨rfl, rfl, rfl, rfl, rfl⟩ rfl rfl rfl rfl rfl (by kernel_rfl) Tryz.func6 facts
    (of_decide_eq_true (by kernel_rfl)) (by unfold Func.isWrapper; first | (rw [if_pos (by decide +kernel)]; kernel_rfl) | (rw [if_neg (by decide +kernel)]; exact ⟨rfl, rfl⟩))
    (fun os started H enc _ => lifted os started H enc)
end Go.Proofs.YtiieincddkhcdaaGreat.fnExactBadOf
namespace Go.Proofs.YtiieincddkhcdaaGreat
/-- The row, under a short name, for the claim. -/
theorem fnExactBadOf_holds : Rows.FnExactBadOfSaid := fnExactBadOf.over
#print axioms fnExactBadOf_holds
end Go.Proofs.YtiieincddkhcdaaGreat
