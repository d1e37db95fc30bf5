/- Whatever the input, the law FnExactFullLinks answers true, and its arguments read as before. No conditions. -/
import Derived.Test.YtiieincddkhcdaaGreatLiftFnExactFullLinks
import Derived.Test.YtiieincddkhcdaaGreatFactsFnExactFullLinks
namespace Go.Proofs.YtiieincddkhcdaaGreat.fnExactFullLinks
open Go.RowKit
theorem over : Rows.fnExactFullLinksRow.holds Tryz.pinned (OpenSpec.ofChange Rows.fnExactFullLinksSpec) :=
  OpenClaim.holds_of_wide 8 Tryz.f8 rfl rfl rfl rfl rfl rfl rfl ⟨rfl, rfl, rfl, rfl, rfl⟩ rfl rfl rfl rfl rfl (by kernel_rfl) Tryz.func8 facts
    (of_decide_eq_true (by kernel_rfl)) (by unfold Func.isWrapper; first | (rw [if_pos (by decide +kernel)]; kernel_rfl) | (rw [if_neg (by decide +kernel)]; exact ⟨rfl, rfl⟩))
    (fun os started H enc _ => lifted os started H enc)
end Go.Proofs.YtiieincddkhcdaaGreat.fnExactFullLinks
namespace Go.Proofs.YtiieincddkhcdaaGreat
/-- The row, under a short name, for the claim. -/
theorem fnExactFullLinks_holds : Rows.FnExactFullLinksSaid := fnExactFullLinks.over
#print axioms fnExactFullLinks_holds
end Go.Proofs.YtiieincddkhcdaaGreat
