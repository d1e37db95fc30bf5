/- Whatever the input, the law FnExactUnpackNews answers true, and its arguments read as before. No conditions. -/
import Derived.Test.YtafdnkachndacaaLiftFnExactUnpackNews
import Derived.Test.YtafdnkachndacaaFactsFnExactUnpackNews
namespace Go.Proofs.Ytafdnkachndacaa.fnExactUnpackNews
open Go.RowKit
theorem over : Rows.fnExactUnpackNewsRow.holds Try.pinned (OpenSpec.ofChange Rows.fnExactUnpackNewsSpec) :=
  OpenClaim.holds_of_wide 8 Try.f8 rfl rfl rfl rfl rfl rfl rfl ⟨rfl, rfl, rfl, rfl, rfl⟩ rfl rfl rfl rfl rfl (by kernel_rfl) Try.func8 facts
    (of_decide_eq_true (by kernel_rfl)) (by unfold Func.isWrapper; first | (rw [if_pos (by decide +kernel)]; kernel_rfl) | (rw [if_neg (by decide +kernel)]; exact ⟨rfl, rfl⟩))
    (fun os started H enc _ => lifted os started H enc)
end Go.Proofs.Ytafdnkachndacaa.fnExactUnpackNews
namespace Go.Proofs.Ytafdnkachndacaa
/-- The row, under a short name, for the claim. -/
theorem fnExactUnpackNews_holds : Rows.FnExactUnpackNewsSaid := fnExactUnpackNews.over
#print axioms fnExactUnpackNews_holds
end Go.Proofs.Ytafdnkachndacaa
