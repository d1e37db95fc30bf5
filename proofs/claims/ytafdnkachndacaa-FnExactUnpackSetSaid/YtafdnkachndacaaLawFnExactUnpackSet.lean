/- Whatever the input, the law FnExactUnpackSet answers true, and its arguments read as before. No conditions. -/
import Derived.Test.YtafdnkachndacaaLiftFnExactUnpackSet
import Derived.Test.YtafdnkachndacaaFactsFnExactUnpackSet
namespace Go.Proofs.Ytafdnkachndacaa.fnExactUnpackSet
open Go.RowKit
theorem over : Rows.fnExactUnpackSetRow.holds Try.pinned (OpenSpec.ofChange Rows.fnExactUnpackSetSpec) :=
  OpenClaim.holds_of_wide 10 Try.f10 rfl rfl rfl rfl rfl rfl rfl ⟨rfl, rfl, rfl, rfl, rfl⟩ rfl rfl rfl rfl rfl (by kernel_rfl) Try.func10 facts
    (of_decide_eq_true (by kernel_rfl)) (by unfold Func.isWrapper; first | (rw [if_pos (by decide +kernel)]; kernel_rfl) | (rw [if_neg (by decide +kernel)]; exact ⟨rfl, rfl⟩))
    (fun os started H enc _ => lifted os started H enc)
end Go.Proofs.Ytafdnkachndacaa.fnExactUnpackSet
namespace Go.Proofs.Ytafdnkachndacaa
/-- The row, under a short name, for the claim. -/
theorem fnExactUnpackSet_holds : Rows.FnExactUnpackSetSaid := fnExactUnpackSet.over
#print axioms fnExactUnpackSet_holds
end Go.Proofs.Ytafdnkachndacaa
