/- Whatever the input, the law FnExactPackSet answers true, and its arguments read as before. No conditions. -/
import Derived.Test.YtafdnkachndacaaLiftFnExactPackSet
import Derived.Test.YtafdnkachndacaaFactsFnExactPackSet
namespace Go.Proofs.Ytafdnkachndacaa.fnExactPackSet
open Go.RowKit
theorem over : Rows.fnExactPackSetRow.holds Try.pinned (OpenSpec.ofChange Rows.fnExactPackSetSpec) :=
  OpenClaim.holds_of_wide 9 Try.f9 rfl rfl rfl rfl rfl rfl rfl ⟨rfl, rfl, rfl, rfl, rfl⟩ rfl rfl rfl rfl rfl (by kernel_rfl) Try.func9 facts
    (of_decide_eq_true (by kernel_rfl)) (by unfold Func.isWrapper; first | (rw [if_pos (by decide +kernel)]; kernel_rfl) | (rw [if_neg (by decide +kernel)]; exact ⟨rfl, rfl⟩))
    (fun os started H enc _ => lifted os started H enc)
end Go.Proofs.Ytafdnkachndacaa.fnExactPackSet
namespace Go.Proofs.Ytafdnkachndacaa
/-- The row, under a short name, for the claim. -/
theorem fnExactPackSet_holds : Rows.FnExactPackSetSaid := fnExactPackSet.over
#print axioms fnExactPackSet_holds
end Go.Proofs.Ytafdnkachndacaa
