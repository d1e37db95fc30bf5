/- Whatever the input, the law FnExactPutsFault answers true, and its arguments read as before. No conditions. -/
import Derived.Test.YtafdnkachndacaaLiftFnExactPutsFault
import Derived.Test.YtafdnkachndacaaFactsFnExactPutsFault
namespace Go.Proofs.Ytafdnkachndacaa.fnExactPutsFault
open Go.RowKit
theorem over : Rows.fnExactPutsFaultRow.holds Try.pinned (OpenSpec.ofChange Rows.fnExactPutsFaultSpec) :=
  OpenClaim.holds_of_wide 3 Try.f3 rfl rfl rfl rfl rfl rfl rfl ⟨rfl, rfl, rfl, rfl, rfl⟩ rfl rfl rfl rfl rfl (by kernel_rfl) Try.func3 facts
    (of_decide_eq_true (by kernel_rfl)) (by unfold Func.isWrapper; first | (rw [if_pos (by decide +kernel)]; kernel_rfl) | (rw [if_neg (by decide +kernel)]; exact ⟨rfl, rfl⟩))
    (fun os started H enc _ => lifted os started H enc)
end Go.Proofs.Ytafdnkachndacaa.fnExactPutsFault
namespace Go.Proofs.Ytafdnkachndacaa
/-- The row, under a short name, for the claim. -/
theorem fnExactPutsFault_holds : Rows.FnExactPutsFaultSaid := fnExactPutsFault.over
#print axioms fnExactPutsFault_holds
end Go.Proofs.Ytafdnkachndacaa
