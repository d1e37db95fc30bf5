/- Whatever the input, the law FnExactPackNews answers true, and its arguments read as before. No conditions. -/
import Derived.Test.YtafdnkachndacaaLiftFnExactPackNews
import Derived.Test.YtafdnkachndacaaFactsFnExactPackNews
namespace Go.Proofs.Ytafdnkachndacaa.fnExactPackNews
open Go.RowKit
theorem over : Rows.fnExactPackNewsRow.holds Try.pinned (OpenSpec.ofChange Rows.fnExactPackNewsSpec) :=
  OpenClaim.holds_of_wide 7 Try.f7 rfl rfl rfl rfl rfl rfl rfl ⟨rfl, rfl, rfl, rfl, rfl⟩ rfl rfl rfl rfl rfl (by kernel_rfl) Try.func7 facts
    (of_decide_eq_true (by kernel_rfl)) (by unfold Func.isWrapper; first | (rw [if_pos (by decide +kernel)]; kernel_rfl) | (rw [if_neg (by decide +kernel)]; exact ⟨rfl, rfl⟩))
    (fun os started H enc _ => lifted os started H enc)
end Go.Proofs.Ytafdnkachndacaa.fnExactPackNews
namespace Go.Proofs.Ytafdnkachndacaa
/-- The row, under a short name, for the claim. -/
theorem fnExactPackNews_holds : Rows.FnExactPackNewsSaid := fnExactPackNews.over
#print axioms fnExactPackNews_holds
end Go.Proofs.Ytafdnkachndacaa
