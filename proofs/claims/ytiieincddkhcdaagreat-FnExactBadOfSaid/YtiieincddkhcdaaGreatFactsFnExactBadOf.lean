/- Closed facts of the row of FnExactBadOf. -/
import Derived.Test.YtiieincddkhcdaaGreatRows
import Derived.JoinedOf
namespace Go.Proofs.YtiieincddkhcdaaGreat.fnExactBadOf
theorem fc1 : (Rows.fnExactBadOfRow.inPlace == Tryz.prog.inPlace 6) = true := by kernel_rfl
theorem fc2 : (Rows.fnExactBadOfRow.unfollowed == Tryz.prog.unfollowed 6) = true := by kernel_rfl
theorem fc3 : (Rows.fnExactBadOfRow.recurses == Tryz.prog.recurses 6) = true := by kernel_rfl
theorem fc4 : (Rows.fnExactBadOfRow.named == Tryz.prog.varsNamed 6) = true := by kernel_rfl
theorem facts : joinedFacts Tryz.prog 6 Tryz.f6 Rows.fnExactBadOfSpec Rows.fnExactBadOfRow = true := by
  unfold joinedFacts
  rw [fc1, fc2, fc3, fc4]
  kernel_rfl
end Go.Proofs.YtiieincddkhcdaaGreat.fnExactBadOf
