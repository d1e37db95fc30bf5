/- Closed facts of the row of FnExactLagOf. -/
import Derived.Test.YtiieincddkhcdaaGreatRows
import Derived.JoinedOf
namespace Go.Proofs.YtiieincddkhcdaaGreat.fnExactLagOf
theorem fc1 : (Rows.fnExactLagOfRow.inPlace == Tryz.prog.inPlace 4) = true := by kernel_rfl
theorem fc2 : (Rows.fnExactLagOfRow.unfollowed == Tryz.prog.unfollowed 4) = true := by kernel_rfl
theorem fc3 : (Rows.fnExactLagOfRow.recurses == Tryz.prog.recurses 4) = true := by kernel_rfl
theorem fc4 : (Rows.fnExactLagOfRow.named == Tryz.prog.varsNamed 4) = true := by kernel_rfl
theorem facts : joinedFacts Tryz.prog 4 Tryz.f4 Rows.fnExactLagOfSpec Rows.fnExactLagOfRow = true := by
  unfold joinedFacts
  rw [fc1, fc2, fc3, fc4]
  kernel_rfl
end Go.Proofs.YtiieincddkhcdaaGreat.fnExactLagOf
