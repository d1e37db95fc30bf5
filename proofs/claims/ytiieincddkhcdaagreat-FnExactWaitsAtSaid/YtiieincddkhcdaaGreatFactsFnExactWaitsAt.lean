/- Closed facts of the row of FnExactWaitsAt. -/
import Derived.Test.YtiieincddkhcdaaGreatRows
import Derived.JoinedOf
namespace Go.Proofs.YtiieincddkhcdaaGreat.fnExactWaitsAt
theorem fc1 : (Rows.fnExactWaitsAtRow.inPlace == Tryz.prog.inPlace 3) = true := by kernel_rfl
theorem fc2 : (Rows.fnExactWaitsAtRow.unfollowed == Tryz.prog.unfollowed 3) = true := by kernel_rfl
theorem fc3 : (Rows.fnExactWaitsAtRow.recurses == Tryz.prog.recurses 3) = true := by kernel_rfl
theorem fc4 : (Rows.fnExactWaitsAtRow.named == Tryz.prog.varsNamed 3) = true := by kernel_rfl
theorem facts : joinedFacts Tryz.prog 3 Tryz.f3 Rows.fnExactWaitsAtSpec Rows.fnExactWaitsAtRow = true := by
  unfold joinedFacts
  rw [fc1, fc2, fc3, fc4]
  kernel_rfl
end Go.Proofs.YtiieincddkhcdaaGreat.fnExactWaitsAt
