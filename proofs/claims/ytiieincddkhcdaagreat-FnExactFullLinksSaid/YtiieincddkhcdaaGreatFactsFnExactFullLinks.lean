/- Closed facts of the row of FnExactFullLinks. -/
import Derived.Test.YtiieincddkhcdaaGreatRows
import Derived.JoinedOf
namespace Go.Proofs.YtiieincddkhcdaaGreat.fnExactFullLinks
theorem fc1 : (Rows.fnExactFullLinksRow.inPlace == Tryz.prog.inPlace 8) = true := by kernel_rfl
theorem fc2 : (Rows.fnExactFullLinksRow.unfollowed == Tryz.prog.unfollowed 8) = true := by kernel_rfl
theorem fc3 : (Rows.fnExactFullLinksRow.recurses == Tryz.prog.recurses 8) = true := by kernel_rfl
theorem fc4 : (Rows.fnExactFullLinksRow.named == Tryz.prog.varsNamed 8) = true := by kernel_rfl
theorem facts : joinedFacts Tryz.prog 8 Tryz.f8 Rows.fnExactFullLinksSpec Rows.fnExactFullLinksRow = true := by
  unfold joinedFacts
  rw [fc1, fc2, fc3, fc4]
  kernel_rfl
end Go.Proofs.YtiieincddkhcdaaGreat.fnExactFullLinks
