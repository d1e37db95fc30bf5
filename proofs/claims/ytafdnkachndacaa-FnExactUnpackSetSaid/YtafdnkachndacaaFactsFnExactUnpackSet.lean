/- Closed facts of the row of FnExactUnpackSet. -/
import Derived.Test.YtafdnkachndacaaRows
import Derived.JoinedOf
namespace Go.Proofs.Ytafdnkachndacaa.fnExactUnpackSet
theorem fc1 : (Rows.fnExactUnpackSetRow.inPlace == Try.prog.inPlace 10) = true := by kernel_rfl
theorem fc2 : (Rows.fnExactUnpackSetRow.unfollowed == Try.prog.unfollowed 10) = true := by kernel_rfl
theorem fc3 : (Rows.fnExactUnpackSetRow.recurses == Try.prog.recurses 10) = true := by kernel_rfl
theorem fc4 : (Rows.fnExactUnpackSetRow.named == Try.prog.varsNamed 10) = true := by kernel_rfl
theorem facts : joinedFacts Try.prog 10 Try.f10 Rows.fnExactUnpackSetSpec Rows.fnExactUnpackSetRow = true := by
  unfold joinedFacts
  rw [fc1, fc2, fc3, fc4]
  kernel_rfl
end Go.Proofs.Ytafdnkachndacaa.fnExactUnpackSet
