/- Closed facts of the row of FnExactPackSet. -/
import Derived.Test.YtafdnkachndacaaRows
import Derived.JoinedOf
namespace Go.Proofs.Ytafdnkachndacaa.fnExactPackSet
theorem fc1 : (Rows.fnExactPackSetRow.inPlace == Try.prog.inPlace 9) = true := by kernel_rfl
theorem fc2 : (Rows.fnExactPackSetRow.unfollowed == Try.prog.unfollowed 9) = true := by kernel_rfl
theorem fc3 : (Rows.fnExactPackSetRow.recurses == Try.prog.recurses 9) = true := by kernel_rfl
theorem fc4 : (Rows.fnExactPackSetRow.named == Try.prog.varsNamed 9) = true := by kernel_rfl
theorem facts : joinedFacts Try.prog 9 Try.f9 Rows.fnExactPackSetSpec Rows.fnExactPackSetRow = true := by
  unfold joinedFacts
  rw [fc1, fc2, fc3, fc4]
  kernel_rfl
end Go.Proofs.Ytafdnkachndacaa.fnExactPackSet
