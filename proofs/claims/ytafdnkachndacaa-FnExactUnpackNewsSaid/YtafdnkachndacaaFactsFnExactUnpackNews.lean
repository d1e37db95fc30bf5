/- Closed facts of the row of FnExactUnpackNews. -/
import Derived.Test.YtafdnkachndacaaRows
import Derived.JoinedOf
namespace Go.Proofs.Ytafdnkachndacaa.fnExactUnpackNews
theorem fc1 : (Rows.fnExactUnpackNewsRow.inPlace == Try.prog.inPlace 8) = true := by kernel_rfl
theorem fc2 : (Rows.fnExactUnpackNewsRow.unfollowed == Try.prog.unfollowed 8) = true := by kernel_rfl
theorem fc3 : (Rows.fnExactUnpackNewsRow.recurses == Try.prog.recurses 8) = true := by kernel_rfl
theorem fc4 : (Rows.fnExactUnpackNewsRow.named == Try.prog.varsNamed 8) = true := by kernel_rfl
theorem facts : joinedFacts Try.prog 8 Try.f8 Rows.fnExactUnpackNewsSpec Rows.fnExactUnpackNewsRow = true := by
  unfold joinedFacts
  rw [fc1, fc2, fc3, fc4]
  kernel_rfl
end Go.Proofs.Ytafdnkachndacaa.fnExactUnpackNews
