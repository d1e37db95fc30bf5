/- Closed facts of the row of FnExactPutsFault. -/
import Derived.Test.YtafdnkachndacaaRows
import Derived.JoinedOf
namespace Go.Proofs.Ytafdnkachndacaa.fnExactPutsFault
theorem fc1 : (Rows.fnExactPutsFaultRow.inPlace == Try.prog.inPlace 3) = true := by kernel_rfl
theorem fc2 : (Rows.fnExactPutsFaultRow.unfollowed == Try.prog.unfollowed 3) = true := by kernel_rfl
theorem fc3 : (Rows.fnExactPutsFaultRow.recurses == Try.prog.recurses 3) = true := by kernel_rfl
theorem fc4 : (Rows.fnExactPutsFaultRow.named == Try.prog.varsNamed 3) = true := by kernel_rfl
theorem facts : joinedFacts Try.prog 3 Try.f3 Rows.fnExactPutsFaultSpec Rows.fnExactPutsFaultRow = true := by
  unfold joinedFacts
  rw [fc1, fc2, fc3, fc4]
  kernel_rfl
end Go.Proofs.Ytafdnkachndacaa.fnExactPutsFault
