/- Closed facts of the row of FnExactDeadNodes. -/
import Derived.Test.YtngefcgbfpelcaaRows
import Derived.JoinedOf
namespace Go.Proofs.Ytngefcgbfpelcaa.fnExactDeadNodes
theorem fc1 : (Rows.fnExactDeadNodesRow.inPlace == Try.prog.inPlace 3) = true := by kernel_rfl
theorem fc2 : (Rows.fnExactDeadNodesRow.unfollowed == Try.prog.unfollowed 3) = true := by kernel_rfl
theorem fc3 : (Rows.fnExactDeadNodesRow.recurses == Try.prog.recurses 3) = true := by kernel_rfl
theorem fc4 : (Rows.fnExactDeadNodesRow.named == Try.prog.varsNamed 3) = true := by kernel_rfl
theorem facts : joinedFacts Try.prog 3 Try.f3 Rows.fnExactDeadNodesSpec Rows.fnExactDeadNodesRow = true := by
  unfold joinedFacts
  rw [fc1, fc2, fc3, fc4]
  kernel_rfl
end Go.Proofs.Ytngefcgbfpelcaa.fnExactDeadNodes
