/- Closed facts of the row of FnExactFoldProjects. -/
import Derived.Test.YtngefcgbfpelcaaRows
import Derived.JoinedOf
namespace Go.Proofs.Ytngefcgbfpelcaa.fnExactFoldProjects
theorem fc1 : (Rows.fnExactFoldProjectsRow.inPlace == Try.prog.inPlace 4) = true := by kernel_rfl
theorem fc2 : (Rows.fnExactFoldProjectsRow.unfollowed == Try.prog.unfollowed 4) = true := by kernel_rfl
theorem fc3 : (Rows.fnExactFoldProjectsRow.recurses == Try.prog.recurses 4) = true := by kernel_rfl
theorem fc4 : (Rows.fnExactFoldProjectsRow.named == Try.prog.varsNamed 4) = true := by kernel_rfl
theorem facts : joinedFacts Try.prog 4 Try.f4 Rows.fnExactFoldProjectsSpec Rows.fnExactFoldProjectsRow = true := by
  unfold joinedFacts
  rw [fc1, fc2, fc3, fc4]
  kernel_rfl
end Go.Proofs.Ytngefcgbfpelcaa.fnExactFoldProjects
