/- Closed facts of the row of FnExactDropDoubles. -/
import Derived.Test.YtngefcgbfpelcaaRows
import Derived.JoinedOf
namespace Go.Proofs.Ytngefcgbfpelcaa.fnExactDropDoubles
theorem fc1 : (Rows.fnExactDropDoublesRow.inPlace == Try.prog.inPlace 5) = true := by kernel_rfl
theorem fc2 : (Rows.fnExactDropDoublesRow.unfollowed == Try.prog.unfollowed 5) = true := by kernel_rfl
theorem fc3 : (Rows.fnExactDropDoublesRow.recurses == Try.prog.recurses 5) = true := by kernel_rfl
theorem fc4 : (Rows.fnExactDropDoublesRow.named == Try.prog.varsNamed 5) = true := by kernel_rfl
theorem facts : joinedFacts Try.prog 5 Try.f5 Rows.fnExactDropDoublesSpec Rows.fnExactDropDoublesRow = true := by
  unfold joinedFacts
  rw [fc1, fc2, fc3, fc4]
  kernel_rfl
end Go.Proofs.Ytngefcgbfpelcaa.fnExactDropDoubles
