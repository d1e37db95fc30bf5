/- Closed facts of the row of FnExactPackNews. -/
import Derived.Test.YtafdnkachndacaaRows
import Derived.JoinedOf
namespace Go.Proofs.Ytafdnkachndacaa.fnExactPackNews
theorem fc1 : (Rows.fnExactPackNewsRow.inPlace == Try.prog.inPlace 7) = true := by kernel_rfl
theorem fc2 : (Rows.fnExactPackNewsRow.unfollowed == Try.prog.unfollowed 7) = true := by kernel_rfl
theorem fc3 : (Rows.fnExactPackNewsRow.recurses == Try.prog.recurses 7) = true := by kernel_rfl
theorem fc4 : (Rows.fnExactPackNewsRow.named == Try.prog.varsNamed 7) = true := by kernel_rfl
theorem facts : joinedFacts Try.prog 7 Try.f7 Rows.fnExactPackNewsSpec Rows.fnExactPackNewsRow = true := by
  unfold joinedFacts
  rw [fc1, fc2, fc3, fc4]
  kernel_rfl
end Go.Proofs.Ytafdnkachndacaa.fnExactPackNews
