/- Readings of the seat's types. -/
import Derived.Test.YtngefcgbfpelcaaAix6
import Derived.Test.YtngefcgbfpelcaaAixX
set_option linter.unusedSimpArgs false
set_option linter.unusedVariables false
namespace Go.Proofs.Try
open Go.Aix
theorem fit2 : TrodFit Try.prog tI64 inI64 2 := fit_i64 Try.underlying2
theorem fitNode : TrodFit Try.prog tNode gNode 42 := fit_Node (by kernel_rfl) (by kernel_rfl : fldOk Try.prog 42 0 2 = true) Try.underlying2 (by kernel_rfl : fldOk Try.prog 42 1 2 = true) Try.underlying2 (by kernel_rfl : fldOk Try.prog 42 2 2 = true) Try.underlying2 (by kernel_rfl : fldOk Try.prog 42 3 2 = true) Try.underlying2 (by kernel_rfl : fldOk Try.prog 42 4 2 = true) Try.underlying2 (by kernel_rfl : fldOk Try.prog 42 5 2 = true) Try.underlying2 (by kernel_rfl : fldOk Try.prog 42 6 24 = true) Try.underlying24 (by kernel_rfl) fit2
end Go.Proofs.Try
