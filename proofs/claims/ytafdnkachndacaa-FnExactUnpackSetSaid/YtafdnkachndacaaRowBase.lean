/- Readings of the seat's types. -/
import Derived.Test.YtafdnkachndacaaAix6
import Derived.Test.YtafdnkachndacaaAixX
set_option linter.unusedSimpArgs false
set_option linter.unusedVariables false
namespace Go.Proofs.Try
open Go.Aix
theorem fit2 : TrodFit Try.prog tI64 inI64 2 := fit_i64 Try.underlying2
theorem fitU8 : TrodFit Try.prog tU8 inU8 5 := fit_u8 Try.underlying5
theorem fit44 : TrodFit Try.prog (tL tI64) (gL inI64) 44 := fit_slice Try.underlying44 (by kernel_rfl) (by decide) fit2
theorem fitNode : TrodFit Try.prog tNode gNode 106 := fit_Node (by kernel_rfl) (by kernel_rfl : fldOk Try.prog 106 0 2 = true) Try.underlying2 (by kernel_rfl : fldOk Try.prog 106 1 2 = true) Try.underlying2 (by kernel_rfl : fldOk Try.prog 106 2 2 = true) Try.underlying2 (by kernel_rfl : fldOk Try.prog 106 3 2 = true) Try.underlying2 (by kernel_rfl : fldOk Try.prog 106 4 2 = true) Try.underlying2 (by kernel_rfl : fldOk Try.prog 106 5 2 = true) Try.underlying2 (by kernel_rfl : fldOk Try.prog 106 6 44 = true) Try.underlying44 (by kernel_rfl) fit2
theorem fitPut : TrodFit Try.prog tPut gPut 109 := fit_Put (by kernel_rfl) (by kernel_rfl : fldOk Try.prog 109 0 2 = true) Try.underlying2 (by kernel_rfl : fldOk Try.prog 109 1 2 = true) Try.underlying2 (by kernel_rfl : fldOk Try.prog 109 2 2 = true) Try.underlying2 (by kernel_rfl : fldOk Try.prog 109 3 44 = true) Try.underlying44 (by kernel_rfl) fit2 (by kernel_rfl : fldOk Try.prog 109 4 2 = true) Try.underlying2
theorem fitEntry : TrodFit Try.prog tEntry gEntry 125 := fit_Entry (by kernel_rfl) (by kernel_rfl : fldOk Try.prog 125 0 44 = true) Try.underlying44 (by kernel_rfl) fit2 (by kernel_rfl : fldOk Try.prog 125 1 2 = true) Try.underlying2
theorem fitCount : TrodFit Try.prog tCount gCount 144 := fit_Count (by kernel_rfl) (by kernel_rfl : fldOk Try.prog 144 0 2 = true) Try.underlying2 (by kernel_rfl : fldOk Try.prog 144 1 2 = true) Try.underlying2 (by kernel_rfl : fldOk Try.prog 144 2 2 = true) Try.underlying2
end Go.Proofs.Try
