/- The table of the types of this seat's program. -/
import Derived.Test.YtngefcgbfpelcaaAix3
import Derived.KernelRfl
import Derived.Test.YtngefcgbfpelcaaProg
set_option linter.unusedSimpArgs false
set_option linter.unusedVariables false
namespace Go.Proofs.Try
open Go.Aix
def XL0 : List (Nat × TyI) := [
  (2, TyI.mk false 1 8 [Cell.pv (PV.sc (Value.int IntKind.i64 0))] (TyU.int IntKind.i64) [Kd.int IntKind.i64]),
  (3, TyI.mk false 1 8 [Cell.pv (PV.sc (Value.int IntKind.i64 0))] (TyU.int IntKind.i64) [Kd.int IntKind.i64]),
  (4, TyI.mk false 1 1 [Cell.pv (PV.sc (Value.bool false))] TyU.bool [Kd.bool]),
  (5, TyI.mk false 1 1 [Cell.pv (PV.sc (Value.int IntKind.u8 0))] (TyU.int IntKind.u8) [Kd.int IntKind.u8]),
  (9, TyI.mk false 1 16 [Cell.pv (PV.sc (Value.string (ByteArray.mk (Array.mk []))))] TyU.str [Kd.str]),
  (12, TyI.mk false 1 8 [Cell.pv (PV.sc (Value.int IntKind.u64 0))] (TyU.int IntKind.u64) [Kd.int IntKind.u64]),
  (13, TyI.mk true 2 24 [Cell.pv (PV.sc (Value.string (ByteArray.mk (Array.mk [])))), Cell.pv (PV.sc (Value.int IntKind.u64 0))] (TyU.struct [(0, 1, false), (1, 1, false)]) [Kd.str, Kd.int IntKind.u64]),
  (21, TyI.mk false 1 4 [Cell.pv (PV.sc (Value.int IntKind.i32 0))] (TyU.int IntKind.i32) [Kd.int IntKind.i32]),
  (22, TyI.mk false 1 24 [Cell.pv PV.nl] (TyU.slice 42) [Kd.sl 7]),
  (24, TyI.mk false 1 24 [Cell.pv PV.nl] (TyU.slice 2) [Kd.sl 1]),
  (25, TyI.mk true 2 32 [Cell.pv (PV.sc (Value.int IntKind.i64 0)), Cell.pv PV.nl] (TyU.struct [(0, 1, false), (1, 1, false)]) [Kd.int IntKind.i64, Kd.sl 1]),
  (26, TyI.mk true 2 32 [Cell.pv (PV.sc (Value.int IntKind.i64 0)), Cell.pv PV.nl] (TyU.struct [(0, 1, false), (1, 1, false)]) [Kd.int IntKind.i64, Kd.sl 1]),
  (28, TyI.mk false 1 24 [Cell.pv PV.nl] (TyU.slice 45) [Kd.sl 7]),
  (35, TyI.mk true 3 40 [Cell.pv (PV.sc (Value.int IntKind.i64 0)), Cell.pv (PV.sc (Value.int IntKind.i64 0)), Cell.pv PV.nl] (TyU.struct [(0, 1, false), (1, 1, false), (2, 1, false)]) [Kd.int IntKind.i64, Kd.int IntKind.i64, Kd.sl 7]),
  (36, TyI.mk true 3 40 [Cell.pv (PV.sc (Value.int IntKind.i64 0)), Cell.pv (PV.sc (Value.int IntKind.i64 0)), Cell.pv PV.nl] (TyU.struct [(0, 1, false), (1, 1, false), (2, 1, false)]) [Kd.int IntKind.i64, Kd.int IntKind.i64, Kd.sl 7]),
  (41, TyI.mk true 7 72 [Cell.pv (PV.sc (Value.int IntKind.i64 0)), Cell.pv (PV.sc (Value.int IntKind.i64 0)), Cell.pv (PV.sc (Value.int IntKind.i64 0)), Cell.pv (PV.sc (Value.int IntKind.i64 0)), Cell.pv (PV.sc (Value.int IntKind.i64 0)), Cell.pv (PV.sc (Value.int IntKind.i64 0)), Cell.pv PV.nl] (TyU.struct [(0, 1, false), (1, 1, false), (2, 1, false), (3, 1, false), (4, 1, false), (5, 1, false), (6, 1, false)]) [Kd.int IntKind.i64, Kd.int IntKind.i64, Kd.int IntKind.i64, Kd.int IntKind.i64, Kd.int IntKind.i64, Kd.int IntKind.i64, Kd.sl 1]),
  (42, TyI.mk true 7 72 [Cell.pv (PV.sc (Value.int IntKind.i64 0)), Cell.pv (PV.sc (Value.int IntKind.i64 0)), Cell.pv (PV.sc (Value.int IntKind.i64 0)), Cell.pv (PV.sc (Value.int IntKind.i64 0)), Cell.pv (PV.sc (Value.int IntKind.i64 0)), Cell.pv (PV.sc (Value.int IntKind.i64 0)), Cell.pv PV.nl] (TyU.struct [(0, 1, false), (1, 1, false), (2, 1, false), (3, 1, false), (4, 1, false), (5, 1, false), (6, 1, false)]) [Kd.int IntKind.i64, Kd.int IntKind.i64, Kd.int IntKind.i64, Kd.int IntKind.i64, Kd.int IntKind.i64, Kd.int IntKind.i64, Kd.sl 1]),
  (45, TyI.mk true 7 72 [Cell.pv (PV.sc (Value.int IntKind.i64 0)), Cell.pv (PV.sc (Value.int IntKind.i64 0)), Cell.pv (PV.sc (Value.int IntKind.i64 0)), Cell.pv (PV.sc (Value.int IntKind.i64 0)), Cell.pv (PV.sc (Value.int IntKind.i64 0)), Cell.pv (PV.sc (Value.int IntKind.i64 0)), Cell.pv PV.nl] (TyU.struct [(0, 1, false), (1, 1, false), (2, 1, false), (3, 1, false), (4, 1, false), (5, 1, false), (6, 1, false)]) [Kd.int IntKind.i64, Kd.int IntKind.i64, Kd.int IntKind.i64, Kd.int IntKind.i64, Kd.int IntKind.i64, Kd.int IntKind.i64, Kd.sl 1]),
  (51, TyI.mk false 1 8 [Cell.pv (PV.sc Value.nilFunc)] TyU.other [Kd.other]),
  (54, TyI.mk false 1 24 [Cell.pv PV.nl] (TyU.slice 51) [Kd.sl 1])]
theorem xl0 : tabled Try.prog XL0 := ⟨by kernel_rfl, by kernel_rfl, by kernel_rfl, by kernel_rfl, by kernel_rfl, by kernel_rfl, by kernel_rfl, by kernel_rfl, by kernel_rfl, by kernel_rfl, by kernel_rfl, by kernel_rfl, by kernel_rfl, by kernel_rfl, by kernel_rfl, by kernel_rfl, by kernel_rfl, by kernel_rfl, by kernel_rfl, by kernel_rfl, trivial⟩
def XL1 : List (Nat × TyI) := [
  (83, TyI.mk false 1 4 [Cell.pv (PV.sc (Value.int IntKind.u32 0))] (TyU.int IntKind.u32) [Kd.int IntKind.u32]),
  (87, TyI.mk false 1 8 [Cell.pv (PV.sc (Value.pointer none))] TyU.other [Kd.other])]
theorem xl1 : tabled Try.prog XL1 := ⟨by kernel_rfl, by kernel_rfl, trivial⟩
def XL : List (Nat × TyI) := XL0 ++ (XL1)
def X : Ctx := fun t => lk t XL
theorem xok : XOk Try.prog X := fun _ _ h => tabled_lk (tabled_app xl0 xl1) h
end Go.Proofs.Try
