/- The table of the types of this seat's program. -/
import Derived.Test.YtafdnkachndacaaAix3
import Derived.KernelRfl
import Derived.Test.YtafdnkachndacaaProg
set_option linter.unusedSimpArgs false
set_option linter.unusedVariables false
namespace Go.Proofs.Try
open Go.Aix
def XL0 : List (Nat × TyI) := [
  (2, TyI.mk false 1 8 [Cell.pv (PV.sc (Value.int IntKind.i64 0))] (TyU.int IntKind.i64) [Kd.int IntKind.i64]),
  (3, TyI.mk false 1 8 [Cell.pv (PV.sc (Value.int IntKind.i64 0))] (TyU.int IntKind.i64) [Kd.int IntKind.i64]),
  (4, TyI.mk false 1 1 [Cell.pv (PV.sc (Value.bool false))] TyU.bool [Kd.bool]),
  (5, TyI.mk false 1 1 [Cell.pv (PV.sc (Value.int IntKind.u8 0))] (TyU.int IntKind.u8) [Kd.int IntKind.u8]),
  (9, TyI.mk false 1 16 [Cell.pv (PV.sc (Value.string (ByteArray.mk (Array.mk []))))] TyU.str [Kd.str]),
  (12, TyI.mk false 1 8 [Cell.pv (PV.sc (Value.int IntKind.u64 0))] (TyU.int IntKind.u64) [Kd.int IntKind.u64]),
  (13, TyI.mk true 2 24 [Cell.pv (PV.sc (Value.string (ByteArray.mk (Array.mk [])))), Cell.pv (PV.sc (Value.int IntKind.u64 0))] (TyU.struct [(0, 1, false), (1, 1, false)]) [Kd.str, Kd.int IntKind.u64]),
  (21, TyI.mk false 1 4 [Cell.pv (PV.sc (Value.int IntKind.i32 0))] (TyU.int IntKind.i32) [Kd.int IntKind.i32]),
  (22, TyI.mk false 1 24 [Cell.pv PV.nl] (TyU.slice 106) [Kd.sl 7]),
  (23, TyI.mk false 1 24 [Cell.pv PV.nl] (TyU.slice 109) [Kd.sl 5]),
  (27, TyI.mk false 1 24 [Cell.pv PV.nl] (TyU.slice 115) [Kd.sl 7]),
  (29, TyI.mk false 1 24 [Cell.pv PV.nl] (TyU.slice 112) [Kd.sl 5]),
  (34, TyI.mk false 1 24 [Cell.pv PV.nl] (TyU.slice 125) [Kd.sl 2]),
  (36, TyI.mk true 2 16 [Cell.pv (PV.sc (Value.int IntKind.i64 0)), Cell.pv (PV.sc (Value.int IntKind.i64 0))] (TyU.struct [(0, 1, false), (1, 1, false)]) [Kd.int IntKind.i64, Kd.int IntKind.i64]),
  (37, TyI.mk true 2 16 [Cell.pv (PV.sc (Value.int IntKind.i64 0)), Cell.pv (PV.sc (Value.int IntKind.i64 0))] (TyU.struct [(0, 1, false), (1, 1, false)]) [Kd.int IntKind.i64, Kd.int IntKind.i64]),
  (39, TyI.mk false 1 24 [Cell.pv PV.nl] (TyU.slice 126) [Kd.sl 2]),
  (44, TyI.mk false 1 24 [Cell.pv PV.nl] (TyU.slice 2) [Kd.sl 1]),
  (45, TyI.mk true 2 32 [Cell.pv (PV.sc (Value.int IntKind.i64 0)), Cell.pv PV.nl] (TyU.struct [(0, 1, false), (1, 1, false)]) [Kd.int IntKind.i64, Kd.sl 1]),
  (46, TyI.mk true 2 32 [Cell.pv (PV.sc (Value.int IntKind.i64 0)), Cell.pv PV.nl] (TyU.struct [(0, 1, false), (1, 1, false)]) [Kd.int IntKind.i64, Kd.sl 1]),
  (52, TyI.mk false 1 24 [Cell.pv PV.nl] (TyU.slice 44) [Kd.sl 1])]
theorem xl0 : tabled Try.prog XL0 := ⟨by kernel_rfl, by kernel_rfl, by kernel_rfl, by kernel_rfl, by kernel_rfl, by kernel_rfl, by kernel_rfl, by kernel_rfl, by kernel_rfl, by kernel_rfl, by kernel_rfl, by kernel_rfl, by kernel_rfl, by kernel_rfl, by kernel_rfl, by kernel_rfl, by kernel_rfl, by kernel_rfl, by kernel_rfl, by kernel_rfl, trivial⟩
def XL1 : List (Nat × TyI) := [
  (53, TyI.mk true 2 32 [Cell.pv (PV.sc (Value.int IntKind.i64 0)), Cell.pv PV.nl] (TyU.struct [(0, 1, false), (1, 1, false)]) [Kd.int IntKind.i64, Kd.sl 1]),
  (54, TyI.mk true 2 32 [Cell.pv (PV.sc (Value.int IntKind.i64 0)), Cell.pv PV.nl] (TyU.struct [(0, 1, false), (1, 1, false)]) [Kd.int IntKind.i64, Kd.sl 1]),
  (60, TyI.mk false 1 24 [Cell.pv PV.nl] (TyU.slice 144) [Kd.sl 3]),
  (62, TyI.mk false 1 24 [Cell.pv PV.nl] (TyU.slice 5) [Kd.sl 1]),
  (63, TyI.mk true 2 32 [Cell.pv (PV.sc (Value.int IntKind.i64 0)), Cell.pv PV.nl] (TyU.struct [(0, 1, false), (1, 1, false)]) [Kd.int IntKind.i64, Kd.sl 1]),
  (64, TyI.mk true 2 32 [Cell.pv (PV.sc (Value.int IntKind.i64 0)), Cell.pv PV.nl] (TyU.struct [(0, 1, false), (1, 1, false)]) [Kd.int IntKind.i64, Kd.sl 1]),
  (66, TyI.mk false 1 24 [Cell.pv PV.nl] (TyU.slice 142) [Kd.sl 3]),
  (73, TyI.mk true 2 32 [Cell.pv (PV.sc (Value.int IntKind.i64 0)), Cell.pv PV.nl] (TyU.struct [(0, 1, false), (1, 1, false)]) [Kd.int IntKind.i64, Kd.sl 3]),
  (74, TyI.mk true 2 32 [Cell.pv (PV.sc (Value.int IntKind.i64 0)), Cell.pv PV.nl] (TyU.struct [(0, 1, false), (1, 1, false)]) [Kd.int IntKind.i64, Kd.sl 3]),
  (84, TyI.mk true 2 32 [Cell.pv (PV.sc (Value.int IntKind.i64 0)), Cell.pv PV.nl] (TyU.struct [(0, 1, false), (1, 1, false)]) [Kd.int IntKind.i64, Kd.sl 2]),
  (85, TyI.mk true 2 32 [Cell.pv (PV.sc (Value.int IntKind.i64 0)), Cell.pv PV.nl] (TyU.struct [(0, 1, false), (1, 1, false)]) [Kd.int IntKind.i64, Kd.sl 2]),
  (89, TyI.mk true 3 40 [Cell.pv (PV.sc (Value.int IntKind.i64 0)), Cell.pv (PV.sc (Value.int IntKind.i64 0)), Cell.pv PV.nl] (TyU.struct [(0, 1, false), (1, 1, false), (2, 1, false)]) [Kd.int IntKind.i64, Kd.int IntKind.i64, Kd.sl 7]),
  (90, TyI.mk true 3 40 [Cell.pv (PV.sc (Value.int IntKind.i64 0)), Cell.pv (PV.sc (Value.int IntKind.i64 0)), Cell.pv PV.nl] (TyU.struct [(0, 1, false), (1, 1, false), (2, 1, false)]) [Kd.int IntKind.i64, Kd.int IntKind.i64, Kd.sl 7]),
  (98, TyI.mk false 1 24 [Cell.pv PV.nl] (TyU.slice 39) [Kd.sl 1]),
  (99, TyI.mk true 2 32 [Cell.pv (PV.sc (Value.int IntKind.i64 0)), Cell.pv PV.nl] (TyU.struct [(0, 1, false), (1, 1, false)]) [Kd.int IntKind.i64, Kd.sl 1]),
  (100, TyI.mk true 2 32 [Cell.pv (PV.sc (Value.int IntKind.i64 0)), Cell.pv PV.nl] (TyU.struct [(0, 1, false), (1, 1, false)]) [Kd.int IntKind.i64, Kd.sl 1]),
  (105, TyI.mk true 7 72 [Cell.pv (PV.sc (Value.int IntKind.i64 0)), Cell.pv (PV.sc (Value.int IntKind.i64 0)), Cell.pv (PV.sc (Value.int IntKind.i64 0)), Cell.pv (PV.sc (Value.int IntKind.i64 0)), Cell.pv (PV.sc (Value.int IntKind.i64 0)), Cell.pv (PV.sc (Value.int IntKind.i64 0)), Cell.pv PV.nl] (TyU.struct [(0, 1, false), (1, 1, false), (2, 1, false), (3, 1, false), (4, 1, false), (5, 1, false), (6, 1, false)]) [Kd.int IntKind.i64, Kd.int IntKind.i64, Kd.int IntKind.i64, Kd.int IntKind.i64, Kd.int IntKind.i64, Kd.int IntKind.i64, Kd.sl 1]),
  (106, TyI.mk true 7 72 [Cell.pv (PV.sc (Value.int IntKind.i64 0)), Cell.pv (PV.sc (Value.int IntKind.i64 0)), Cell.pv (PV.sc (Value.int IntKind.i64 0)), Cell.pv (PV.sc (Value.int IntKind.i64 0)), Cell.pv (PV.sc (Value.int IntKind.i64 0)), Cell.pv (PV.sc (Value.int IntKind.i64 0)), Cell.pv PV.nl] (TyU.struct [(0, 1, false), (1, 1, false), (2, 1, false), (3, 1, false), (4, 1, false), (5, 1, false), (6, 1, false)]) [Kd.int IntKind.i64, Kd.int IntKind.i64, Kd.int IntKind.i64, Kd.int IntKind.i64, Kd.int IntKind.i64, Kd.int IntKind.i64, Kd.sl 1]),
  (108, TyI.mk true 5 56 [Cell.pv (PV.sc (Value.int IntKind.i64 0)), Cell.pv (PV.sc (Value.int IntKind.i64 0)), Cell.pv (PV.sc (Value.int IntKind.i64 0)), Cell.pv PV.nl, Cell.pv (PV.sc (Value.int IntKind.i64 0))] (TyU.struct [(0, 1, false), (1, 1, false), (2, 1, false), (3, 1, false), (4, 1, false)]) [Kd.int IntKind.i64, Kd.int IntKind.i64, Kd.int IntKind.i64, Kd.sl 1, Kd.int IntKind.i64]),
  (109, TyI.mk true 5 56 [Cell.pv (PV.sc (Value.int IntKind.i64 0)), Cell.pv (PV.sc (Value.int IntKind.i64 0)), Cell.pv (PV.sc (Value.int IntKind.i64 0)), Cell.pv PV.nl, Cell.pv (PV.sc (Value.int IntKind.i64 0))] (TyU.struct [(0, 1, false), (1, 1, false), (2, 1, false), (3, 1, false), (4, 1, false)]) [Kd.int IntKind.i64, Kd.int IntKind.i64, Kd.int IntKind.i64, Kd.sl 1, Kd.int IntKind.i64])]
theorem xl1 : tabled Try.prog XL1 := ⟨by kernel_rfl, by kernel_rfl, by kernel_rfl, by kernel_rfl, by kernel_rfl, by kernel_rfl, by kernel_rfl, by kernel_rfl, by kernel_rfl, by kernel_rfl, by kernel_rfl, by kernel_rfl, by kernel_rfl, by kernel_rfl, by kernel_rfl, by kernel_rfl, by kernel_rfl, by kernel_rfl, by kernel_rfl, by kernel_rfl, trivial⟩
def XL2 : List (Nat × TyI) := [
  (112, TyI.mk true 5 56 [Cell.pv (PV.sc (Value.int IntKind.i64 0)), Cell.pv (PV.sc (Value.int IntKind.i64 0)), Cell.pv (PV.sc (Value.int IntKind.i64 0)), Cell.pv PV.nl, Cell.pv (PV.sc (Value.int IntKind.i64 0))] (TyU.struct [(0, 1, false), (1, 1, false), (2, 1, false), (3, 1, false), (4, 1, false)]) [Kd.int IntKind.i64, Kd.int IntKind.i64, Kd.int IntKind.i64, Kd.sl 1, Kd.int IntKind.i64]),
  (115, TyI.mk true 7 72 [Cell.pv (PV.sc (Value.int IntKind.i64 0)), Cell.pv (PV.sc (Value.int IntKind.i64 0)), Cell.pv (PV.sc (Value.int IntKind.i64 0)), Cell.pv (PV.sc (Value.int IntKind.i64 0)), Cell.pv (PV.sc (Value.int IntKind.i64 0)), Cell.pv (PV.sc (Value.int IntKind.i64 0)), Cell.pv PV.nl] (TyU.struct [(0, 1, false), (1, 1, false), (2, 1, false), (3, 1, false), (4, 1, false), (5, 1, false), (6, 1, false)]) [Kd.int IntKind.i64, Kd.int IntKind.i64, Kd.int IntKind.i64, Kd.int IntKind.i64, Kd.int IntKind.i64, Kd.int IntKind.i64, Kd.sl 1]),
  (124, TyI.mk true 2 32 [Cell.pv PV.nl, Cell.pv (PV.sc (Value.int IntKind.i64 0))] (TyU.struct [(0, 1, false), (1, 1, false)]) [Kd.sl 1, Kd.int IntKind.i64]),
  (125, TyI.mk true 2 32 [Cell.pv PV.nl, Cell.pv (PV.sc (Value.int IntKind.i64 0))] (TyU.struct [(0, 1, false), (1, 1, false)]) [Kd.sl 1, Kd.int IntKind.i64]),
  (126, TyI.mk true 2 32 [Cell.pv PV.nl, Cell.pv (PV.sc (Value.int IntKind.i64 0))] (TyU.struct [(0, 1, false), (1, 1, false)]) [Kd.sl 1, Kd.int IntKind.i64]),
  (141, TyI.mk true 3 24 [Cell.pv (PV.sc (Value.int IntKind.i64 0)), Cell.pv (PV.sc (Value.int IntKind.i64 0)), Cell.pv (PV.sc (Value.int IntKind.i64 0))] (TyU.struct [(0, 1, false), (1, 1, false), (2, 1, false)]) [Kd.int IntKind.i64, Kd.int IntKind.i64, Kd.int IntKind.i64]),
  (142, TyI.mk true 3 24 [Cell.pv (PV.sc (Value.int IntKind.i64 0)), Cell.pv (PV.sc (Value.int IntKind.i64 0)), Cell.pv (PV.sc (Value.int IntKind.i64 0))] (TyU.struct [(0, 1, false), (1, 1, false), (2, 1, false)]) [Kd.int IntKind.i64, Kd.int IntKind.i64, Kd.int IntKind.i64]),
  (144, TyI.mk true 3 24 [Cell.pv (PV.sc (Value.int IntKind.i64 0)), Cell.pv (PV.sc (Value.int IntKind.i64 0)), Cell.pv (PV.sc (Value.int IntKind.i64 0))] (TyU.struct [(0, 1, false), (1, 1, false), (2, 1, false)]) [Kd.int IntKind.i64, Kd.int IntKind.i64, Kd.int IntKind.i64]),
  (148, TyI.mk false 1 8 [Cell.pv (PV.sc (Value.pointer none))] TyU.other [Kd.other]),
  (149, TyI.mk true 2 32 [Cell.pv PV.nl, Cell.pv (PV.sc (Value.bool false))] (TyU.struct [(0, 1, false), (1, 1, false)]) [Kd.sl 1, Kd.bool]),
  (150, TyI.mk true 2 32 [Cell.pv PV.nl, Cell.pv (PV.sc (Value.bool false))] (TyU.struct [(0, 1, false), (1, 1, false)]) [Kd.sl 1, Kd.bool]),
  (162, TyI.mk false 1 8 [Cell.pv (PV.sc (Value.pointer none))] TyU.other [Kd.other]),
  (198, TyI.mk true 2 32 [Cell.pv PV.nl, Cell.pv (PV.sc (Value.int IntKind.i64 0))] (TyU.struct [(0, 1, false), (1, 1, false)]) [Kd.sl 1, Kd.int IntKind.i64]),
  (199, TyI.mk true 2 32 [Cell.pv PV.nl, Cell.pv (PV.sc (Value.int IntKind.i64 0))] (TyU.struct [(0, 1, false), (1, 1, false)]) [Kd.sl 1, Kd.int IntKind.i64]),
  (211, TyI.mk false 1 8 [Cell.pv (PV.sc (Value.int IntKind.u64 0))] (TyU.int IntKind.u64) [Kd.int IntKind.u64]),
  (212, TyI.mk false 1 8 [Cell.pv (PV.sc (Value.int IntKind.u64 0))] (TyU.int IntKind.u64) [Kd.int IntKind.u64]),
  (222, TyI.mk false 1 24 [Cell.pv PV.nl] (TyU.slice 3) [Kd.sl 1]),
  (232, TyI.mk false 1 4 [Cell.pv (PV.sc (Value.int IntKind.u32 0))] (TyU.int IntKind.u32) [Kd.int IntKind.u32]),
  (236, TyI.mk false 1 8 [Cell.pv (PV.sc (Value.pointer none))] TyU.other [Kd.other])]
theorem xl2 : tabled Try.prog XL2 := ⟨by kernel_rfl, by kernel_rfl, by kernel_rfl, by kernel_rfl, by kernel_rfl, by kernel_rfl, by kernel_rfl, by kernel_rfl, by kernel_rfl, by kernel_rfl, by kernel_rfl, by kernel_rfl, by kernel_rfl, by kernel_rfl, by kernel_rfl, by kernel_rfl, by kernel_rfl, by kernel_rfl, by kernel_rfl, trivial⟩
def XL : List (Nat × TyI) := XL0 ++ (XL1 ++ (XL2))
def X : Ctx := fun t => lk t XL
theorem xok : XOk Try.prog X := fun _ _ h => tabled_lk (tabled_app xl0 (tabled_app xl1 xl2)) h
end Go.Proofs.Try
