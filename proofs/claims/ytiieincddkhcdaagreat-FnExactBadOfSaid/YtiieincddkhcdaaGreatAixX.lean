/- The table of the types of this seat's program. -/
import Derived.Test.YtiieincddkhcdaaGreatAix3
import Derived.KernelRfl
import Derived.Test.YtiieincddkhcdaaGreatProg
set_option linter.unusedSimpArgs false
set_option linter.unusedVariables false
namespace Go.Proofs.Tryz
open Go.Aix
def XL0 : List (Nat × TyI) := [
  (2, TyI.mk false 1 8 [Cell.pv (PV.sc (Value.int IntKind.i64 0))] (TyU.int IntKind.i64) [Kd.int IntKind.i64]),
  (3, TyI.mk false 1 8 [Cell.pv (PV.sc (Value.int IntKind.i64 0))] (TyU.int IntKind.i64) [Kd.int IntKind.i64]),
  (4, TyI.mk false 1 1 [Cell.pv (PV.sc (Value.bool false))] TyU.bool [Kd.bool]),
  (5, TyI.mk false 1 1 [Cell.pv (PV.sc (Value.int IntKind.u8 0))] (TyU.int IntKind.u8) [Kd.int IntKind.u8]),
  (9, TyI.mk false 1 16 [Cell.pv (PV.sc (Value.string (ByteArray.mk (Array.mk []))))] TyU.str [Kd.str]),
  (12, TyI.mk false 1 8 [Cell.pv (PV.sc (Value.int IntKind.u64 0))] (TyU.int IntKind.u64) [Kd.int IntKind.u64]),
  (13, TyI.mk true 2 24 [Cell.pv (PV.sc (Value.string (ByteArray.mk (Array.mk [])))), Cell.pv (PV.sc (Value.int IntKind.u64 0))] (TyU.struct [(0, 1, false), (1, 1, false)]) [Kd.str, Kd.int IntKind.u64]),
  (21, TyI.mk false 1 4 [Cell.pv (PV.sc (Value.int IntKind.i32 0))] (TyU.int IntKind.i32) [Kd.int IntKind.i32]),
  (22, TyI.mk false 1 24 [Cell.pv PV.nl] (TyU.slice 112) [Kd.sl 7]),
  (23, TyI.mk false 1 24 [Cell.pv PV.nl] (TyU.slice 119) [Kd.sl 7]),
  (24, TyI.mk false 1 24 [Cell.pv PV.nl] (TyU.slice 114) [Kd.sl 1]),
  (25, TyI.mk true 3 72 [Cell.pv PV.nl, Cell.pv PV.nl, Cell.pv PV.nl] (TyU.struct [(0, 1, false), (1, 1, false), (2, 1, false)]) [Kd.sl 7, Kd.sl 7, Kd.sl 1]),
  (26, TyI.mk true 3 72 [Cell.pv PV.nl, Cell.pv PV.nl, Cell.pv PV.nl] (TyU.struct [(0, 1, false), (1, 1, false), (2, 1, false)]) [Kd.sl 7, Kd.sl 7, Kd.sl 1]),
  (28, TyI.mk true 2 16 [Cell.pv (PV.sc (Value.int IntKind.i64 0)), Cell.pv (PV.sc (Value.int IntKind.i64 0))] (TyU.struct [(0, 1, false), (1, 1, false)]) [Kd.int IntKind.i64, Kd.int IntKind.i64]),
  (29, TyI.mk true 2 16 [Cell.pv (PV.sc (Value.int IntKind.i64 0)), Cell.pv (PV.sc (Value.int IntKind.i64 0))] (TyU.struct [(0, 1, false), (1, 1, false)]) [Kd.int IntKind.i64, Kd.int IntKind.i64]),
  (31, TyI.mk false 1 24 [Cell.pv PV.nl] (TyU.slice 85) [Kd.sl 7]),
  (32, TyI.mk false 1 24 [Cell.pv PV.nl] (TyU.slice 77) [Kd.sl 7]),
  (33, TyI.mk false 1 24 [Cell.pv PV.nl] (TyU.slice 72) [Kd.sl 1]),
  (34, TyI.mk true 3 72 [Cell.pv PV.nl, Cell.pv PV.nl, Cell.pv PV.nl] (TyU.struct [(0, 1, false), (1, 1, false), (2, 1, false)]) [Kd.sl 7, Kd.sl 7, Kd.sl 1]),
  (35, TyI.mk true 3 72 [Cell.pv PV.nl, Cell.pv PV.nl, Cell.pv PV.nl] (TyU.struct [(0, 1, false), (1, 1, false), (2, 1, false)]) [Kd.sl 7, Kd.sl 7, Kd.sl 1])]
theorem xl0 : tabled Tryz.prog XL0 := ⟨by kernel_rfl, by kernel_rfl, by kernel_rfl, by kernel_rfl, by kernel_rfl, by kernel_rfl, by kernel_rfl, by kernel_rfl, by kernel_rfl, by kernel_rfl, by kernel_rfl, by kernel_rfl, by kernel_rfl, by kernel_rfl, by kernel_rfl, by kernel_rfl, by kernel_rfl, by kernel_rfl, by kernel_rfl, by kernel_rfl, trivial⟩
def XL1 : List (Nat × TyI) := [
  (43, TyI.mk false 1 24 [Cell.pv PV.nl] (TyU.slice 2) [Kd.sl 1]),
  (44, TyI.mk true 2 32 [Cell.pv (PV.sc (Value.int IntKind.i64 0)), Cell.pv PV.nl] (TyU.struct [(0, 1, false), (1, 1, false)]) [Kd.int IntKind.i64, Kd.sl 1]),
  (45, TyI.mk true 2 32 [Cell.pv (PV.sc (Value.int IntKind.i64 0)), Cell.pv PV.nl] (TyU.struct [(0, 1, false), (1, 1, false)]) [Kd.int IntKind.i64, Kd.sl 1]),
  (51, TyI.mk true 2 32 [Cell.pv (PV.sc (Value.int IntKind.i64 0)), Cell.pv PV.nl] (TyU.struct [(0, 1, false), (1, 1, false)]) [Kd.int IntKind.i64, Kd.sl 1]),
  (52, TyI.mk true 2 32 [Cell.pv (PV.sc (Value.int IntKind.i64 0)), Cell.pv PV.nl] (TyU.struct [(0, 1, false), (1, 1, false)]) [Kd.int IntKind.i64, Kd.sl 1]),
  (57, TyI.mk false 1 24 [Cell.pv PV.nl] (TyU.slice 88) [Kd.sl 2]),
  (58, TyI.mk true 2 32 [Cell.pv (PV.sc (Value.int IntKind.i64 0)), Cell.pv PV.nl] (TyU.struct [(0, 1, false), (1, 1, false)]) [Kd.int IntKind.i64, Kd.sl 2]),
  (59, TyI.mk true 2 32 [Cell.pv (PV.sc (Value.int IntKind.i64 0)), Cell.pv PV.nl] (TyU.struct [(0, 1, false), (1, 1, false)]) [Kd.int IntKind.i64, Kd.sl 2]),
  (69, TyI.mk false 1 24 [Cell.pv PV.nl] (TyU.slice 79) [Kd.sl 3]),
  (70, TyI.mk true 4 80 [Cell.pv PV.nl, Cell.pv PV.nl, Cell.pv PV.nl, Cell.pv (PV.sc (Value.int IntKind.i64 0))] (TyU.struct [(0, 1, false), (1, 1, false), (2, 1, false), (3, 1, false)]) [Kd.sl 2, Kd.sl 2, Kd.sl 3, Kd.int IntKind.i64]),
  (71, TyI.mk true 4 80 [Cell.pv PV.nl, Cell.pv PV.nl, Cell.pv PV.nl, Cell.pv (PV.sc (Value.int IntKind.i64 0))] (TyU.struct [(0, 1, false), (1, 1, false), (2, 1, false), (3, 1, false)]) [Kd.sl 2, Kd.sl 2, Kd.sl 3, Kd.int IntKind.i64]),
  (72, TyI.mk false 1 24 [Cell.pv PV.nl] (TyU.slice 106) [Kd.sl 6]),
  (73, TyI.mk false 1 24 [Cell.pv PV.nl] (TyU.slice 175) [Kd.sl 3]),
  (74, TyI.mk false 1 24 [Cell.pv PV.nl] (TyU.slice 71) [Kd.sl 4]),
  (75, TyI.mk false 1 24 [Cell.pv PV.nl] (TyU.slice 108) [Kd.sl 3]),
  (76, TyI.mk true 7 120 [Cell.pv PV.nl, Cell.pv PV.nl, Cell.pv PV.nl, Cell.pv (PV.sc (Value.int IntKind.i64 0)), Cell.pv (PV.sc (Value.int IntKind.i64 0)), Cell.pv PV.nl, Cell.pv (PV.sc (Value.bool false))] (TyU.struct [(0, 1, false), (1, 1, false), (2, 1, false), (3, 1, false), (4, 1, false), (5, 1, false), (6, 1, false)]) [Kd.sl 6, Kd.sl 3, Kd.sl 4, Kd.int IntKind.i64, Kd.int IntKind.i64, Kd.sl 3, Kd.bool]),
  (77, TyI.mk true 7 120 [Cell.pv PV.nl, Cell.pv PV.nl, Cell.pv PV.nl, Cell.pv (PV.sc (Value.int IntKind.i64 0)), Cell.pv (PV.sc (Value.int IntKind.i64 0)), Cell.pv PV.nl, Cell.pv (PV.sc (Value.bool false))] (TyU.struct [(0, 1, false), (1, 1, false), (2, 1, false), (3, 1, false), (4, 1, false), (5, 1, false), (6, 1, false)]) [Kd.sl 6, Kd.sl 3, Kd.sl 4, Kd.int IntKind.i64, Kd.int IntKind.i64, Kd.sl 3, Kd.bool]),
  (78, TyI.mk true 3 40 [Cell.pv (PV.sc (Value.int IntKind.i64 0)), Cell.pv (PV.sc (Value.int IntKind.i64 0)), Cell.pv PV.nl] (TyU.struct [(0, 1, false), (1, 1, false), (2, 1, false)]) [Kd.int IntKind.i64, Kd.int IntKind.i64, Kd.sl 2]),
  (79, TyI.mk true 3 40 [Cell.pv (PV.sc (Value.int IntKind.i64 0)), Cell.pv (PV.sc (Value.int IntKind.i64 0)), Cell.pv PV.nl] (TyU.struct [(0, 1, false), (1, 1, false), (2, 1, false)]) [Kd.int IntKind.i64, Kd.int IntKind.i64, Kd.sl 2]),
  (84, TyI.mk true 7 72 [Cell.pv (PV.sc (Value.int IntKind.i64 0)), Cell.pv (PV.sc (Value.int IntKind.i64 0)), Cell.pv (PV.sc (Value.int IntKind.i64 0)), Cell.pv (PV.sc (Value.int IntKind.i64 0)), Cell.pv (PV.sc (Value.int IntKind.i64 0)), Cell.pv (PV.sc (Value.int IntKind.i64 0)), Cell.pv PV.nl] (TyU.struct [(0, 1, false), (1, 1, false), (2, 1, false), (3, 1, false), (4, 1, false), (5, 1, false), (6, 1, false)]) [Kd.int IntKind.i64, Kd.int IntKind.i64, Kd.int IntKind.i64, Kd.int IntKind.i64, Kd.int IntKind.i64, Kd.int IntKind.i64, Kd.sl 1])]
theorem xl1 : tabled Tryz.prog XL1 := ⟨by kernel_rfl, by kernel_rfl, by kernel_rfl, by kernel_rfl, by kernel_rfl, by kernel_rfl, by kernel_rfl, by kernel_rfl, by kernel_rfl, by kernel_rfl, by kernel_rfl, by kernel_rfl, by kernel_rfl, by kernel_rfl, by kernel_rfl, by kernel_rfl, by kernel_rfl, by kernel_rfl, by kernel_rfl, by kernel_rfl, trivial⟩
def XL2 : List (Nat × TyI) := [
  (85, TyI.mk true 7 72 [Cell.pv (PV.sc (Value.int IntKind.i64 0)), Cell.pv (PV.sc (Value.int IntKind.i64 0)), Cell.pv (PV.sc (Value.int IntKind.i64 0)), Cell.pv (PV.sc (Value.int IntKind.i64 0)), Cell.pv (PV.sc (Value.int IntKind.i64 0)), Cell.pv (PV.sc (Value.int IntKind.i64 0)), Cell.pv PV.nl] (TyU.struct [(0, 1, false), (1, 1, false), (2, 1, false), (3, 1, false), (4, 1, false), (5, 1, false), (6, 1, false)]) [Kd.int IntKind.i64, Kd.int IntKind.i64, Kd.int IntKind.i64, Kd.int IntKind.i64, Kd.int IntKind.i64, Kd.int IntKind.i64, Kd.sl 1]),
  (87, TyI.mk true 2 32 [Cell.pv PV.nl, Cell.pv (PV.sc (Value.int IntKind.i64 0))] (TyU.struct [(0, 1, false), (1, 1, false)]) [Kd.sl 1, Kd.int IntKind.i64]),
  (88, TyI.mk true 2 32 [Cell.pv PV.nl, Cell.pv (PV.sc (Value.int IntKind.i64 0))] (TyU.struct [(0, 1, false), (1, 1, false)]) [Kd.sl 1, Kd.int IntKind.i64]),
  (105, TyI.mk true 6 80 [Cell.pv (PV.sc (Value.int IntKind.i64 0)), Cell.pv (PV.sc (Value.int IntKind.i64 0)), Cell.pv (PV.sc (Value.int IntKind.i64 0)), Cell.pv (PV.sc (Value.int IntKind.i64 0)), Cell.pv PV.nl, Cell.pv PV.nl] (TyU.struct [(0, 1, false), (1, 1, false), (2, 1, false), (3, 1, false), (4, 1, false), (5, 1, false)]) [Kd.int IntKind.i64, Kd.int IntKind.i64, Kd.int IntKind.i64, Kd.int IntKind.i64, Kd.sl 2, Kd.sl 3]),
  (106, TyI.mk true 6 80 [Cell.pv (PV.sc (Value.int IntKind.i64 0)), Cell.pv (PV.sc (Value.int IntKind.i64 0)), Cell.pv (PV.sc (Value.int IntKind.i64 0)), Cell.pv (PV.sc (Value.int IntKind.i64 0)), Cell.pv PV.nl, Cell.pv PV.nl] (TyU.struct [(0, 1, false), (1, 1, false), (2, 1, false), (3, 1, false), (4, 1, false), (5, 1, false)]) [Kd.int IntKind.i64, Kd.int IntKind.i64, Kd.int IntKind.i64, Kd.int IntKind.i64, Kd.sl 2, Kd.sl 3]),
  (107, TyI.mk true 3 40 [Cell.pv (PV.sc (Value.int IntKind.i64 0)), Cell.pv (PV.sc (Value.int IntKind.i64 0)), Cell.pv PV.nl] (TyU.struct [(0, 1, false), (1, 1, false), (2, 1, false)]) [Kd.int IntKind.i64, Kd.int IntKind.i64, Kd.sl 2]),
  (108, TyI.mk true 3 40 [Cell.pv (PV.sc (Value.int IntKind.i64 0)), Cell.pv (PV.sc (Value.int IntKind.i64 0)), Cell.pv PV.nl] (TyU.struct [(0, 1, false), (1, 1, false), (2, 1, false)]) [Kd.int IntKind.i64, Kd.int IntKind.i64, Kd.sl 2]),
  (112, TyI.mk true 7 72 [Cell.pv (PV.sc (Value.int IntKind.i64 0)), Cell.pv (PV.sc (Value.int IntKind.i64 0)), Cell.pv (PV.sc (Value.int IntKind.i64 0)), Cell.pv (PV.sc (Value.int IntKind.i64 0)), Cell.pv (PV.sc (Value.int IntKind.i64 0)), Cell.pv (PV.sc (Value.int IntKind.i64 0)), Cell.pv PV.nl] (TyU.struct [(0, 1, false), (1, 1, false), (2, 1, false), (3, 1, false), (4, 1, false), (5, 1, false), (6, 1, false)]) [Kd.int IntKind.i64, Kd.int IntKind.i64, Kd.int IntKind.i64, Kd.int IntKind.i64, Kd.int IntKind.i64, Kd.int IntKind.i64, Kd.sl 1]),
  (114, TyI.mk false 1 24 [Cell.pv PV.nl] (TyU.slice 153) [Kd.sl 6]),
  (115, TyI.mk false 1 24 [Cell.pv PV.nl] (TyU.slice 192) [Kd.sl 3]),
  (116, TyI.mk false 1 24 [Cell.pv PV.nl] (TyU.slice 180) [Kd.sl 4]),
  (117, TyI.mk false 1 24 [Cell.pv PV.nl] (TyU.slice 183) [Kd.sl 3]),
  (118, TyI.mk true 7 120 [Cell.pv PV.nl, Cell.pv PV.nl, Cell.pv PV.nl, Cell.pv (PV.sc (Value.int IntKind.i64 0)), Cell.pv (PV.sc (Value.int IntKind.i64 0)), Cell.pv PV.nl, Cell.pv (PV.sc (Value.bool false))] (TyU.struct [(0, 1, false), (1, 1, false), (2, 1, false), (3, 1, false), (4, 1, false), (5, 1, false), (6, 1, false)]) [Kd.sl 6, Kd.sl 3, Kd.sl 4, Kd.int IntKind.i64, Kd.int IntKind.i64, Kd.sl 3, Kd.bool]),
  (119, TyI.mk true 7 120 [Cell.pv PV.nl, Cell.pv PV.nl, Cell.pv PV.nl, Cell.pv (PV.sc (Value.int IntKind.i64 0)), Cell.pv (PV.sc (Value.int IntKind.i64 0)), Cell.pv PV.nl, Cell.pv (PV.sc (Value.bool false))] (TyU.struct [(0, 1, false), (1, 1, false), (2, 1, false), (3, 1, false), (4, 1, false), (5, 1, false), (6, 1, false)]) [Kd.sl 6, Kd.sl 3, Kd.sl 4, Kd.int IntKind.i64, Kd.int IntKind.i64, Kd.sl 3, Kd.bool]),
  (137, TyI.mk false 1 8 [Cell.pv (PV.sc (Value.pointer none))] TyU.other [Kd.other]),
  (139, TyI.mk false 1 8 [Cell.pv (PV.sc (Value.pointer none))] TyU.other [Kd.other]),
  (151, TyI.mk false 1 24 [Cell.pv PV.nl] (TyU.slice 204) [Kd.sl 2]),
  (152, TyI.mk true 6 80 [Cell.pv (PV.sc (Value.int IntKind.i64 0)), Cell.pv (PV.sc (Value.int IntKind.i64 0)), Cell.pv (PV.sc (Value.int IntKind.i64 0)), Cell.pv (PV.sc (Value.int IntKind.i64 0)), Cell.pv PV.nl, Cell.pv PV.nl] (TyU.struct [(0, 1, false), (1, 1, false), (2, 1, false), (3, 1, false), (4, 1, false), (5, 1, false)]) [Kd.int IntKind.i64, Kd.int IntKind.i64, Kd.int IntKind.i64, Kd.int IntKind.i64, Kd.sl 2, Kd.sl 3]),
  (153, TyI.mk true 6 80 [Cell.pv (PV.sc (Value.int IntKind.i64 0)), Cell.pv (PV.sc (Value.int IntKind.i64 0)), Cell.pv (PV.sc (Value.int IntKind.i64 0)), Cell.pv (PV.sc (Value.int IntKind.i64 0)), Cell.pv PV.nl, Cell.pv PV.nl] (TyU.struct [(0, 1, false), (1, 1, false), (2, 1, false), (3, 1, false), (4, 1, false), (5, 1, false)]) [Kd.int IntKind.i64, Kd.int IntKind.i64, Kd.int IntKind.i64, Kd.int IntKind.i64, Kd.sl 2, Kd.sl 3]),
  (174, TyI.mk true 3 24 [Cell.pv (PV.sc (Value.int IntKind.i64 0)), Cell.pv (PV.sc (Value.int IntKind.i64 0)), Cell.pv (PV.sc (Value.int IntKind.i64 0))] (TyU.struct [(0, 1, false), (1, 1, false), (2, 1, false)]) [Kd.int IntKind.i64, Kd.int IntKind.i64, Kd.int IntKind.i64])]
theorem xl2 : tabled Tryz.prog XL2 := ⟨by kernel_rfl, by kernel_rfl, by kernel_rfl, by kernel_rfl, by kernel_rfl, by kernel_rfl, by kernel_rfl, by kernel_rfl, by kernel_rfl, by kernel_rfl, by kernel_rfl, by kernel_rfl, by kernel_rfl, by kernel_rfl, by kernel_rfl, by kernel_rfl, by kernel_rfl, by kernel_rfl, by kernel_rfl, by kernel_rfl, trivial⟩
def XL3 : List (Nat × TyI) := [
  (175, TyI.mk true 3 24 [Cell.pv (PV.sc (Value.int IntKind.i64 0)), Cell.pv (PV.sc (Value.int IntKind.i64 0)), Cell.pv (PV.sc (Value.int IntKind.i64 0))] (TyU.struct [(0, 1, false), (1, 1, false), (2, 1, false)]) [Kd.int IntKind.i64, Kd.int IntKind.i64, Kd.int IntKind.i64]),
  (178, TyI.mk false 1 24 [Cell.pv PV.nl] (TyU.slice 213) [Kd.sl 3]),
  (179, TyI.mk true 4 80 [Cell.pv PV.nl, Cell.pv PV.nl, Cell.pv PV.nl, Cell.pv (PV.sc (Value.int IntKind.i64 0))] (TyU.struct [(0, 1, false), (1, 1, false), (2, 1, false), (3, 1, false)]) [Kd.sl 2, Kd.sl 2, Kd.sl 3, Kd.int IntKind.i64]),
  (180, TyI.mk true 4 80 [Cell.pv PV.nl, Cell.pv PV.nl, Cell.pv PV.nl, Cell.pv (PV.sc (Value.int IntKind.i64 0))] (TyU.struct [(0, 1, false), (1, 1, false), (2, 1, false), (3, 1, false)]) [Kd.sl 2, Kd.sl 2, Kd.sl 3, Kd.int IntKind.i64]),
  (182, TyI.mk true 3 40 [Cell.pv (PV.sc (Value.int IntKind.i64 0)), Cell.pv (PV.sc (Value.int IntKind.i64 0)), Cell.pv PV.nl] (TyU.struct [(0, 1, false), (1, 1, false), (2, 1, false)]) [Kd.int IntKind.i64, Kd.int IntKind.i64, Kd.sl 2]),
  (183, TyI.mk true 3 40 [Cell.pv (PV.sc (Value.int IntKind.i64 0)), Cell.pv (PV.sc (Value.int IntKind.i64 0)), Cell.pv PV.nl] (TyU.struct [(0, 1, false), (1, 1, false), (2, 1, false)]) [Kd.int IntKind.i64, Kd.int IntKind.i64, Kd.sl 2]),
  (192, TyI.mk true 3 24 [Cell.pv (PV.sc (Value.int IntKind.i64 0)), Cell.pv (PV.sc (Value.int IntKind.i64 0)), Cell.pv (PV.sc (Value.int IntKind.i64 0))] (TyU.struct [(0, 1, false), (1, 1, false), (2, 1, false)]) [Kd.int IntKind.i64, Kd.int IntKind.i64, Kd.int IntKind.i64]),
  (204, TyI.mk true 2 32 [Cell.pv PV.nl, Cell.pv (PV.sc (Value.int IntKind.i64 0))] (TyU.struct [(0, 1, false), (1, 1, false)]) [Kd.sl 1, Kd.int IntKind.i64]),
  (212, TyI.mk true 3 40 [Cell.pv (PV.sc (Value.int IntKind.i64 0)), Cell.pv (PV.sc (Value.int IntKind.i64 0)), Cell.pv PV.nl] (TyU.struct [(0, 1, false), (1, 1, false), (2, 1, false)]) [Kd.int IntKind.i64, Kd.int IntKind.i64, Kd.sl 2]),
  (213, TyI.mk true 3 40 [Cell.pv (PV.sc (Value.int IntKind.i64 0)), Cell.pv (PV.sc (Value.int IntKind.i64 0)), Cell.pv PV.nl] (TyU.struct [(0, 1, false), (1, 1, false), (2, 1, false)]) [Kd.int IntKind.i64, Kd.int IntKind.i64, Kd.sl 2]),
  (215, TyI.mk false 1 24 [Cell.pv PV.nl] (TyU.slice 3) [Kd.sl 1]),
  (226, TyI.mk false 1 4 [Cell.pv (PV.sc (Value.int IntKind.u32 0))] (TyU.int IntKind.u32) [Kd.int IntKind.u32]),
  (230, TyI.mk false 1 8 [Cell.pv (PV.sc (Value.pointer none))] TyU.other [Kd.other])]
theorem xl3 : tabled Tryz.prog XL3 := ⟨by kernel_rfl, by kernel_rfl, by kernel_rfl, by kernel_rfl, by kernel_rfl, by kernel_rfl, by kernel_rfl, by kernel_rfl, by kernel_rfl, by kernel_rfl, by kernel_rfl, by kernel_rfl, by kernel_rfl, trivial⟩
def XL : List (Nat × TyI) := XL0 ++ (XL1 ++ (XL2 ++ (XL3)))
def X : Ctx := fun t => lk t XL
theorem xok : XOk Tryz.prog X := fun _ _ h => tabled_lk (tabled_app xl0 (tabled_app xl1 (tabled_app xl2 xl3))) h
end Go.Proofs.Tryz
