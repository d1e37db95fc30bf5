/- Contracts. -/
import Derived.Test.YtiieincddkhcdaaGreatAixH
import Derived.Test.YtiieincddkhcdaaGreatAix4
import Derived.Test.YtiieincddkhcdaaGreatAix3
import Derived.Test.YtiieincddkhcdaaGreatAixLink
set_option linter.unusedSimpArgs false
set_option linter.unusedVariables false
namespace Go.Proofs.Tryz
open Go Go.Aix
set_option maxRecDepth 100000
set_option maxHeartbeats 4000000
set_option linter.unusedSimpArgs false
set_option linter.unusedVariables false
theorem mixed : Tryz.prog.follows .mixedOrders = true := by kernel_rfl
def szL (n m : Int) : Int := if IntKind.i64.wrap (m - n) < 0 then -1 else IntKind.i64.wrap (m - n)
/-! ### Marks -/
def nx1 (m : Int) : Int := IntKind.i64.wrap (m + 1)
/-- What is written over the elements of a list, one behind the other. -/
def mkS {V : Type} (f : V → Int → V × Int) : List V → Int → List V × Int
  | [], k => ([], k)
  | e :: r, k => ((f e k).1 :: (mkS f r (f e k).2).1, (mkS f r (f e k).2).2)
@[simp] theorem mkS_len {V : Type} (f : V → Int → V × Int) : ∀ (l : List V) (k : Int), (mkS f l k).1.length = l.length
  | [], _ => rfl
  | e :: r, k => by simp [mkS, mkS_len f r]
@[simp] theorem mkS_take {V : Type} (f : V → Int → V × Int) (l : List V) (k : Int) : (mkS f l k).1.take l.length = (mkS f l k).1 := List.take_of_length_le (by rw [mkS_len]; exact Nat.le_refl _)
@[simp] theorem mkS_nil {V : Type} (f : V → Int → V × Int) (k : Int) : mkS f [] k = ([], k) := rfl
def fU8 (_ : Int) (k : Int) : Int × Int := (IntKind.u8.wrap k, nx1 k)
def fI64 (_ : Int) (k : Int) : Int × Int := (k, nx1 k)
@[simp] theorem tI64_owns : ∀ l, mapE tI64.own l = tI64.encs l
  | [] => rfl
  | a :: l => by show _ :: mapE tI64.own l = _ :: tI64.encs l; rw [tI64_owns l]; rfl
@[simp] theorem tU8_owns : ∀ l, mapE tU8.own l = tU8.encs l
  | [] => rfl
  | a :: l => by show _ :: mapE tU8.own l = _ :: tU8.encs l; rw [tU8_owns l]; rfl
@[simp] theorem pO_I64 (l : List Int) : (pO tI64).dec (.one (.pv (.sl true 1 (tI64.encs l)))) = some l := by rw [← tI64_owns]; exact pO_dec tI64 l
@[simp] theorem pO_U8 (l : List Int) : (pO tU8).dec (.one (.pv (.sl true 1 (tU8.encs l)))) = some l := by rw [← tU8_owns]; exact pO_dec tU8 l
/-! ### Held -/
/-- Is each element as it was marked? -/
def hdS {V : Type} (f : V → Int → Option Int) : List V → Int → Int
  | [], k => k
  | e :: r, k => match f e k with
    | some k' => hdS f r k'
    | none => -1
@[simp] theorem hdS_nil {V : Type} (f : V → Int → Option Int) (k : Int) : hdS f [] k = k := rfl
def hU8 (c k : Int) : Option Int := if c = IntKind.u8.wrap k then some (nx1 k) else none
def hI64 (c k : Int) : Option Int := if c = k then some (nx1 k) else none
/-! ### Sizes -/
def szS {V : Type} (f : V → Int → Int) : List V → Int → Int
  | [], m => m
  | e :: r, m => if f e m < 0 then -1 else szS f r (f e m)
def szA {V : Type} (f : V → Int → Int) (l : List V) (m : Int) : Int := if IntKind.i64.wrap (m - l.length) < 0 then -1 else szS f l (IntKind.i64.wrap (m - l.length))
theorem wsucc {i : Nat} (h : i < 9223372036854775807) : IntKind.i64.wrap ((i : Int) + 1) = ((i + 1 : Nat) : Int) := by rw [IntKind.wrap_i64]; omega
abbrev rI (n : Int) : RES := (.one (.pv (.sc (.int .i64 n))), [], 0)
abbrev rB (b : Bool) : RES := (.one (.pv (.sc (.bool b))), [], 0)
theorem drop_nil {α : Type} {l : List α} {i : Nat} (h : l.length ≤ i) : l.drop i = [] := List.drop_of_length_le h
end Go.Proofs.Tryz
