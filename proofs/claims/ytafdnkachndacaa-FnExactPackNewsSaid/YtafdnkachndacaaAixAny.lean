/-
  THE CALCULUS, TWENTY-FOURTH TEXT: regions whose order is drawn.
-/
import Derived.Test.YtafdnkachndacaaAixPur
import Derived.Orders
set_option linter.unusedSimpArgs false
set_option linter.unusedVariables false
namespace Go.Aix
def firstPure (ops : Array Oper) (listed : Array Bool) : List Nat → Option Nat
  | [] => none
  | i :: r => match ops[i]? with
    | some o => match pureOp o && Region.free .any ops listed i with
      | true => some i
      | false => firstPure ops listed r
    | none => firstPure ops listed r
def allOut (f : Nat → Out) : List Nat → Out
  | [] => .stuck
  | i :: r => match r with
    | [] => f i
    | _ => .both fun t => match t with
      | true => f i
      | false => allOut f r
section
variable (X : Ctx) (I : Ops) (Y : CallsA) (ops : Array Oper)
def goAny : Nat → Array Bool → St → (St → Out) → Out
  | 0, listed, S, k => match Region.ready .any ops listed with
    | [] => k S
    | _ => .stuck
  | n + 1, listed, S, k => match Region.ready .any ops listed with
    | [] => k S
    | rs => match firstPure ops listed rs with
      | some j => match ops[j]? with
        | some o => (opA X I Y ops S o).out fun S => goAny n (listed.setIfInBounds j true) S k
        | none => .stuck
      | none => allOut (fun i => match ops[i]? with
        | some o => (opA X I Y ops S o).out fun S => goAny n (listed.setIfInBounds i true) S k
        | none => .stuck) rs
end
end Go.Aix
