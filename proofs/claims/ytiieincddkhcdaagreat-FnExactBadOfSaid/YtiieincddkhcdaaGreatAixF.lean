/-
  THE CALCULUS, A FURTHER TEXT: a row of its own that is written no more, and functions read out of a row.
-/
import Derived.Test.YtiieincddkhcdaaGreatAixH
set_option linter.unusedSimpArgs false
set_option linter.unusedVariables false
namespace Go.Aix
section
variable {P : Program} {f : FuncId} {fn : Func} {E : Ent} {R : Value → World → Prop} {k : List Item}
end
end Go.Aix
