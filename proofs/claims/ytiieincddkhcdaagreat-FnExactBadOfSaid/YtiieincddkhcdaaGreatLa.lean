/- Contracts. -/
import Derived.Test.YtiieincddkhcdaaGreatBa
set_option linter.unusedSimpArgs false
set_option linter.unusedVariables false
namespace Go.Proofs.Tryz
open Go Go.Aix
set_option maxRecDepth 100000
set_option maxHeartbeats 4000000
end Go.Proofs.Tryz
