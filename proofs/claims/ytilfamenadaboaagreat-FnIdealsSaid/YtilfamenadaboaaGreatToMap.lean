/- 'toMap', 'toMapS', 'toInt64S' and 'toAcceptor' copy what came in. No condition. -/
import Derived.Test.YtilfamenadaboaaGreatIsMap
namespace Go.Proofs.YtilfamenadaboaaGreat
set_option linter.unusedSimpArgs false
set_option linter.unusedVariables false
set_option linter.unusedSectionVars false
open Go.RowKit
end Go.Proofs.YtilfamenadaboaaGreat
