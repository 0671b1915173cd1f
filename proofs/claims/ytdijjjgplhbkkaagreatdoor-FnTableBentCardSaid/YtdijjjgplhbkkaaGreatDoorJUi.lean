/- Contracts: how great things are. Printed by our own gends.py. -/
import Derived.Test.YtdijjjgplhbkkaaGreatDoorJUa
import Derived.Test.YtdijjjgplhbkkaaGreatDoorWi
set_option linter.unusedSimpArgs false
set_option linter.unusedVariables false
set_option linter.unnecessarySimpa false

namespace Go.Vl
open Go Go.RowKit Go.Proofs
set_option maxRecDepth 100000
set_option linter.unusedSimpArgs false
set_option linter.unusedVariables false
set_option linter.unnecessarySimpa false
set_option maxHeartbeats 2000000
end Go.Vl
