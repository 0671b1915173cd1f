/- Contracts: things turned, things like themselves. Printed by our own gends.py. Contracts: a thing is like itself. Printed by our own gends.py. -/
import Derived.Test.YtdijjjgplhbkkaaGreatDoorJUi
import Derived.Test.YtdijjjgplhbkkaaGreatDoorJUa
import Derived.Test.YtdijjjgplhbkkaaGreatDoorWi
set_option linter.unusedSimpArgs false
set_option linter.unusedVariables false
set_option linter.unnecessarySimpa false

namespace Go.Vl
open Go Go.RowKit Go.Proofs
set_option maxRecDepth 100000
set_option linter.unusedSimpArgs false
set_option linter.unusedVariables false
set_option linter.unnecessarySimpa false
set_option maxHeartbeats 2000000
section
variable {α : Type} {enc : α → List Leaf} {z : List Leaf} {l : List α}
end
end Go.Vl

namespace Go.Vl
open Go Go.RowKit Go.Proofs
set_option maxRecDepth 100000
set_option linter.unusedSimpArgs false
set_option linter.unusedVariables false
set_option linter.unnecessarySimpa false
set_option maxHeartbeats 2000000
end Go.Vl
