/- Contracts: how great things are. Printed by our own gends.py. Contracts: things turned, things like themselves. Printed by our own gends.py. Contracts: a thing is like itself. Printed by our own gends.py. -/
import Derived.Test.YtdijjjgplhbkkaaGreatDoorJEa
import Derived.Test.YtdijjjgplhbkkaaGreatDoorWi
set_option linter.unusedSimpArgs false
set_option linter.unusedVariables false
set_option linter.unnecessarySimpa false
set_option maxRecDepth 100000
set_option maxHeartbeats 16000000

namespace Go.Vl
open Go Go.RowKit Go.Proofs
section
variable {α : Type} {enc : α → List Leaf} {z : List Leaf} {l : List α}
end
end Go.Vl
