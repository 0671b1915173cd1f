/- Contracts: how great things are. Printed by our own gends.py. -/
import Derived.Test.YtddefkbmiicnbaaGreatDoorJBa
import Derived.Test.YtddefkbmiicnbaaGreatDoorWi
set_option linter.unusedSimpArgs false
set_option linter.unusedVariables false

namespace Go.Vl
open Go Go.RowKit Go.Proofs
set_option maxRecDepth 100000
set_option linter.unusedSimpArgs false
set_option linter.unusedVariables false
set_option maxHeartbeats 2000000
theorem wsub {n : Int} {s : Nat} (h0 : 0 ≤ n) (h1 : n ≤ 1048576) (hs : s ≤ maxLen) : IntKind.i64.wrap (n - (s : Int)) = n - s := by rw [IntKind.wrap_i64]; unfold maxLen at hs; omega
end Go.Vl
