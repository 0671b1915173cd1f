/- Contracts: shapes alike. -/
import Derived.Test.YtddefkbmiicnbaaDoorE4
namespace Go.Vl
open Go Go.RowKit Go.Proofs
set_option maxRecDepth 100000
set_option linter.unusedSimpArgs false
set_option linter.unusedVariables false
set_option maxHeartbeats 1000000

theorem row_at {cs : List Col} {i : Nat} (h : i < cs.length) : (cs.map encCol)[((i : Nat) : Int).toNat]? = some (encCol cs[i]) := by
  rw [Int.toNat_natCast, List.getElem?_map, List.getElem?_eq_getElem h]; rfl

end Go.Vl
