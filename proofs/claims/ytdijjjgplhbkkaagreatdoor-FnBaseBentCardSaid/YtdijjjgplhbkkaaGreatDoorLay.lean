/- The package-level variables that the rows of this seat lay, and what they hold. -/
import GoSem.ClaimJoined
import Derived.Lib.ItoaNum
namespace Go.Vl
open Go
def layP : List (Nat × (Array Value → Prop)) := [(0, fun cs => cs = (Lib.pow10Tab.map fun z => Value.int .u64 z).toArray),
  (1, fun cs => ∃ tp p, cs = #[.iface tp p]),
  (2, fun cs => ∃ tp p, cs = #[.iface tp p])]
end Go.Vl
