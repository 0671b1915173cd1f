/- The package-level variables that the rows of this seat lay, and what they hold. -/
import GoSem.ClaimJoined
namespace Go.Vl
open Go
def layP : List (Nat × (Array Value → Prop)) := []
end Go.Vl
