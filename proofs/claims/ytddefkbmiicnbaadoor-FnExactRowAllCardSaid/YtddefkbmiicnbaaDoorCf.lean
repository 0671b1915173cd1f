/- The law on where a name stands in a shape: what its function computes. -/
import Derived.Test.YtddefkbmiicnbaaDoorCe
namespace Go.Vl
open Go Go.RowKit Go.Proofs
set_option maxRecDepth 100000
set_option linter.unusedSimpArgs false
set_option linter.unusedVariables false
set_option maxHeartbeats 1000000

def shapeAt (cs : List Col) (s : ByteArray) : Int := if shapeOk cs then nameAt cs s else -1

end Go.Vl
