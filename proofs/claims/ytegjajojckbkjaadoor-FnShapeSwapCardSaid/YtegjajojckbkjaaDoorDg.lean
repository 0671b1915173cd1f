/- Laws: columns are found by name. -/
import Derived.Test.YtegjajojckbkjaaDoorDf
import Derived.Test.YtegjajojckbkjaaDoorCf
import Derived.Test.YtegjajojckbkjaaDoorCg
import Derived.Test.YtegjajojckbkjaaDoorPa
namespace Go.Vl
open Go Go.RowKit Go.Proofs
set_option maxRecDepth 100000
set_option linter.unusedSimpArgs false
set_option linter.unusedVariables false
set_option maxHeartbeats 2000000

theorem smlCols.ok {l : List Col} (h : smlCols l) : ∀ c ∈ l, c.ok := fun c hc => (h c hc).ok

end Go.Vl
