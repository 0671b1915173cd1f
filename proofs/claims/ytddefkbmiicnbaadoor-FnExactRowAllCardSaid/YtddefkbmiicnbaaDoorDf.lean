/- Contracts: the drawn cases of the laws on columns and rows. -/
import Derived.Test.YtddefkbmiicnbaaDoorDe
import Derived.Test.YtddefkbmiicnbaaDoorWi
namespace Go.Vl
open Go Go.RowKit Go.Proofs
set_option maxRecDepth 100000
set_option linter.unusedSimpArgs false
set_option linter.unusedVariables false
set_option maxHeartbeats 2000000

theorem BOk.of {bs : List Int} (hb : ∀ x ∈ bs, 0 ≤ x ∧ x < 256) : BOk (bs.take 2000) := ⟨fun x hx => hb x (List.mem_of_mem_take hx), by simp; omega⟩

end Go.Vl
