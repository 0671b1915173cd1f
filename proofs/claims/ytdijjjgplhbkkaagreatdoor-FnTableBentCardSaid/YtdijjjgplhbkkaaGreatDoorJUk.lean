/- Contracts: how great things are, texts counted too; copies that may be written; marks, and marks that are held. Parts printed by genmk.py. Laws: columns and rows behind changes: the program's are the reference's; what it gives back is its own. -/
import Derived.Test.YtdijjjgplhbkkaaGreatDoorJUf
import Derived.Test.YtdijjjgplhbkkaaGreatDoorJUi
import Derived.Test.YtdijjjgplhbkkaaGreatDoorJUj
import Derived.Test.YtdijjjgplhbkkaaGreatDoorJUc
import Derived.Test.YtdijjjgplhbkkaaGreatDoorJUg
set_option linter.unusedSimpArgs false
set_option linter.unusedVariables false
set_option linter.unnecessarySimpa false

namespace Go.Vl
open Go Go.RowKit Go.Proofs
set_option maxRecDepth 100000
set_option linter.unusedSimpArgs false
set_option linter.unusedVariables false
set_option linter.unnecessarySimpa false
set_option maxHeartbeats 4000000
-- texts of marks
end Go.Vl

namespace Go.Vl
open Go Go.RowKit Go.Proofs
set_option maxRecDepth 100000
set_option linter.unusedSimpArgs false
set_option linter.unusedVariables false
set_option linter.unnecessarySimpa false
set_option maxHeartbeats 8000000

theorem mdv_ok {l : List Val} (h : mdVals l) : ∀ v ∈ l, v.ok := fun v hv => by have : v.t.size ≤ 1048576 := h v hv; show v.t.size ≤ maxLen; unfold maxLen; omega
theorem lmax {n : Nat} (h : n ≤ 3000000) : n ≤ maxLen := by unfold maxLen; omega

theorem fzH (x : List Change) : ((x.map encChange).drop 0).take x.length = x.map encChange := by rw [List.drop_zero, List.take_of_length_le (by simp)]
theorem Change.md.ok {c : Change} (h : c.md) : c.ok := ⟨by have := h.1; unfold maxLen; omega, by have := h.2.1; unfold maxLen; omega, by have := h.2.2.1; unfold maxLen; omega, by have := h.2.2.2; show c.col.d.t.size ≤ maxLen; unfold maxLen; omega⟩
end Go.Vl
