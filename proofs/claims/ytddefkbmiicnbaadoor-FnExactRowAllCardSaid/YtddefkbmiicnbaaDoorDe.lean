/- Contracts: what the reader draws: rows; drawn cases of the laws on columns and rows. -/
import Derived.Test.YtddefkbmiicnbaaDoorDd
namespace Go.Vl
open Go Go.RowKit Go.Proofs
set_option maxRecDepth 100000
set_option linter.unusedSimpArgs false
set_option linter.unusedVariables false
set_option maxHeartbeats 2000000

def smlVals (l : List Val) : Prop := ∀ x ∈ l, x.t.size ≤ 8
theorem smlVals.set {l : List Val} (h : smlVals l) {i : Nat} {c : Val} (hc : c.t.size ≤ 8) : smlVals (l.set i c) := by
  intro x hx
  rcases List.mem_or_eq_of_mem_set hx with hx | rfl
  · exact h x hx
  · exact hc
theorem smlVals.app {l : List Val} (h : smlVals l) {c : Val} (hc : c.t.size ≤ 8) : smlVals (l ++ [c]) := by
  intro x hx
  rcases List.mem_append.1 hx with hx | hx
  · exact h x hx
  · simp at hx; subst hx; exact hc
theorem smlVals.drop {l : List Val} (h : smlVals l) (n : Nat) : smlVals (l.drop n) := fun x hx => h x (List.mem_of_mem_drop hx)

end Go.Vl
