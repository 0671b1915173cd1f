/- Contracts: what the reader draws: texts, numbers, values. -/
import Derived.Test.YtddefkbmiicnbaaDoorDa
namespace Go.Vl
open Go Go.RowKit Go.Proofs
set_option maxRecDepth 100000
set_option linter.unusedSimpArgs false
set_option linter.unusedVariables false
set_option maxHeartbeats 1000000

def strRows (Q : ByteArray → Prop) (rows : List (List Leaf)) : Prop := ∀ r ∈ rows, ∃ t, r = [.g (.string t)] ∧ Q t
def intRows (Q : Int → Prop) (rows : List (List Leaf)) : Prop := ∀ r ∈ rows, ∃ t, r = [.g (.int .i64 t)] ∧ Q t
def strAt (rows : List (List Leaf)) (i : Nat) : ByteArray := match rows[i]? with
  | some [.g (.string t)] => t
  | _ => ⟨#[]⟩
def intAt (rows : List (List Leaf)) (i : Nat) : Int := match rows[i]? with
  | some [.g (.int .i64 t)] => t
  | _ => 0
theorem strAt_row {Q : ByteArray → Prop} {rows : List (List Leaf)} (h : strRows Q rows) {i : Nat} (hi : i < rows.length) : rows[i]? = some [.g (.string (strAt rows i))] ∧ Q (strAt rows i) := by
  obtain ⟨t, ht, hq⟩ := h rows[i] (List.getElem_mem hi)
  have e : rows[i]? = some [.g (.string t)] := by rw [List.getElem?_eq_getElem hi, ht]
  have e2 : strAt rows i = t := by unfold strAt; rw [e]
  rw [e2]; exact ⟨e, hq⟩
theorem intAt_row {Q : Int → Prop} {rows : List (List Leaf)} (h : intRows Q rows) {i : Nat} (hi : i < rows.length) : rows[i]? = some [.g (.int .i64 (intAt rows i))] ∧ Q (intAt rows i) := by
  obtain ⟨t, ht, hq⟩ := h rows[i] (List.getElem_mem hi)
  have e : rows[i]? = some [.g (.int .i64 t)] := by rw [List.getElem?_eq_getElem hi, ht]
  have e2 : intAt rows i = t := by unfold intAt; rw [e]
  rw [e2]; exact ⟨e, hq⟩

theorem le8 {n : Nat} (h : n ≤ 8) : n ≤ maxLen := by unfold maxLen; omega
theorem bs0 : (⟨#[]⟩ : ByteArray).size = 0 := rfl

end Go.Vl
