/- When two things are one; contracts of what asks so. Printed by our own genq.py. -/
import Derived.Test.YtddefkbmiicnbaaDoorE0
import Derived.Test.YtddefkbmiicnbaaDoorWi
namespace Go.Vl
open Go Go.RowKit Go.Proofs
set_option maxRecDepth 100000
set_option linter.unusedSimpArgs false
set_option linter.unusedVariables false
set_option maxHeartbeats 2000000
def q_Val (a b : Val) : Bool := ((a.k == b.k) && ((a.n == b.n) && ((a.t.toList == b.t.toList) && true)))
def q_Col (a b : Col) : Bool := ((a.name.toList == b.name.toList) && ((a.kind == b.kind) && ((a.need == b.need) && ((a.once == b.once) && ((q_Val a.d b.d) && true)))))
def q_Change (a b : Change) : Bool := ((a.kind == b.kind) && ((a.name.toList == b.name.toList) && ((a.new.toList == b.new.toList) && ((q_Col a.col b.col) && true))))
def q_VLink (a b : VLink) : Bool := ((a.src.toList == b.src.toList) && ((a.col.toList == b.col.toList) && ((a.dst.toList == b.dst.toList) && ((a.how == b.how) && true))))
def q_VRef (a b : VRef) : Bool := ((a.name.toList == b.name.toList) && ((a.id == b.id) && true))
def q_VSet (a b : VSet) : Bool := ((a.name.toList == b.name.toList) && ((q_Val a.val b.val) && true))
def leq {α : Type} (f : α → α → Bool) : List α → List α → Bool
  | a :: us, b :: bs => f a b && leq f us bs
  | [], [] => true
  | _, _ => false
section
variable {α : Type} {f : α → α → Bool} {us bs : List α}
theorem leq_step {i : Nat} (h1 : i < us.length) (h2 : i < bs.length) : leq f (us.drop i) (bs.drop i) = (f us[i] bs[i] && leq f (us.drop (i + 1)) (bs.drop (i + 1))) := by
  rw [List.drop_eq_getElem_cons h1, List.drop_eq_getElem_cons h2, leq]
theorem leq_end {i : Nat} (h1 : us.length ≤ i) (h2 : bs.length ≤ i) : leq f (us.drop i) (bs.drop i) = true := by
  rw [List.drop_of_length_le h1, List.drop_of_length_le h2, leq]
theorem leq_len : ∀ {us bs : List α}, us.length ≠ bs.length → leq f us bs = false
  | [], [], h => absurd rfl h
  | [], _ :: _, _ => rfl
  | _ :: _, [], _ => rfl
  | a :: us, b :: bs, h => by rw [leq, leq_len (by simpa using h), Bool.and_false]
end
def q_VRow (a b : VRow) : Bool := (a.id == b.id) && ((a.ver == b.ver) && leq q_Val a.vals b.vals)
def q_VTable (a b : VTable) : Bool := leq q_Col a.first b.first && (leq q_Change a.changes b.changes && ((a.next == b.next) && leq q_VRow a.rows b.rows))
def q_VTab (a b : VTab) : Bool := (a.name.toList == b.name.toList) && q_VTable a.table b.table
def q_VBase (a b : VBase) : Bool := leq q_VLink a.links b.links && leq q_VTab a.tabs b.tabs
end Go.Vl
