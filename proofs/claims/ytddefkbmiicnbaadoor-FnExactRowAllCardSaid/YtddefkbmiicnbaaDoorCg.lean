/- Contracts: rows of values: how great, turned, alike, sound; the law on a row. -/
import Derived.Test.YtddefkbmiicnbaaDoorCf
namespace Go.Vl
open Go Go.RowKit Go.Proofs
set_option maxRecDepth 100000
set_option linter.unusedSimpArgs false
set_option linter.unusedVariables false
set_option maxHeartbeats 2000000

theorem rowv_at {cs : List Val} {i : Nat} (h : i < cs.length) : (cs.map encVal)[((i : Nat) : Int).toNat]? = some (encVal cs[i]) := by
  rw [Int.toNat_natCast, List.getElem?_map, List.getElem?_eq_getElem h]; rfl

def cellOk (c : Col) (v : Val) : Bool := valOk v && (v.k == 0 || v.k == c.kind) && !(c.need && v.k == 0)
def rowGo : List Col → List Val → Bool
  | c :: cs, v :: vs => cellOk c v && rowGo cs vs
  | [], [] => true
  | _, _ => false
theorem rowGo_step {cs : List Col} {vs : List Val} {i : Nat} (h1 : i < cs.length) (h2 : i < vs.length) : rowGo (cs.drop i) (vs.drop i) = (cellOk cs[i] vs[i] && rowGo (cs.drop (i + 1)) (vs.drop (i + 1))) := by
  rw [List.drop_eq_getElem_cons h1, List.drop_eq_getElem_cons h2, rowGo]
theorem rowGo_end {cs : List Col} {vs : List Val} {i : Nat} (h1 : cs.length ≤ i) (h2 : vs.length ≤ i) : rowGo (cs.drop i) (vs.drop i) = true := by
  rw [List.drop_of_length_le h1, List.drop_of_length_le h2, rowGo]
def rowIn (cs : List Col) (vs : List Val) : Bool := if vs.length ≠ cs.length then false else rowGo cs vs
def rowOk (cs : List Col) (vs : List Val) : Bool := shapeOk cs && rowIn cs vs

end Go.Vl
