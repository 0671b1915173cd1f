/- Contracts: columns. -/
import Derived.Test.YtodknhldemgneaaDoorCb
namespace Go.Vl
open Go Go.RowKit Go.Proofs
set_option maxRecDepth 100000
set_option maxHeartbeats 400000

structure Col where
  name : ByteArray
  kind : Int
  need : Bool
  once : Bool
  d : Val
def encCol : Col → List Leaf
  | ⟨name, kind, need, once, ⟨k, n, t⟩⟩ => [.g (.string name), .g (.int .i64 kind), .g (.bool need), .g (.bool once), .g (.int .i64 k), .g (.int .i64 n), .g (.string t)]
def Col.ok (c : Col) : Prop := c.name.size ≤ maxLen ∧ c.d.t.size ≤ maxLen

def colsI (cs : List Col) : Slot := .one (.imm 7 (cs.map encCol))
def valsI (cs : List Val) : Slot := .one (.imm 3 (cs.map encVal))

def szCol (c : Col) (n : Int) : Int := if IntKind.i64.wrap (n - c.name.size) < 0 then -1 else if szVal c.d (IntKind.i64.wrap (n - c.name.size)) < 0 then -1 else szVal c.d (IntKind.i64.wrap (n - c.name.size))

def letByte (c : Int) : Bool := decide (97 ≤ c ∧ c ≤ 122)
def letFrom (s : ByteArray) (i : Nat) : Bool := (List.range' i (s.size - i)).all fun j => letByte (sgetI s j)
theorem letFrom_step {s : ByteArray} {i : Nat} (h : i < s.size) : letFrom s i = (letByte (sgetI s i) && letFrom s (i + 1)) := by
  unfold letFrom
  rw [show s.size - i = (s.size - (i + 1)) + 1 by omega, List.range'_succ, List.all_cons]
theorem letFrom_end {s : ByteArray} {i : Nat} (h : s.size ≤ i) : letFrom s i = true := by
  unfold letFrom
  rw [show s.size - i = 0 by omega]; rfl
def nameOk (s : ByteArray) : Bool := letFrom s 0 && (decide (1 ≤ (s.size : Int)) && decide ((s.size : Int) ≤ 3))

def colOk (c : Col) : Bool := nameOk c.name && (c.kind == 1 || c.kind == 2) && valOk c.d && (c.d.k == 0 || c.d.k == c.kind) && (!c.once || c.d.k == 0)

end Go.Vl
