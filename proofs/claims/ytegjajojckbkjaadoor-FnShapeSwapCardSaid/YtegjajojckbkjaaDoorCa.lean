/- Contracts: values' order and size. -/
import Derived.Test.YtegjajojckbkjaaDoorTab
import Derived.Test.YtegjajojckbkjaaDoorWg
namespace Go.Vl
open Go Go.RowKit Go.Proofs

structure Val where
  k : Int
  n : Int
  t : ByteArray
def encVal : Val → List Leaf
  | ⟨k, n, t⟩ => [.g (.int .i64 k), .g (.int .i64 n), .g (.string t)]
def valLess (a b : Val) : Bool := if a.k ≠ b.k then decide (a.k < b.k) else if a.n ≠ b.n then decide (a.n < b.n) else Op.bytesLess a.t.toList b.t.toList
def bS (b : Bool) : Slot := .one (.g (.bool b))
def iS (n : Int) : Slot := .one (.g (.int .i64 n))
def szVal (v : Val) (n : Int) : Int := if IntKind.i64.wrap (n - v.t.size) < 0 then -1 else IntKind.i64.wrap (n - v.t.size)

theorem enc_gr (v : Val) : GrS (.agg (encVal v)) := by
  intro l hl
  obtain ⟨k, n, t⟩ := v
  simp [encVal] at hl
  rcases hl with rfl | rfl | rfl <;> rfl

set_option maxRecDepth 100000
set_option linter.unusedSimpArgs false
set_option linter.unusedVariables false
set_option maxHeartbeats 400000

theorem c_szVal (v : Val) (n : Int) : CallsV Tryd.prog 75 [.agg (encVal v), iS n] [] (pureQ (iS (szVal v n))) := by
  refine pure_walk hTb Tryd.func75 rfl rfl Tryd.ntmps75 (by simp) ?_
  (conv => whnf); repeat' (first | (refine And.intro ?_ ?_ <;> ((try intro h) <;> (try simp only [Bool.not_true, Bool.not_false] at h) <;> first | exact absurd h Bool.false_ne_true | exact absurd h.symm Bool.false_ne_true | conv => whnf)) | (refine Need.mk ?_; kernel_rfl) | (refine Need.mk ⟨rfl, ?_⟩; decide))
  all_goals (simp_all [szVal, iS])
  all_goals (try (intro; omega))

theorem c_toVal (v : Val) : CallsV Tryd.prog 76 [.agg (encVal v)] [] (pureQ (.agg (encVal v))) := by
  refine pure_walk hTb Tryd.func76 rfl rfl Tryd.ntmps76 (by simp) ?_
  (conv => whnf); repeat' (first | (refine And.intro ?_ ?_ <;> ((try intro h) <;> (try simp only [Bool.not_true, Bool.not_false] at h) <;> first | exact absurd h Bool.false_ne_true | exact absurd h.symm Bool.false_ne_true | conv => whnf)) | (refine Need.mk ?_; kernel_rfl) | (refine Need.mk ⟨rfl, ?_⟩; decide))
  all_goals rfl
end Go.Vl
