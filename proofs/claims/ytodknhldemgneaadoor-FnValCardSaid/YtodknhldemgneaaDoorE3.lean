/- Contracts: a thing is like itself. Printed by our own gends.py. -/
import Derived.Test.YtodknhldemgneaaDoorE0
import Derived.Test.YtodknhldemgneaaDoorWi
namespace Go.Vl
open Go Go.RowKit Go.Proofs
set_option maxRecDepth 100000
set_option maxHeartbeats 2000000
theorem e_Val (v : Val) (hv : v.ok) : CallsV Tryd.prog 16 [.agg (encVal v), .agg (encVal v)] [] (pureQ (bS true)) := by
  obtain ⟨k, n, t⟩ := v
  simp only [Val.ok] at hv
  refine pure_walk hTb Tryd.func16 rfl rfl Tryd.ntmps16 (by simp) ?_
  (conv => whnf); repeat' (first | (refine And.intro ?_ ?_ <;> ((try intro h) <;> (try simp only [Bool.not_true, Bool.not_false] at h) <;> first | exact absurd h Bool.false_ne_true | exact absurd h.symm Bool.false_ne_true | conv => whnf)) | (refine Need.mk ?_; kernel_rfl) | (refine Need.mk ⟨rfl, ?_⟩; decide))
  all_goals first
    | rfl
    | (clear hv; simp_all [bS]; done)
end Go.Vl
