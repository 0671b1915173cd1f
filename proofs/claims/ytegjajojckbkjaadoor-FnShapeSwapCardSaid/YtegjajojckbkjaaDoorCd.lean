/- Contracts: shapes alike. -/
import Derived.Test.YtegjajojckbkjaaDoorE4
namespace Go.Vl
open Go Go.RowKit Go.Proofs
set_option maxRecDepth 100000
set_option linter.unusedSimpArgs false
set_option linter.unusedVariables false
set_option maxHeartbeats 1000000

theorem row_at {cs : List Col} {i : Nat} (h : i < cs.length) : (cs.map encCol)[((i : Nat) : Int).toNat]? = some (encCol cs[i]) := by
  rw [Int.toNat_natCast, List.getElem?_map, List.getElem?_eq_getElem h]; rfl

theorem c_implShapeSame (us bs : List Col) (ha : us.length ≤ maxLen) : CallsV Tryd.prog 22 [colsI us, colsI bs] [] (pureQ (bS (leq q_Col us bs))) := by
  refine pure_walk hTb Tryd.func22 rfl rfl Tryd.ntmps22 (by simp) ?_
  (conv => whnf); repeat' (first
    | (refine And.intro ?_ ?_ <;> ((try intro h) <;> (try simp only [Bool.not_true, Bool.not_false, decide_eq_true_eq, decide_eq_false_iff_not, Int.not_lt, Int.not_le, gt_iff_lt, ge_iff_le] at h) <;> first | exact absurd h Bool.false_ne_true | exact absurd h.symm Bool.false_ne_true | conv => whnf))
    | (refine VL.drawS hTb hMix (by kernel_rfl) (by kernel_rfl) (by kernel_rfl) ?_; conv => whnf)
    | (refine Need.mk ?_; kernel_rfl) | (refine Need.mk ⟨rfl, ?_⟩; decide)
    | (refine VR.pure hTb rfl rfl (o_purN (q_EqCols us bs ha) rfl rfl rfl ⟨rfl, rfl, rfl, rfl⟩ rfl) ?_; conv => whnf)
    | (refine DT.pure hTb rfl (o_purN (q_EqCols us bs ha) rfl rfl rfl ⟨rfl, rfl, rfl, rfl⟩ rfl) ?_; conv => whnf))
  all_goals rfl
end Go.Vl
