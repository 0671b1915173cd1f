/- The law on a value's soundness: what its function computes. -/
import Derived.Test.YtiaendjdmnpcdaaCb
namespace Go.Vl
open Go Go.RowKit Go.Proofs
set_option maxRecDepth 100000
set_option maxHeartbeats 400000

theorem c_FnExactValOk (v : Val) (hv : v.t.size ≤ maxLen) : CallsV Try.prog 5 [.agg (encVal v)] [] (pureQ (bS true)) := by
  refine pure_walk hTb Try.func5 rfl rfl Try.ntmps5 (by simp) ?_
  (conv => whnf); repeat' (first
    | (refine And.intro ?_ ?_ <;> ((try intro h) <;> conv => whnf))
    | (refine VL.draw hTb hMix (by kernel_rfl) (by kernel_rfl) ?_; conv => whnf)
    | (refine Need.mk ?_; kernel_rfl)
    | (refine VR.pure hTb rfl rfl (o_purN (c_szVal _ _) rfl rfl rfl ⟨rfl, rfl, rfl, rfl⟩ rfl) ?_; conv => whnf)
    | (refine DR.pure hTb rfl (o_purN (c_szVal _ _) rfl rfl rfl ⟨rfl, rfl, rfl, rfl⟩ rfl) ?_; conv => whnf)
    | (refine VR.pure hTb rfl rfl (o_purN (c_toVal _) rfl rfl rfl ⟨rfl, rfl, rfl, rfl⟩ rfl) ?_; conv => whnf)
    | (refine DR.pure hTb rfl (o_purN (c_toVal _) rfl rfl rfl ⟨rfl, rfl, rfl, rfl⟩ rfl) ?_; conv => whnf)
    | (refine VR.pure hTb rfl rfl (o_purN (c_specValOk _ hv) rfl rfl rfl ⟨rfl, rfl, rfl, rfl⟩ rfl) ?_; conv => whnf)
    | (refine DR.pure hTb rfl (o_purN (c_specValOk _ hv) rfl rfl rfl ⟨rfl, rfl, rfl, rfl⟩ rfl) ?_; conv => whnf)
    | (refine VR.pure hTb rfl rfl (o_purN (c_implValOk _ hv) rfl rfl rfl ⟨rfl, rfl, rfl, rfl⟩ rfl) ?_; conv => whnf)
    | (refine DR.pure hTb rfl (o_purN (c_implValOk _ hv) rfl rfl rfl ⟨rfl, rfl, rfl, rfl⟩ rfl) ?_; conv => whnf))
  all_goals simp_all [bS]

theorem c_FnExactConstants : CallsV Try.prog 3 [] [] (pureQ (bS true)) := by
  refine pure_walk hTb Try.func3 rfl rfl Try.ntmps3 (by simp) ?_
  (conv => whnf); repeat' (first | (refine And.intro ?_ ?_ <;> ((try intro h) <;> conv => whnf)) | (refine Need.mk ?_; kernel_rfl))
  all_goals rfl
end Go.Vl
