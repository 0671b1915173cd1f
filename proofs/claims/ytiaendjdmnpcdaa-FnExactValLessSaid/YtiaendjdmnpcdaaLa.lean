/- The law on values' order: what its function computes. -/
import Derived.Test.YtiaendjdmnpcdaaCa
namespace Go.Vl
open Go Go.RowKit Go.Proofs
set_option maxRecDepth 100000
set_option maxHeartbeats 400000

theorem c_FnExactValLess (a b : Val) : CallsV Try.prog 4 [.agg (encVal a), .agg (encVal b)] [] (pureQ (bS true)) := by
  refine pure_walk hTb Try.func4 rfl rfl Try.ntmps4 (by simp) ?_
  (conv => whnf); repeat' (refine And.intro ?_ ?_ <;> (intro h; conv => whnf))
  refine VR.pure hTb rfl rfl (o_purN (c_szVal a 1048576) rfl rfl rfl ⟨rfl, rfl, rfl, rfl⟩ rfl) ?_; (conv => whnf); repeat' (refine And.intro ?_ ?_ <;> (intro h; conv => whnf))
  · rfl
  refine VR.pure hTb rfl rfl (o_purN (c_szVal b _) rfl rfl rfl ⟨rfl, rfl, rfl, rfl⟩ rfl) ?_; (conv => whnf); repeat' (refine And.intro ?_ ?_ <;> (intro h; conv => whnf))
  · rfl
  refine VL.draw hTb hMix (by kernel_rfl) (by kernel_rfl) ?_; (conv => whnf); repeat' (refine And.intro ?_ ?_ <;> (intro h; conv => whnf))
  refine DR.pure hTb rfl (o_purN (c_toVal a) rfl rfl rfl ⟨rfl, rfl, rfl, rfl⟩ rfl) ?_; (conv => whnf); repeat' (refine And.intro ?_ ?_ <;> (intro h; conv => whnf))
  refine DR.pure hTb rfl (o_purN (c_toVal b) rfl rfl rfl ⟨rfl, rfl, rfl, rfl⟩ rfl) ?_; (conv => whnf); repeat' (refine And.intro ?_ ?_ <;> (intro h; conv => whnf))
  refine DR.pure hTb rfl (o_purN (c_specValLess a b) rfl rfl rfl ⟨rfl, rfl, rfl, rfl⟩ rfl) ?_; (conv => whnf); repeat' (refine And.intro ?_ ?_ <;> (intro h; conv => whnf))
  refine And.intro (by kernel_rfl) ?_; (conv => whnf); repeat' (refine And.intro ?_ ?_ <;> (intro h; conv => whnf))
  refine VL.draw hTb hMix (by kernel_rfl) (by kernel_rfl) ?_; (conv => whnf); repeat' (refine And.intro ?_ ?_ <;> (intro h; conv => whnf))
  refine DR.pure hTb rfl (o_purN (c_toVal a) rfl rfl rfl ⟨rfl, rfl, rfl, rfl⟩ rfl) ?_; (conv => whnf); repeat' (refine And.intro ?_ ?_ <;> (intro h; conv => whnf))
  refine DR.pure hTb rfl (o_purN (c_toVal b) rfl rfl rfl ⟨rfl, rfl, rfl, rfl⟩ rfl) ?_; (conv => whnf); repeat' (refine And.intro ?_ ?_ <;> (intro h; conv => whnf))
  refine DR.pure hTb rfl (o_purN (c_implValLess a b) rfl rfl rfl ⟨rfl, rfl, rfl, rfl⟩ rfl) ?_; (conv => whnf); repeat' (refine And.intro ?_ ?_ <;> (intro h; conv => whnf))
  refine And.intro (by kernel_rfl) ?_; (conv => whnf); repeat' (refine And.intro ?_ ?_ <;> (intro h; conv => whnf))
  · simp at h
  · rfl
end Go.Vl
