/- The law on a row's soundness: what its function computes. -/
import Derived.Test.YtiaendjdmnpcdaaCg
namespace Go.Vl
open Go Go.RowKit Go.Proofs
set_option maxRecDepth 100000
set_option maxHeartbeats 1000000

theorem c_FnExactRowOk (us : List Col) (bs : List Val) (hu : us.length ≤ maxLen) (hb : bs.length ≤ maxLen) (ou : ∀ c ∈ us, c.ok) (ob : ∀ c ∈ bs, c.t.size ≤ maxLen) : CallsV Try.prog 14 [colsI us, valsI bs] [] (pureQ (bS true)) := by
  refine pure_walk hTb Try.func14 rfl rfl Try.ntmps14 (by simp) ?_
  (conv => whnf); repeat' (first | (refine And.intro ?_ ?_ <;> ((try intro h) <;> conv => whnf)) | (refine Need.mk ?_; kernel_rfl))
  refine VR.pure hTb rfl rfl (o_purN (c_szColS us 1048576 hu) rfl rfl rfl ⟨rfl, rfl, rfl, rfl⟩ rfl) ?_; (conv => whnf); repeat' (first | (refine And.intro ?_ ?_ <;> ((try intro h) <;> conv => whnf)) | (refine Need.mk ?_; kernel_rfl))
  · rfl
  obtain ⟨lu, g1, g2⟩ := szCols_le (by omega) (by omega) hu ou h
  refine VR.pure hTb rfl rfl (o_purN (c_szValS bs _ hb) rfl rfl rfl ⟨rfl, rfl, rfl, rfl⟩ rfl) ?_; (conv => whnf); repeat' (first | (refine And.intro ?_ ?_ <;> ((try intro h) <;> conv => whnf)) | (refine Need.mk ?_; kernel_rfl))
  · rfl
  obtain ⟨lb, _, _⟩ := szVals_le g1 g2 hb ob h
  (conv => whnf); repeat' (first
    | (refine And.intro ?_ ?_ <;> ((try intro h) <;> conv => whnf))
    | (refine VL.draw hTb hMix (by kernel_rfl) (by kernel_rfl) ?_; conv => whnf)
    | (refine Need.mk ?_; kernel_rfl)
    | (refine VR.pure hTb rfl rfl (o_purF (c_toColS us lu) rfl rfl rfl ⟨rfl, rfl, rfl, rfl⟩ rfl) ?_; conv => whnf)
    | (refine DR.pure hTb rfl (o_purF (c_toColS us lu) rfl rfl rfl ⟨rfl, rfl, rfl, rfl⟩ rfl) ?_; conv => whnf)
    | (refine VR.pure hTb rfl rfl (o_purF (c_toValS bs lb) rfl rfl rfl ⟨rfl, rfl, rfl, rfl⟩ rfl) ?_; conv => whnf)
    | (refine DR.pure hTb rfl (o_purF (c_toValS bs lb) rfl rfl rfl ⟨rfl, rfl, rfl, rfl⟩ rfl) ?_; conv => whnf)
    | (refine VR.pure hTb rfl rfl (o_purN (c_specRowOk us bs hu ou ob) rfl rfl rfl ⟨rfl, rfl, rfl, rfl⟩ rfl) ?_; conv => whnf)
    | (refine DR.pure hTb rfl (o_purN (c_specRowOk us bs hu ou ob) rfl rfl rfl ⟨rfl, rfl, rfl, rfl⟩ rfl) ?_; conv => whnf)
    | (refine VR.pure hTb rfl rfl (o_purN (c_implRowOk us bs hu ou ob) rfl rfl rfl ⟨rfl, rfl, rfl, rfl⟩ rfl) ?_; conv => whnf)
    | (refine DR.pure hTb rfl (o_purN (c_implRowOk us bs hu ou ob) rfl rfl rfl ⟨rfl, rfl, rfl, rfl⟩ rfl) ?_; conv => whnf)
    | (refine VR.pure hTb rfl rfl (o_purN (c_eqColS_self us hu) rfl rfl rfl ⟨rfl, rfl, rfl, rfl⟩ rfl) ?_; conv => whnf)
    | (refine DR.pure hTb rfl (o_purN (c_eqColS_self us hu) rfl rfl rfl ⟨rfl, rfl, rfl, rfl⟩ rfl) ?_; conv => whnf)
    | (refine VR.pure hTb rfl rfl (o_purN (c_eqValS_self bs hb) rfl rfl rfl ⟨rfl, rfl, rfl, rfl⟩ rfl) ?_; conv => whnf)
    | (refine DR.pure hTb rfl (o_purN (c_eqValS_self bs hb) rfl rfl rfl ⟨rfl, rfl, rfl, rfl⟩ rfl) ?_; conv => whnf))
  all_goals simp_all [bS]
end Go.Vl
