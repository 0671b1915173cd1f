/- The law on where a name stands in a shape: what its function computes. -/
import Derived.Test.YtegjajojckbkjaaDoorCe
namespace Go.Vl
open Go Go.RowKit Go.Proofs
set_option maxRecDepth 100000
set_option linter.unusedSimpArgs false
set_option linter.unusedVariables false
set_option maxHeartbeats 1000000

def shapeAt (cs : List Col) (s : ByteArray) : Int := if shapeOk cs then nameAt cs s else -1

theorem c_implShapeAt (cs : List Col) (s : ByteArray) (hl : cs.length ≤ maxLen) (ho : ∀ c ∈ cs, c.ok) : CallsV Tryd.prog 25 [colsI cs, strS s] [] (pureQ (iS (shapeAt cs s))) := by
  refine pure_walk hTb Tryd.func25 rfl rfl Tryd.ntmps25 (by simp) ?_
  (conv => whnf); repeat' (first
    | (refine And.intro ?_ ?_ <;> ((try intro h) <;> (try simp only [Bool.not_true, Bool.not_false] at h) <;> first | exact absurd h Bool.false_ne_true | exact absurd h.symm Bool.false_ne_true | conv => whnf))
    | (refine VL.drawS hTb hMix (by kernel_rfl) (by kernel_rfl) (by kernel_rfl) ?_; conv => whnf)
    | (refine Need.mk ?_; kernel_rfl) | (refine Need.mk ⟨rfl, ?_⟩; decide)
    | (refine VR.pure hTb rfl rfl (o_purN (c_implShapeOk cs hl ho) rfl rfl rfl ⟨rfl, rfl, rfl, rfl⟩ rfl) ?_; conv => whnf)
    | (refine DT.pure hTb rfl (o_purN (c_implShapeOk cs hl ho) rfl rfl rfl ⟨rfl, rfl, rfl, rfl⟩ rfl) ?_; conv => whnf)
    | (refine VR.pure hTb rfl rfl (o_purN (c_colAt cs s hl) rfl rfl rfl ⟨rfl, rfl, rfl, rfl⟩ rfl) ?_; conv => whnf)
    | (refine DT.pure hTb rfl (o_purN (c_colAt cs s hl) rfl rfl rfl ⟨rfl, rfl, rfl, rfl⟩ rfl) ?_; conv => whnf))
  all_goals simp_all [iS, shapeAt]

end Go.Vl
