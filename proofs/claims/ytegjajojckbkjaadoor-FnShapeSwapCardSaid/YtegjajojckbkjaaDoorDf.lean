/- Contracts: the drawn cases of the laws on columns and rows. -/
import Derived.Test.YtegjajojckbkjaaDoorDe
import Derived.Test.YtegjajojckbkjaaDoorWi
namespace Go.Vl
open Go Go.RowKit Go.Proofs
set_option maxRecDepth 100000
set_option linter.unusedSimpArgs false
set_option linter.unusedVariables false
set_option maxHeartbeats 2000000

theorem BOk.of {bs : List Int} (hb : ∀ x ∈ bs, 0 ≤ x ∧ x < 256) : BOk (bs.take 2000) := ⟨fun x hx => hb x (List.mem_of_mem_take hx), by simp; omega⟩

theorem c_DrawRowOk {bs : List Int} (hl : bs.length ≤ maxLen) (hb : ∀ x ∈ bs, 0 ≤ x ∧ x < 256) : CallsV Tryd.prog 15 [bytesI bs] []
    (relQ (fun y : List Col × List Val => smlCols y.1 ∧ y.1.length ≤ 10 ∧ smlVals y.2 ∧ y.2.length ≤ 10) (fun y => .tup [(false, [.imm 7 (y.1.map encCol)]), (false, [.imm 3 (y.2.map encVal)])]) (fun _ => []) (fun _ => [])) := by
  have hbk := BOk.of hb
  refine funF_walk hTb Tryd.func15 rfl rfl Tryd.ntmps15 (by simp) (by simp) ?_
  (conv => whnf); repeat' (first
    | (refine And.intro ?_ ?_ <;> ((try intro h) <;> (try simp only [Bool.not_true, Bool.not_false, decide_eq_true_eq, decide_eq_false_iff_not, Int.not_lt, Int.not_le, gt_iff_lt, ge_iff_le] at h) <;> first | exact absurd h Bool.false_ne_true | exact absurd h.symm Bool.false_ne_true | conv => whnf))
    | (refine VL.drawS hTb hMix (by kernel_rfl) (by kernel_rfl) (by kernel_rfl) ?_; conv => whnf)
    | (refine Need.mk ?_; kernel_rfl) | (refine Need.mk ⟨rfl, ?_⟩; decide)
    | (refine VR.fun hTb rfl rfl (o_funN (c_l10Open hl) false [] (fun h => by cases h) (by simp) rfl rfl rfl rfl rfl ⟨rfl, rfl, rfl, rfl⟩ rfl rfl) ?_; conv => whnf)
    | (refine DT.fun hTb rfl (o_funN (c_l10Open hl) false [] (fun h => by cases h) (by simp) rfl rfl rfl rfl rfl ⟨rfl, rfl, rfl, rfl⟩ rfl rfl) rfl ?_; conv => whnf)
    | (refine VR.rel hTb rfl rfl (o_relN (c_l2Shape hbk _ (by omega)) false [1032] (fun _ _ => ⟨by simp, fun h => by cases h⟩) rfl rfl rfl rfl rfl ⟨rfl, rfl, rfl, rfl⟩ rfl rfl) ?_; rintro ⟨cs, q⟩ h1; (try simp only at h1); conv => whnf)
    | (refine DT.rel hTb rfl (o_relN (c_l2Shape hbk _ (by omega)) false [1032] (fun _ _ => ⟨by simp, fun h => by cases h⟩) rfl rfl rfl rfl rfl ⟨rfl, rfl, rfl, rfl⟩ rfl rfl) [1032] (by kernel_rfl) (by kernel_rfl) ?_; rintro ⟨cs, q⟩ h1; (try simp only at h1); refine And.intro rfl (And.intro rfl ?_); conv => whnf)
    | (refine VR.rel hTb rfl rfl (o_relN (c_l2Vals hbk _ _ h1.1 (by omega) (by omega)) false [1032] (fun _ _ => ⟨by simp, fun h => by cases h⟩) rfl rfl rfl rfl rfl ⟨rfl, rfl, rfl, rfl⟩ rfl rfl) ?_; rintro ⟨vs, q3⟩ h3; (try simp only at h3); conv => whnf)
    | (refine DT.rel hTb rfl (o_relN (c_l2Vals hbk _ _ h1.1 (by omega) (by omega)) false [1032] (fun _ _ => ⟨by simp, fun h => by cases h⟩) rfl rfl rfl rfl rfl ⟨rfl, rfl, rfl, rfl⟩ rfl rfl) [1032] (by kernel_rfl) (by kernel_rfl) ?_; rintro ⟨vs, q3⟩ h3; (try simp only at h3); refine And.intro rfl (And.intro rfl ?_); conv => whnf)
    | (refine VR.rel hTb rfl rfl (o_relN (c_l2Bent hbk _ _ h1.1 (by omega) (by omega)) false [1032] (fun _ _ => ⟨by simp, fun h => by cases h⟩) rfl rfl rfl rfl rfl ⟨rfl, rfl, rfl, rfl⟩ rfl rfl) ?_; rintro ⟨cs2, q2⟩ h2; (try simp only at h2); conv => whnf)
    | (refine DT.rel hTb rfl (o_relN (c_l2Bent hbk _ _ h1.1 (by omega) (by omega)) false [1032] (fun _ _ => ⟨by simp, fun h => by cases h⟩) rfl rfl rfl rfl rfl ⟨rfl, rfl, rfl, rfl⟩ rfl rfl) [1032] (by kernel_rfl) (by kernel_rfl) ?_; rintro ⟨cs2, q2⟩ h2; (try simp only at h2); refine And.intro rfl (And.intro rfl ?_); conv => whnf))
  exact endR [] (cs2, vs) rfl rfl rfl rfl rfl (LeS.refl _) rfl rfl ⟨h2.1, (by (try simp only); omega), h3.1, (by (try simp only); omega)⟩
end Go.Vl
