/- Contracts: the drawn cases of the laws on one change of columns. -/
import Derived.Test.YtegjajojckbkjaaDoorGa
import Derived.Test.YtegjajojckbkjaaDoorDf
namespace Go.Vl
open Go Go.RowKit Go.Proofs
set_option maxRecDepth 100000
set_option linter.unusedSimpArgs false
set_option linter.unusedVariables false
set_option maxHeartbeats 4000000

theorem c_DrawShapeDo {bs : List Int} (hl : bs.length ≤ maxLen) (hb : ∀ x ∈ bs, 0 ≤ x ∧ x < 256) : CallsV Tryd.prog 20 [bytesI bs] []
    (relQ (fun y : List Col × Change => smlCols y.1 ∧ y.1.length ≤ 10 ∧ y.2.sml) (fun y => .tup [(false, [.imm 7 (y.1.map encCol)]), (true, encChange y.2)]) (fun _ => []) (fun _ => [])) := by
  have hbk := BOk.of hb
  refine funF_walk hTb Tryd.func20 rfl rfl Tryd.ntmps20 (by simp) (by simp) ?_
  (conv => whnf); repeat' (first
    | (refine And.intro ?_ ?_ <;> ((try intro h) <;> (try simp only [Bool.not_true, Bool.not_false, decide_eq_true_eq, decide_eq_false_iff_not, Int.not_lt, Int.not_le, gt_iff_lt, ge_iff_le] at h) <;> first | exact absurd h Bool.false_ne_true | exact absurd h.symm Bool.false_ne_true | conv => whnf))
    | (refine VL.drawS hTb hMix (by kernel_rfl) (by kernel_rfl) (by kernel_rfl) ?_; conv => whnf)
    | (refine Need.mk ?_; kernel_rfl) | (refine Need.mk ⟨rfl, ?_⟩; decide)
    | (refine VR.fun hTb rfl rfl (o_funN (c_l10Open hl) false [] (fun h => by cases h) (by simp) rfl rfl rfl rfl rfl ⟨rfl, rfl, rfl, rfl⟩ rfl rfl) ?_; conv => whnf)
    | (refine DT.fun hTb rfl (o_funN (c_l10Open hl) false [] (fun h => by cases h) (by simp) rfl rfl rfl rfl rfl ⟨rfl, rfl, rfl, rfl⟩ rfl rfl) rfl ?_; conv => whnf)
    | (refine VR.rel hTb rfl rfl (o_relN (c_l2Shape hbk _ (by omega)) false [1028] (fun _ _ => ⟨by simp, fun h => by cases h⟩) rfl rfl rfl rfl rfl ⟨rfl, rfl, rfl, rfl⟩ rfl rfl) ?_; rintro ⟨cs, q⟩ h1; (try simp only at h1); conv => whnf)
    | (refine DT.rel hTb rfl (o_relN (c_l2Shape hbk _ (by omega)) false [1028] (fun _ _ => ⟨by simp, fun h => by cases h⟩) rfl rfl rfl rfl rfl ⟨rfl, rfl, rfl, rfl⟩ rfl rfl) [1028] (by kernel_rfl) (by kernel_rfl) ?_; rintro ⟨cs, q⟩ h1; (try simp only at h1); refine And.intro rfl (And.intro rfl ?_); conv => whnf)
    | (refine VR.rel hTb rfl rfl (o_relN (c_l2Bent hbk _ _ h1.1 (by omega) (by omega)) false [1028] (fun _ _ => ⟨by simp, fun h => by cases h⟩) rfl rfl rfl rfl rfl ⟨rfl, rfl, rfl, rfl⟩ rfl rfl) ?_; rintro ⟨cs2, q2⟩ h2; (try simp only at h2); conv => whnf)
    | (refine DT.rel hTb rfl (o_relN (c_l2Bent hbk _ _ h1.1 (by omega) (by omega)) false [1028] (fun _ _ => ⟨by simp, fun h => by cases h⟩) rfl rfl rfl rfl rfl ⟨rfl, rfl, rfl, rfl⟩ rfl rfl) [1028] (by kernel_rfl) (by kernel_rfl) ?_; rintro ⟨cs2, q2⟩ h2; (try simp only at h2); refine And.intro rfl (And.intro rfl ?_); conv => whnf)
    | (refine VR.rel hTb rfl rfl (o_relN (c_l2Change hbk _ _ h2.1 (by omega) (by omega)) false [1028] (fun _ _ => ⟨by simp, fun h => by cases h⟩) rfl rfl rfl rfl rfl ⟨rfl, rfl, rfl, rfl⟩ rfl rfl) ?_; rintro ⟨⟨kd, nm, nw, ⟨cn, ck, k1, k2, ⟨d1, d2, d3⟩⟩⟩, q3⟩ h3; (try simp only at h3); conv => whnf)
    | (refine DT.rel hTb rfl (o_relN (c_l2Change hbk _ _ h2.1 (by omega) (by omega)) false [1028] (fun _ _ => ⟨by simp, fun h => by cases h⟩) rfl rfl rfl rfl rfl ⟨rfl, rfl, rfl, rfl⟩ rfl rfl) [1028] (by kernel_rfl) (by kernel_rfl) ?_; rintro ⟨⟨kd, nm, nw, ⟨cn, ck, k1, k2, ⟨d1, d2, d3⟩⟩⟩, q3⟩ h3; (try simp only at h3); refine And.intro rfl (And.intro rfl ?_); conv => whnf))
  exact endR [] (cs2, ⟨kd, nm, nw, ⟨cn, ck, k1, k2, ⟨d1, d2, d3⟩⟩⟩) rfl rfl rfl rfl rfl (LeS.refl _) rfl rfl ⟨h2.1, (by (try simp only); omega), h3.1⟩
theorem c_DrawRowDo {bs : List Int} (hl : bs.length ≤ maxLen) (hb : ∀ x ∈ bs, 0 ≤ x ∧ x < 256) : CallsV Tryd.prog 36 [bytesI bs] []
    (relQ (fun y : List Col × Change × List Val => smlCols y.1 ∧ y.1.length ≤ 10 ∧ y.2.1.sml ∧ smlVals y.2.2 ∧ y.2.2.length ≤ 11) (fun y => .tup [(false, [.imm 7 (y.1.map encCol)]), (true, encChange y.2.1), (false, [.imm 3 (y.2.2.map encVal)])]) (fun _ => []) (fun _ => [])) := by
  have hbk := BOk.of hb
  refine funF_walk hTb Tryd.func36 rfl rfl Tryd.ntmps36 (by simp) (by simp) ?_
  (conv => whnf); repeat' (first
    | (refine And.intro ?_ ?_ <;> ((try intro h) <;> (try simp only [Bool.not_true, Bool.not_false, decide_eq_true_eq, decide_eq_false_iff_not, Int.not_lt, Int.not_le, gt_iff_lt, ge_iff_le] at h) <;> first | exact absurd h Bool.false_ne_true | exact absurd h.symm Bool.false_ne_true | conv => whnf))
    | (refine VL.drawS hTb hMix (by kernel_rfl) (by kernel_rfl) (by kernel_rfl) ?_; conv => whnf)
    | (refine Need.mk ?_; kernel_rfl) | (refine Need.mk ⟨rfl, ?_⟩; decide)
    | (refine VR.fun hTb rfl rfl (o_funN (c_l10Open hl) false [] (fun h => by cases h) (by simp) rfl rfl rfl rfl rfl ⟨rfl, rfl, rfl, rfl⟩ rfl rfl) ?_; conv => whnf)
    | (refine DT.fun hTb rfl (o_funN (c_l10Open hl) false [] (fun h => by cases h) (by simp) rfl rfl rfl rfl rfl ⟨rfl, rfl, rfl, rfl⟩ rfl rfl) rfl ?_; conv => whnf)
    | (refine VR.rel hTb rfl rfl (o_relN (c_l2Shape hbk _ (by omega)) false [1036] (fun _ _ => ⟨by simp, fun h => by cases h⟩) rfl rfl rfl rfl rfl ⟨rfl, rfl, rfl, rfl⟩ rfl rfl) ?_; rintro ⟨cs, q⟩ h1; (try simp only at h1); conv => whnf)
    | (refine DT.rel hTb rfl (o_relN (c_l2Shape hbk _ (by omega)) false [1036] (fun _ _ => ⟨by simp, fun h => by cases h⟩) rfl rfl rfl rfl rfl ⟨rfl, rfl, rfl, rfl⟩ rfl rfl) [1036] (by kernel_rfl) (by kernel_rfl) ?_; rintro ⟨cs, q⟩ h1; (try simp only at h1); refine And.intro rfl (And.intro rfl ?_); conv => whnf)
    | (refine VR.rel hTb rfl rfl (o_relN (c_l2Bent hbk _ _ h1.1 (by omega) (by omega)) false [1036] (fun _ _ => ⟨by simp, fun h => by cases h⟩) rfl rfl rfl rfl rfl ⟨rfl, rfl, rfl, rfl⟩ rfl rfl) ?_; rintro ⟨cs2, q2⟩ h2; (try simp only at h2); conv => whnf)
    | (refine DT.rel hTb rfl (o_relN (c_l2Bent hbk _ _ h1.1 (by omega) (by omega)) false [1036] (fun _ _ => ⟨by simp, fun h => by cases h⟩) rfl rfl rfl rfl rfl ⟨rfl, rfl, rfl, rfl⟩ rfl rfl) [1036] (by kernel_rfl) (by kernel_rfl) ?_; rintro ⟨cs2, q2⟩ h2; (try simp only at h2); refine And.intro rfl (And.intro rfl ?_); conv => whnf)
    | (refine VR.rel hTb rfl rfl (o_relN (c_l2Change hbk _ _ h2.1 (by omega) (by omega)) false [1036] (fun _ _ => ⟨by simp, fun h => by cases h⟩) rfl rfl rfl rfl rfl ⟨rfl, rfl, rfl, rfl⟩ rfl rfl) ?_; rintro ⟨⟨kd, nm, nw, ⟨cn, ck, k1, k2, ⟨d1, d2, d3⟩⟩⟩, q3⟩ h3; (try simp only at h3); conv => whnf)
    | (refine DT.rel hTb rfl (o_relN (c_l2Change hbk _ _ h2.1 (by omega) (by omega)) false [1036] (fun _ _ => ⟨by simp, fun h => by cases h⟩) rfl rfl rfl rfl rfl ⟨rfl, rfl, rfl, rfl⟩ rfl rfl) [1036] (by kernel_rfl) (by kernel_rfl) ?_; rintro ⟨⟨kd, nm, nw, ⟨cn, ck, k1, k2, ⟨d1, d2, d3⟩⟩⟩, q3⟩ h3; (try simp only at h3); refine And.intro rfl (And.intro rfl ?_); conv => whnf)
    | (refine VR.rel hTb rfl rfl (o_relN (c_l2Vals hbk _ _ h2.1 (by omega) (by omega)) false [1036] (fun _ _ => ⟨by simp, fun h => by cases h⟩) rfl rfl rfl rfl rfl ⟨rfl, rfl, rfl, rfl⟩ rfl rfl) ?_; rintro ⟨vs, q4⟩ h4; (try simp only at h4); conv => whnf)
    | (refine DT.rel hTb rfl (o_relN (c_l2Vals hbk _ _ h2.1 (by omega) (by omega)) false [1036] (fun _ _ => ⟨by simp, fun h => by cases h⟩) rfl rfl rfl rfl rfl ⟨rfl, rfl, rfl, rfl⟩ rfl rfl) [1036] (by kernel_rfl) (by kernel_rfl) ?_; rintro ⟨vs, q4⟩ h4; (try simp only at h4); refine And.intro rfl (And.intro rfl ?_); conv => whnf))
  exact endR [] (cs2, ⟨kd, nm, nw, ⟨cn, ck, k1, k2, ⟨d1, d2, d3⟩⟩⟩, vs) rfl rfl rfl rfl rfl (LeS.refl _) rfl rfl ⟨h2.1, (by (try simp only); omega), h3.1, h4.1, (by (try simp only); omega)⟩
end Go.Vl
