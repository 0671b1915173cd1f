/- Contracts: the drawn cases of the laws on columns and rows. -/
import Derived.Test.YtkfafgbhlgcohaaDe
import Derived.Test.YtkfafgbhlgcohaaWi
namespace Go.Vl
open Go Go.RowKit Go.Proofs
set_option maxRecDepth 100000
set_option maxHeartbeats 2000000

theorem BOk.of {bs : List Int} (hb : ∀ x ∈ bs, 0 ≤ x ∧ x < 256) : BOk (bs.take 2000) := ⟨fun x hx => hb x (List.mem_of_mem_take hx), by simp; omega⟩

theorem c_DrawShapeSame {bs : List Int} (hl : bs.length ≤ maxLen) (hb : ∀ x ∈ bs, 0 ≤ x ∧ x < 256) : CallsV Try.prog 6 [bytesI bs] []
    (relQ (fun y : List Col × List Col => smlCols y.1 ∧ y.1.length ≤ 10 ∧ smlCols y.2 ∧ y.2.length ≤ 10) (fun y => .tup [(false, [.imm 7 (y.1.map encCol)]), (false, [.imm 7 (y.2.map encCol)])]) (fun _ => []) (fun _ => [])) := by
  have hbk := BOk.of hb
  refine funF_walk hTb Try.func6 rfl rfl Try.ntmps6 (by simp) (by simp) ?_
  (conv => whnf); repeat' (first
    | (refine And.intro ?_ ?_ <;> ((try intro h) <;> (try simp only [Bool.not_true, Bool.not_false, decide_eq_true_eq, decide_eq_false_iff_not, Int.not_lt, Int.not_le, gt_iff_lt, ge_iff_le] at h) <;> first | exact absurd h Bool.false_ne_true | exact absurd h.symm Bool.false_ne_true | conv => whnf))
    | (refine VL.drawS hTb hMix (by kernel_rfl) (by kernel_rfl) (by kernel_rfl) ?_; conv => whnf)
    | (refine Need.mk ?_; kernel_rfl) | (refine Need.mk ⟨rfl, ?_⟩; decide)
    | (refine VR.fun hTb rfl rfl (o_funN (c_l10Open hl) false [] (fun h => by cases h) (by simp) rfl rfl rfl rfl rfl ⟨rfl, rfl, rfl, rfl⟩ rfl rfl) ?_; conv => whnf)
    | (refine DT.fun hTb rfl (o_funN (c_l10Open hl) false [] (fun h => by cases h) (by simp) rfl rfl rfl rfl rfl ⟨rfl, rfl, rfl, rfl⟩ rfl rfl) rfl ?_; conv => whnf)
    | (refine VR.rel hTb rfl rfl (o_relN (c_l2Shape hbk _ (by omega)) false [1028] (fun _ _ => ⟨by simp, fun h => by cases h⟩) rfl rfl rfl rfl rfl ⟨rfl, rfl, rfl, rfl⟩ rfl rfl) ?_; rintro ⟨cs, q⟩ h1; (try simp only at h1); conv => whnf)
    | (refine DT.rel hTb rfl (o_relN (c_l2Shape hbk _ (by omega)) false [1028] (fun _ _ => ⟨by simp, fun h => by cases h⟩) rfl rfl rfl rfl rfl ⟨rfl, rfl, rfl, rfl⟩ rfl rfl) [1028] (by kernel_rfl) (by kernel_rfl) ?_; rintro ⟨cs, q⟩ h1; (try simp only at h1); refine And.intro rfl (And.intro rfl ?_); conv => whnf)
    | (refine VR.rel hTb rfl rfl (o_relN (c_l2Bent hbk _ _ h1.1 (by omega) (by omega)) false [1028] (fun _ _ => ⟨by simp, fun h => by cases h⟩) rfl rfl rfl rfl rfl ⟨rfl, rfl, rfl, rfl⟩ rfl rfl) ?_; rintro ⟨cs2, q2⟩ h2; (try simp only at h2); conv => whnf)
    | (refine DT.rel hTb rfl (o_relN (c_l2Bent hbk _ _ h1.1 (by omega) (by omega)) false [1028] (fun _ _ => ⟨by simp, fun h => by cases h⟩) rfl rfl rfl rfl rfl ⟨rfl, rfl, rfl, rfl⟩ rfl rfl) [1028] (by kernel_rfl) (by kernel_rfl) ?_; rintro ⟨cs2, q2⟩ h2; (try simp only at h2); refine And.intro rfl (And.intro rfl ?_); conv => whnf)
    | (refine VR.rel hTb rfl rfl (o_relN (c_l2Bent hbk _ _ h2.1 (by omega) (by omega)) false [1028] (fun _ _ => ⟨by simp, fun h => by cases h⟩) rfl rfl rfl rfl rfl ⟨rfl, rfl, rfl, rfl⟩ rfl rfl) ?_; rintro ⟨cs3, q3⟩ h3; (try simp only at h3); conv => whnf)
    | (refine DT.rel hTb rfl (o_relN (c_l2Bent hbk _ _ h2.1 (by omega) (by omega)) false [1028] (fun _ _ => ⟨by simp, fun h => by cases h⟩) rfl rfl rfl rfl rfl ⟨rfl, rfl, rfl, rfl⟩ rfl rfl) [1028] (by kernel_rfl) (by kernel_rfl) ?_; rintro ⟨cs3, q3⟩ h3; (try simp only at h3); refine And.intro rfl (And.intro rfl ?_); conv => whnf)
    | (refine VR.rel hTb rfl rfl (o_relN (c_l2Bent hbk _ _ h3.1 (by omega) (by omega)) false [1028] (fun _ _ => ⟨by simp, fun h => by cases h⟩) rfl rfl rfl rfl rfl ⟨rfl, rfl, rfl, rfl⟩ rfl rfl) ?_; rintro ⟨cs4, q4⟩ h4; (try simp only at h4); conv => whnf)
    | (refine DT.rel hTb rfl (o_relN (c_l2Bent hbk _ _ h3.1 (by omega) (by omega)) false [1028] (fun _ _ => ⟨by simp, fun h => by cases h⟩) rfl rfl rfl rfl rfl ⟨rfl, rfl, rfl, rfl⟩ rfl rfl) [1028] (by kernel_rfl) (by kernel_rfl) ?_; rintro ⟨cs4, q4⟩ h4; (try simp only at h4); refine And.intro rfl (And.intro rfl ?_); conv => whnf)
    | (refine VR.rel hTb rfl rfl (o_relN (c_l2Bent hbk _ _ h4.1 (by omega) (by omega)) false [1028] (fun _ _ => ⟨by simp, fun h => by cases h⟩) rfl rfl rfl rfl rfl ⟨rfl, rfl, rfl, rfl⟩ rfl rfl) ?_; rintro ⟨cs5, q5⟩ h5; (try simp only at h5); conv => whnf)
    | (refine DT.rel hTb rfl (o_relN (c_l2Bent hbk _ _ h4.1 (by omega) (by omega)) false [1028] (fun _ _ => ⟨by simp, fun h => by cases h⟩) rfl rfl rfl rfl rfl ⟨rfl, rfl, rfl, rfl⟩ rfl rfl) [1028] (by kernel_rfl) (by kernel_rfl) ?_; rintro ⟨cs5, q5⟩ h5; (try simp only at h5); refine And.intro rfl (And.intro rfl ?_); conv => whnf))
  exact endR [] (cs, cs5) rfl rfl rfl rfl rfl (LeS.refl _) rfl rfl ⟨h1.1, (by (try simp only); omega), h5.1, (by (try simp only); omega)⟩
theorem c_DrawShapeOk {bs : List Int} (hl : bs.length ≤ maxLen) (hb : ∀ x ∈ bs, 0 ≤ x ∧ x < 256) : CallsV Try.prog 7 [bytesI bs] []
    (relQ (fun y : List Col => smlCols y ∧ y.length ≤ 10) (fun y => colsI y) (fun _ => []) (fun _ => [])) := by
  have hbk := BOk.of hb
  refine funF_walk hTb Try.func7 rfl rfl Try.ntmps7 (by simp) (by simp) ?_
  (conv => whnf); repeat' (first
    | (refine And.intro ?_ ?_ <;> ((try intro h) <;> (try simp only [Bool.not_true, Bool.not_false, decide_eq_true_eq, decide_eq_false_iff_not, Int.not_lt, Int.not_le, gt_iff_lt, ge_iff_le] at h) <;> first | exact absurd h Bool.false_ne_true | exact absurd h.symm Bool.false_ne_true | conv => whnf))
    | (refine VL.drawS hTb hMix (by kernel_rfl) (by kernel_rfl) (by kernel_rfl) ?_; conv => whnf)
    | (refine Need.mk ?_; kernel_rfl) | (refine Need.mk ⟨rfl, ?_⟩; decide)
    | (refine VR.fun hTb rfl rfl (o_funN (c_l10Open hl) false [] (fun h => by cases h) (by simp) rfl rfl rfl rfl rfl ⟨rfl, rfl, rfl, rfl⟩ rfl rfl) ?_; conv => whnf)
    | (refine DT.fun hTb rfl (o_funN (c_l10Open hl) false [] (fun h => by cases h) (by simp) rfl rfl rfl rfl rfl ⟨rfl, rfl, rfl, rfl⟩ rfl rfl) rfl ?_; conv => whnf)
    | (refine VR.rel hTb rfl rfl (o_relN (c_l2Shape hbk _ (by omega)) false [1020] (fun _ _ => ⟨by simp, fun h => by cases h⟩) rfl rfl rfl rfl rfl ⟨rfl, rfl, rfl, rfl⟩ rfl rfl) ?_; rintro ⟨cs, q⟩ h1; (try simp only at h1); conv => whnf)
    | (refine DT.rel hTb rfl (o_relN (c_l2Shape hbk _ (by omega)) false [1020] (fun _ _ => ⟨by simp, fun h => by cases h⟩) rfl rfl rfl rfl rfl ⟨rfl, rfl, rfl, rfl⟩ rfl rfl) [1020] (by kernel_rfl) (by kernel_rfl) ?_; rintro ⟨cs, q⟩ h1; (try simp only at h1); refine And.intro rfl (And.intro rfl ?_); conv => whnf)
    | (refine VR.rel hTb rfl rfl (o_relN (c_l2Bent hbk _ _ h1.1 (by omega) (by omega)) false [1020] (fun _ _ => ⟨by simp, fun h => by cases h⟩) rfl rfl rfl rfl rfl ⟨rfl, rfl, rfl, rfl⟩ rfl rfl) ?_; rintro ⟨cs2, q2⟩ h2; (try simp only at h2); conv => whnf)
    | (refine DT.rel hTb rfl (o_relN (c_l2Bent hbk _ _ h1.1 (by omega) (by omega)) false [1020] (fun _ _ => ⟨by simp, fun h => by cases h⟩) rfl rfl rfl rfl rfl ⟨rfl, rfl, rfl, rfl⟩ rfl rfl) [1020] (by kernel_rfl) (by kernel_rfl) ?_; rintro ⟨cs2, q2⟩ h2; (try simp only at h2); refine And.intro rfl (And.intro rfl ?_); conv => whnf)
    | (refine VR.rel hTb rfl rfl (o_relN (c_l2Bent hbk _ _ h2.1 (by omega) (by omega)) false [1020] (fun _ _ => ⟨by simp, fun h => by cases h⟩) rfl rfl rfl rfl rfl ⟨rfl, rfl, rfl, rfl⟩ rfl rfl) ?_; rintro ⟨cs3, q3⟩ h3; (try simp only at h3); conv => whnf)
    | (refine DT.rel hTb rfl (o_relN (c_l2Bent hbk _ _ h2.1 (by omega) (by omega)) false [1020] (fun _ _ => ⟨by simp, fun h => by cases h⟩) rfl rfl rfl rfl rfl ⟨rfl, rfl, rfl, rfl⟩ rfl rfl) [1020] (by kernel_rfl) (by kernel_rfl) ?_; rintro ⟨cs3, q3⟩ h3; (try simp only at h3); refine And.intro rfl (And.intro rfl ?_); conv => whnf))
  exact endR [] cs3 rfl rfl rfl rfl rfl (LeS.refl _) rfl rfl ⟨h3.1, (by (try simp only); omega)⟩
theorem c_DrawColOk {bs : List Int} (hl : bs.length ≤ maxLen) (hb : ∀ x ∈ bs, 0 ≤ x ∧ x < 256) : CallsV Try.prog 8 [bytesI bs] []
    (relQ (fun y : Col => y.sml) (fun y => .agg (encCol y)) (fun _ => []) (fun _ => [])) := by
  have hbk := BOk.of hb
  refine funF_walk hTb Try.func8 rfl rfl Try.ntmps8 (by simp) (by simp) ?_
  (conv => whnf); repeat' (first
    | (refine And.intro ?_ ?_ <;> ((try intro h) <;> (try simp only [Bool.not_true, Bool.not_false, decide_eq_true_eq, decide_eq_false_iff_not, Int.not_lt, Int.not_le, gt_iff_lt, ge_iff_le] at h) <;> first | exact absurd h Bool.false_ne_true | exact absurd h.symm Bool.false_ne_true | conv => whnf))
    | (refine VL.drawS hTb hMix (by kernel_rfl) (by kernel_rfl) (by kernel_rfl) ?_; conv => whnf)
    | (refine Need.mk ?_; kernel_rfl) | (refine Need.mk ⟨rfl, ?_⟩; decide)
    | (refine VR.fun hTb rfl rfl (o_funN (c_l10Open hl) false [] (fun h => by cases h) (by simp) rfl rfl rfl rfl rfl ⟨rfl, rfl, rfl, rfl⟩ rfl rfl) ?_; conv => whnf)
    | (refine DT.fun hTb rfl (o_funN (c_l10Open hl) false [] (fun h => by cases h) (by simp) rfl rfl rfl rfl rfl ⟨rfl, rfl, rfl, rfl⟩ rfl rfl) rfl ?_; conv => whnf)
    | (refine VR.rel hTb rfl rfl (o_relN (c_l2Names) false [] (fun _ _ => ⟨by simp, fun h => by cases h⟩) rfl rfl rfl rfl rfl ⟨rfl, rfl, rfl, rfl⟩ rfl rfl) ?_; rintro rows hrows; (try simp only at hrows); conv => whnf)
    | (refine DT.rel hTb rfl (o_relN (c_l2Names) false [] (fun _ _ => ⟨by simp, fun h => by cases h⟩) rfl rfl rfl rfl rfl ⟨rfl, rfl, rfl, rfl⟩ rfl rfl) [] (by kernel_rfl) (by kernel_rfl) ?_; rintro rows hrows; (try simp only at hrows); refine And.intro rfl (And.intro rfl ?_); conv => whnf)
    | (refine VR.rel hTb rfl rfl (o_relN (c_ofI hbk _ _ (fun t => t.size ≤ 8) hrows.1 hrows.2 (by omega)) false [1024] (fun _ _ => ⟨by simp, fun h => by cases h⟩) rfl rfl rfl rfl rfl ⟨rfl, rfl, rfl, rfl⟩ rfl rfl) ?_; rintro nm hnm; (try simp only at hnm); conv => whnf)
    | (refine DT.rel hTb rfl (o_relN (c_ofI hbk _ _ (fun t => t.size ≤ 8) hrows.1 hrows.2 (by omega)) false [1024] (fun _ _ => ⟨by simp, fun h => by cases h⟩) rfl rfl rfl rfl rfl ⟨rfl, rfl, rfl, rfl⟩ rfl rfl) [1024] (by kernel_rfl) (by kernel_rfl) ?_; rintro nm hnm; (try simp only at hnm); refine And.intro rfl (And.intro rfl ?_); conv => whnf)
    | (refine VR.rel hTb rfl rfl (o_relN (c_l2Col hbk _ _ hnm (by omega)) false [1024] (fun _ _ => ⟨by simp, fun h => by cases h⟩) rfl rfl rfl rfl rfl ⟨rfl, rfl, rfl, rfl⟩ rfl rfl) ?_; rintro ⟨⟨cn, ck, c1, c2, ⟨c3, c4, c5⟩⟩, q2⟩ hc; (try simp only at hc); conv => whnf)
    | (refine DT.rel hTb rfl (o_relN (c_l2Col hbk _ _ hnm (by omega)) false [1024] (fun _ _ => ⟨by simp, fun h => by cases h⟩) rfl rfl rfl rfl rfl ⟨rfl, rfl, rfl, rfl⟩ rfl rfl) [1024] (by kernel_rfl) (by kernel_rfl) ?_; rintro ⟨⟨cn, ck, c1, c2, ⟨c3, c4, c5⟩⟩, q2⟩ hc; (try simp only at hc); refine And.intro rfl (And.intro rfl ?_); conv => whnf))
  have h1 : smlCols [⟨cn, ck, c1, c2, ⟨c3, c4, c5⟩⟩] ∧ (1 : Nat) ≤ 1 := ⟨fun x hx => by simp at hx; subst hx; exact ⟨by have := hc.1; simp only; rw [this]; exact hnm, hc.2.1⟩, by omega⟩
  (conv => whnf); repeat' (first
    | (refine And.intro ?_ ?_ <;> ((try intro h) <;> (try simp only [Bool.not_true, Bool.not_false, decide_eq_true_eq, decide_eq_false_iff_not, Int.not_lt, Int.not_le, gt_iff_lt, ge_iff_le] at h) <;> first | exact absurd h Bool.false_ne_true | exact absurd h.symm Bool.false_ne_true | conv => whnf))
    | (refine VL.drawS hTb hMix (by kernel_rfl) (by kernel_rfl) (by kernel_rfl) ?_; conv => whnf)
    | (refine Need.mk ?_; kernel_rfl) | (refine Need.mk ⟨rfl, ?_⟩; decide)
    | (refine VR.freeze hTb rfl 115 rfl (rows' := List.map encCol [⟨cn, ck, c1, c2, ⟨c3, c4, c5⟩⟩]) rfl ?_; conv => whnf)
    | (refine VR.rel hTb rfl rfl (o_relN (c_l2Bent hbk _ _ h1.1 (by simp) (by omega)) false [1024] (fun _ _ => ⟨by simp, fun h => by cases h⟩) rfl rfl rfl rfl rfl ⟨rfl, rfl, rfl, rfl⟩ rfl rfl) ?_; rintro ⟨cs2, r2⟩ h2; (try simp only at h2); conv => whnf)
    | (refine DT.rel hTb rfl (o_relN (c_l2Bent hbk _ _ h1.1 (by simp) (by omega)) false [1024] (fun _ _ => ⟨by simp, fun h => by cases h⟩) rfl rfl rfl rfl rfl ⟨rfl, rfl, rfl, rfl⟩ rfl rfl) [1024] (by kernel_rfl) (by kernel_rfl) ?_; rintro ⟨cs2, r2⟩ h2; (try simp only at h2); refine And.intro rfl (And.intro rfl ?_); conv => whnf)
    | (refine VR.rel hTb rfl rfl (o_relN (c_l2Bent hbk _ _ h2.1 (by have := h2.2.1; simp at this; omega) (by have := h2.2.2; omega)) false [1024] (fun _ _ => ⟨by simp, fun h => by cases h⟩) rfl rfl rfl rfl rfl ⟨rfl, rfl, rfl, rfl⟩ rfl rfl) ?_; rintro ⟨cs3, q3⟩ h3; (try simp only at h3); conv => whnf)
    | (refine DT.rel hTb rfl (o_relN (c_l2Bent hbk _ _ h2.1 (by have := h2.2.1; simp at this; omega) (by have := h2.2.2; omega)) false [1024] (fun _ _ => ⟨by simp, fun h => by cases h⟩) rfl rfl rfl rfl rfl ⟨rfl, rfl, rfl, rfl⟩ rfl rfl) [1024] (by kernel_rfl) (by kernel_rfl) ?_; rintro ⟨cs3, q3⟩ h3; (try simp only at h3); refine And.intro rfl (And.intro rfl ?_); conv => whnf)
    | (refine VR.rel hTb rfl rfl (o_relN (c_l2Bent hbk _ _ h3.1 (by have := h2.2.1; simp at this; omega) (by have := h2.2.2; omega)) false [1024] (fun _ _ => ⟨by simp, fun h => by cases h⟩) rfl rfl rfl rfl rfl ⟨rfl, rfl, rfl, rfl⟩ rfl rfl) ?_; rintro ⟨cs4, q4⟩ h4; (try simp only at h4); conv => whnf)
    | (refine DT.rel hTb rfl (o_relN (c_l2Bent hbk _ _ h3.1 (by have := h2.2.1; simp at this; omega) (by have := h2.2.2; omega)) false [1024] (fun _ _ => ⟨by simp, fun h => by cases h⟩) rfl rfl rfl rfl rfl ⟨rfl, rfl, rfl, rfl⟩ rfl rfl) [1024] (by kernel_rfl) (by kernel_rfl) ?_; rintro ⟨cs4, q4⟩ h4; (try simp only at h4); refine And.intro rfl (And.intro rfl ?_); conv => whnf))
  · exact endR [] ⟨⟨#[]⟩, 0, false, false, ⟨0, 0, ⟨#[]⟩⟩⟩ rfl rfl rfl rfl rfl (LeS.refl _) rfl rfl ⟨by decide, by decide⟩
  · cases cs4 with
    | nil => simp at h
    | cons c cs =>
      have hs := h4.1 c (by simp)
      obtain ⟨dn, dk, d1, d2, ⟨d3, d4, d5⟩⟩ := c
      have hrow : ((⟨dn, dk, d1, d2, ⟨d3, d4, d5⟩⟩ :: cs).map encCol)[(0 : Int).toNat]? = some (encCol ⟨dn, dk, d1, d2, ⟨d3, d4, d5⟩⟩) := rfl
      (conv => whnf); repeat' (first
    | (refine And.intro ?_ ?_ <;> ((try intro h) <;> (try simp only [Bool.not_true, Bool.not_false, decide_eq_true_eq, decide_eq_false_iff_not, Int.not_lt, Int.not_le, gt_iff_lt, ge_iff_le] at h) <;> first | exact absurd h Bool.false_ne_true | exact absurd h.symm Bool.false_ne_true | conv => whnf))
    | (refine VL.drawS hTb hMix (by kernel_rfl) (by kernel_rfl) (by kernel_rfl) ?_; conv => whnf)
    | (refine Need.mk ?_; kernel_rfl) | (refine Need.mk ⟨rfl, ?_⟩; decide)
    | (refine VR.op hTb rfl rfl (o_index_imm hTb rfl rfl rfl rfl rfl rfl rfl (by omega) (hrow)) rfl ?_; conv => whnf)
    | (refine DT.op hTb rfl (o_index_imm hTb rfl rfl rfl rfl rfl rfl rfl (by omega) (hrow)) rfl ?_; conv => whnf))
      exact endR [] ⟨dn, dk, d1, d2, ⟨d3, d4, d5⟩⟩ rfl rfl rfl rfl rfl (LeS.refl _) rfl rfl hs
end Go.Vl
