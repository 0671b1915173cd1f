/- Laws: rows go with their columns. -/
import Derived.Test.YtegjajojckbkjaaDoorHd
import Derived.Test.YtegjajojckbkjaaDoorHc
namespace Go.Vl
open Go Go.RowKit Go.Proofs
set_option maxRecDepth 100000
set_option linter.unusedSimpArgs false
set_option linter.unusedVariables false
set_option maxHeartbeats 4000000

theorem smlVals.ok {l : List Val} (h : smlVals l) : ∀ v ∈ l, v.t.size ≤ maxLen := fun v hv => le8 (h v hv)
theorem mdVals.ok {l : List Val} (h : mdVals l) : ∀ v ∈ l, v.t.size ≤ maxLen := fun v hv => by have : v.t.size ≤ 1048576 := h v hv; unfold maxLen; omega
theorem rwDo_no {s t : List Col} {c : Change} {row : List Val} {b : Bool} (hx : sdo s c = (t, b)) (h : ¬ (b = true ∧ row.length = s.length)) : rwDo s c row = [] := by
  unfold rwDo; rw [hx]; exact if_neg h
theorem rwDo_yes {s t : List Col} {c : Change} {row : List Val} (hx : sdo s c = (t, true)) (h : row.length = s.length) : rwDo s c row = rwCh s c row := by
  unfold rwDo; rw [hx]; exact if_pos ⟨rfl, h⟩
theorem c_FnRow {bs : List Int} (hl : bs.length ≤ maxLen) (hb : ∀ x ∈ bs, 0 ≤ x ∧ x < 256) : CallsV Tryd.prog 11 [bytesI bs] [] (pureQ (bS true)) := by
  refine pure_walk hTb Tryd.func11 rfl rfl Tryd.ntmps11 (by simp) ?_
  (conv => whnf); repeat' (first
    | (refine And.intro ?_ ?_ <;> ((try intro h) <;> (try simp only [Bool.not_true, Bool.not_false, decide_eq_true_eq, decide_eq_false_iff_not, Int.not_lt, Int.not_le, gt_iff_lt, ge_iff_le] at h) <;> first | exact absurd h Bool.false_ne_true | exact absurd h.symm Bool.false_ne_true | conv => whnf))
    | (refine VL.drawS hTb hMix (by kernel_rfl) (by kernel_rfl) (by kernel_rfl) ?_; conv => whnf)
    | (refine Need.mk ?_; kernel_rfl) | (refine Need.mk ⟨rfl, ?_⟩; decide)
    | (refine VR.rel hTb rfl rfl (o_relN (c_DrawRowDo hl hb) false [] (fun _ _ => ⟨by simp, fun h => by cases h⟩) rfl rfl rfl rfl rfl ⟨rfl, rfl, rfl, rfl⟩ rfl rfl) ?_; rintro ⟨cs, ⟨kd, nm, nw, ⟨cn, ck, k1, k2, ⟨d1, d2, d3⟩⟩⟩, row⟩ h1; (try simp only at h1); conv => whnf)
    | (refine DT.rel hTb rfl (o_relN (c_DrawRowDo hl hb) false [] (fun _ _ => ⟨by simp, fun h => by cases h⟩) rfl rfl rfl rfl rfl ⟨rfl, rfl, rfl, rfl⟩ rfl rfl) [] (by kernel_rfl) (by kernel_rfl) ?_; rintro ⟨cs, ⟨kd, nm, nw, ⟨cn, ck, k1, k2, ⟨d1, d2, d3⟩⟩⟩, row⟩ h1; (try simp only at h1); refine And.intro rfl (And.intro rfl ?_); conv => whnf))
  · rfl
  have hm := h1.1.md
  have hcm := h1.2.2.1.md
  have hrm := h1.2.2.2.1.md
  have c1 := c_implShapeDo cs ⟨kd, nm, nw, ⟨cn, ck, k1, k2, ⟨d1, d2, d3⟩⟩⟩ (by omega) hm hcm
  have c2 := c_implRowDo cs ⟨kd, nm, nw, ⟨cn, ck, k1, k2, ⟨d1, d2, d3⟩⟩⟩ row (by omega) (by omega) hm hcm hrm
  have c3 := c_specRowDo cs ⟨kd, nm, nw, ⟨cn, ck, k1, k2, ⟨d1, d2, d3⟩⟩⟩ row (by omega) (by omega) hm hcm hrm
  have cR := c_implRowOk cs row (by unfold maxLen; omega) hm.ok hrm.ok
  have cS := c_specRowOk cs row (by unfold maxLen; omega) hm.ok hrm.ok
  obtain ⟨⟨t, ok⟩, hx⟩ : ∃ y, sdo cs ⟨kd, nm, nw, ⟨cn, ck, k1, k2, ⟨d1, d2, d3⟩⟩⟩ = y := ⟨_, rfl⟩
  rw [hx] at c1
  have hxl := sdo_le hx
  have hxm := sdo_sm hx hm hcm
  obtain ⟨b, hb2⟩ : ∃ b, rowOk cs row = b := ⟨_, rfl⟩
  rw [hb2] at cR cS
  by_cases hno : ok = true ∧ row.length = cs.length
  rotate_left
  · rw [rwDo_no hx hno] at c2 c3
    have cW := c_wpVals [] (by simp)
    by_cases hn : row.length = cs.length
    · have hok : ok = false := by cases ok with | false => rfl | true => exact absurd ⟨rfl, hn⟩ hno
      subst hok
      (conv => whnf); repeat' (first
    | (refine VL.freeze 1092 rfl rfl ?_; conv => whnf; rw [(fzV [])])
    | (refine VL.freeze 1108 rfl rfl ?_; conv => whnf; rw [(fzV [])])
    | (refine VL.freeze 1124 rfl rfl ?_; conv => whnf; rw [fzC])
    | (refine And.intro ?_ ?_ <;> ((try intro h) <;> (try simp only [Bool.not_true, Bool.not_false, decide_eq_true_eq, decide_eq_false_iff_not, Int.not_lt, Int.not_le, gt_iff_lt, ge_iff_le] at h) <;> first | exact absurd h Bool.false_ne_true | exact absurd h.symm Bool.false_ne_true | conv => whnf))
    | (refine VL.drawS hTb hMix (by kernel_rfl) (by kernel_rfl) (by kernel_rfl) ?_; conv => whnf)
    | (refine Need.mk ?_; kernel_rfl) | (refine Need.mk ⟨rfl, ?_⟩; decide)
    | (refine VR.freeze hTb rfl 1092 rfl rfl ?_; conv => whnf; rw [(fzV [])])
    | (refine VR.freeze hTb rfl 1108 rfl rfl ?_; conv => whnf; rw [(fzV [])])
    | (refine VR.freeze hTb rfl 1124 rfl rfl ?_; conv => whnf; rw [fzC])
    | (refine VR.fun hTb rfl rfl (o_funN (c1) false [] (fun h => by cases h) (by simp) rfl rfl rfl rfl rfl ⟨rfl, rfl, rfl, rfl⟩ rfl rfl) ?_; conv => whnf)
    | (refine DT.fun hTb rfl (o_funN (c1) false [] (fun h => by cases h) (by simp) rfl rfl rfl rfl rfl ⟨rfl, rfl, rfl, rfl⟩ rfl rfl) rfl ?_; conv => whnf)
    | (refine VR.fun hTb rfl rfl (o_funN (c2) false [] (fun h => by cases h) (by simp) rfl rfl rfl rfl rfl ⟨rfl, rfl, rfl, rfl⟩ rfl rfl) ?_; conv => whnf)
    | (refine DT.fun hTb rfl (o_funN (c2) false [] (fun h => by cases h) (by simp) rfl rfl rfl rfl rfl ⟨rfl, rfl, rfl, rfl⟩ rfl rfl) rfl ?_; conv => whnf)
    | (refine VR.fun hTb rfl rfl (o_funN (c3) false [] (fun h => by cases h) (by simp) rfl rfl rfl rfl rfl ⟨rfl, rfl, rfl, rfl⟩ rfl rfl) ?_; conv => whnf)
    | (refine DT.fun hTb rfl (o_funN (c3) false [] (fun h => by cases h) (by simp) rfl rfl rfl rfl rfl ⟨rfl, rfl, rfl, rfl⟩ rfl rfl) rfl ?_; conv => whnf)
    | (refine VR.pure hTb rfl rfl (o_purN (cW) rfl rfl rfl ⟨rfl, rfl, rfl, rfl⟩ rfl) ?_; conv => whnf)
    | (refine DT.pure hTb rfl (o_purN (cW) rfl rfl rfl ⟨rfl, rfl, rfl, rfl⟩ rfl) ?_; conv => whnf)
    | (refine VR.pure hTb rfl rfl (o_purN (cR) rfl rfl rfl ⟨rfl, rfl, rfl, rfl⟩ rfl) ?_; conv => whnf)
    | (refine DT.pure hTb rfl (o_purN (cR) rfl rfl rfl ⟨rfl, rfl, rfl, rfl⟩ rfl) ?_; conv => whnf)
    | (refine VR.pure hTb rfl rfl (o_purN (cS) rfl rfl rfl ⟨rfl, rfl, rfl, rfl⟩ rfl) ?_; conv => whnf)
    | (refine DT.pure hTb rfl (o_purN (cS) rfl rfl rfl ⟨rfl, rfl, rfl, rfl⟩ rfl) ?_; conv => whnf))
      all_goals first
        | rfl
        | (exfalso; cases b <;> simp at *; done)
        | trace_state
    · have hh : (((row.map encVal).length : Int) != ((cs.map encCol).length : Int)) = true := by simp; omega
      cases ok <;> (conv => whnf); repeat' (first
    | (exact absurd (h.symm.trans hh) Bool.false_ne_true)
    | (refine VL.freeze 1092 rfl rfl ?_; conv => whnf; rw [(fzV [])])
    | (refine VL.freeze 1108 rfl rfl ?_; conv => whnf; rw [(fzV [])])
    | (refine VL.freeze 1124 rfl rfl ?_; conv => whnf; rw [fzC])
    | (refine And.intro ?_ ?_ <;> ((try intro h) <;> (try simp only [Bool.not_true, Bool.not_false, decide_eq_true_eq, decide_eq_false_iff_not, Int.not_lt, Int.not_le, gt_iff_lt, ge_iff_le] at h) <;> first | exact absurd h Bool.false_ne_true | exact absurd h.symm Bool.false_ne_true | conv => whnf))
    | (refine VL.drawS hTb hMix (by kernel_rfl) (by kernel_rfl) (by kernel_rfl) ?_; conv => whnf)
    | (refine Need.mk ?_; kernel_rfl) | (refine Need.mk ⟨rfl, ?_⟩; decide)
    | (refine VR.freeze hTb rfl 1092 rfl rfl ?_; conv => whnf; rw [(fzV [])])
    | (refine VR.freeze hTb rfl 1108 rfl rfl ?_; conv => whnf; rw [(fzV [])])
    | (refine VR.freeze hTb rfl 1124 rfl rfl ?_; conv => whnf; rw [fzC])
    | (refine VR.fun hTb rfl rfl (o_funN (c1) false [] (fun h => by cases h) (by simp) rfl rfl rfl rfl rfl ⟨rfl, rfl, rfl, rfl⟩ rfl rfl) ?_; conv => whnf)
    | (refine DT.fun hTb rfl (o_funN (c1) false [] (fun h => by cases h) (by simp) rfl rfl rfl rfl rfl ⟨rfl, rfl, rfl, rfl⟩ rfl rfl) rfl ?_; conv => whnf)
    | (refine VR.fun hTb rfl rfl (o_funN (c2) false [] (fun h => by cases h) (by simp) rfl rfl rfl rfl rfl ⟨rfl, rfl, rfl, rfl⟩ rfl rfl) ?_; conv => whnf)
    | (refine DT.fun hTb rfl (o_funN (c2) false [] (fun h => by cases h) (by simp) rfl rfl rfl rfl rfl ⟨rfl, rfl, rfl, rfl⟩ rfl rfl) rfl ?_; conv => whnf)
    | (refine VR.fun hTb rfl rfl (o_funN (c3) false [] (fun h => by cases h) (by simp) rfl rfl rfl rfl rfl ⟨rfl, rfl, rfl, rfl⟩ rfl rfl) ?_; conv => whnf)
    | (refine DT.fun hTb rfl (o_funN (c3) false [] (fun h => by cases h) (by simp) rfl rfl rfl rfl rfl ⟨rfl, rfl, rfl, rfl⟩ rfl rfl) rfl ?_; conv => whnf)
    | (refine VR.pure hTb rfl rfl (o_purN (cW) rfl rfl rfl ⟨rfl, rfl, rfl, rfl⟩ rfl) ?_; conv => whnf)
    | (refine DT.pure hTb rfl (o_purN (cW) rfl rfl rfl ⟨rfl, rfl, rfl, rfl⟩ rfl) ?_; conv => whnf)
    | (refine VR.pure hTb rfl rfl (o_purN (cR) rfl rfl rfl ⟨rfl, rfl, rfl, rfl⟩ rfl) ?_; conv => whnf)
    | (refine DT.pure hTb rfl (o_purN (cR) rfl rfl rfl ⟨rfl, rfl, rfl, rfl⟩ rfl) ?_; conv => whnf)
    | (refine VR.pure hTb rfl rfl (o_purN (cS) rfl rfl rfl ⟨rfl, rfl, rfl, rfl⟩ rfl) ?_; conv => whnf)
    | (refine DT.pure hTb rfl (o_purN (cS) rfl rfl rfl ⟨rfl, rfl, rfl, rfl⟩ rfl) ?_; conv => whnf))
      all_goals first
        | rfl
        | (exfalso; cases b <;> simp at *; done)
        | trace_state
  obtain ⟨rfl, hn⟩ := hno
  rw [rwDo_yes hx hn] at c2 c3
  have D := sdo_done hx
  have hlen := rw_len (row := row) D hn
  have hwm := rwCh_md (s := cs) hcm hrm
  have hwl : (rwCh cs ⟨kd, nm, nw, ⟨cn, ck, k1, k2, ⟨d1, d2, d3⟩⟩⟩ row).length ≤ 20 := by omega
  have hk := @rw_ok _ _ _ row D
  have hk4 := fun j => @rw_ok4 _ _ _ row j D
  have cT := c_implRowOk t (rwCh cs ⟨kd, nm, nw, ⟨cn, ck, k1, k2, ⟨d1, d2, d3⟩⟩⟩ row) (by unfold maxLen; omega) hxm.ok hwm.ok
  have hw := D.w
  simp only at hk hk4 hw
  generalize rwCh cs ⟨kd, nm, nw, ⟨cn, ck, k1, k2, ⟨d1, d2, d3⟩⟩⟩ row = x at c2 c3 hlen hwm hwl hk hk4 cT
  have cW := c_wpVals x (by unfold maxLen; omega)
  have hlr : ((row.map encVal).length : Int) = (cs.map encCol).length := by simp [hn]
  have hlx : ((x.map encVal).length : Int) = (t.map encCol).length := by simp [hlen]
  cases b
  · (conv => whnf); repeat' (first
    | (rw [hlr] at h; refine absurd h ?_; (simp; done))
    | (rw [hlx] at h; refine absurd h ?_; (simp; done))
    | (refine VL.freeze 1092 rfl rfl ?_; conv => whnf; rw [fzV])
    | (refine VL.freeze 1108 rfl rfl ?_; conv => whnf; rw [fzV])
    | (refine VL.freeze 1124 rfl rfl ?_; conv => whnf; rw [fzC])
    | (refine And.intro ?_ ?_ <;> ((try intro h) <;> (try simp only [Bool.not_true, Bool.not_false, decide_eq_true_eq, decide_eq_false_iff_not, Int.not_lt, Int.not_le, gt_iff_lt, ge_iff_le] at h) <;> first | exact absurd h Bool.false_ne_true | exact absurd h.symm Bool.false_ne_true | conv => whnf))
    | (refine VL.drawS hTb hMix (by kernel_rfl) (by kernel_rfl) (by kernel_rfl) ?_; conv => whnf)
    | (refine Need.mk ?_; kernel_rfl) | (refine Need.mk ⟨rfl, ?_⟩; decide)
    | (refine VR.freeze hTb rfl 1092 rfl rfl ?_; conv => whnf; rw [fzV])
    | (refine VR.freeze hTb rfl 1108 rfl rfl ?_; conv => whnf; rw [fzV])
    | (refine VR.freeze hTb rfl 1124 rfl rfl ?_; conv => whnf; rw [fzC])
    | (refine VR.fun hTb rfl rfl (o_funN (c1) false [] (fun h => by cases h) (by simp) rfl rfl rfl rfl rfl ⟨rfl, rfl, rfl, rfl⟩ rfl rfl) ?_; conv => whnf)
    | (refine DT.fun hTb rfl (o_funN (c1) false [] (fun h => by cases h) (by simp) rfl rfl rfl rfl rfl ⟨rfl, rfl, rfl, rfl⟩ rfl rfl) rfl ?_; conv => whnf)
    | (refine VR.fun hTb rfl rfl (o_funN (c2) false [] (fun h => by cases h) (by simp) rfl rfl rfl rfl rfl ⟨rfl, rfl, rfl, rfl⟩ rfl rfl) ?_; conv => whnf)
    | (refine DT.fun hTb rfl (o_funN (c2) false [] (fun h => by cases h) (by simp) rfl rfl rfl rfl rfl ⟨rfl, rfl, rfl, rfl⟩ rfl rfl) rfl ?_; conv => whnf)
    | (refine VR.fun hTb rfl rfl (o_funN (c3) false [] (fun h => by cases h) (by simp) rfl rfl rfl rfl rfl ⟨rfl, rfl, rfl, rfl⟩ rfl rfl) ?_; conv => whnf)
    | (refine DT.fun hTb rfl (o_funN (c3) false [] (fun h => by cases h) (by simp) rfl rfl rfl rfl rfl ⟨rfl, rfl, rfl, rfl⟩ rfl rfl) rfl ?_; conv => whnf)
    | (refine VR.pure hTb rfl rfl (o_purN (cW) rfl rfl rfl ⟨rfl, rfl, rfl, rfl⟩ rfl) ?_; conv => whnf)
    | (refine DT.pure hTb rfl (o_purN (cW) rfl rfl rfl ⟨rfl, rfl, rfl, rfl⟩ rfl) ?_; conv => whnf)
    | (refine VR.pure hTb rfl rfl (o_purN (cR) rfl rfl rfl ⟨rfl, rfl, rfl, rfl⟩ rfl) ?_; conv => whnf)
    | (refine DT.pure hTb rfl (o_purN (cR) rfl rfl rfl ⟨rfl, rfl, rfl, rfl⟩ rfl) ?_; conv => whnf)
    | (refine VR.pure hTb rfl rfl (o_purN (cS) rfl rfl rfl ⟨rfl, rfl, rfl, rfl⟩ rfl) ?_; conv => whnf)
    | (refine DT.pure hTb rfl (o_purN (cS) rfl rfl rfl ⟨rfl, rfl, rfl, rfl⟩ rfl) ?_; conv => whnf))
    all_goals first
      | rfl
      | exact congrArg bS (beq_iff_eq.2 hlx)
      | trace_state
  by_cases k4 : kd = 4
  · subst k4
    have hj : ∃ j, ∃ hj : j < cs.length, nameAt cs nm = (j : Int) := by
      rcases hw with ⟨h, _⟩ | ⟨j, hj, _, ea, _⟩
      · omega
      · exact ⟨j, hj, ea⟩
    obtain ⟨j, hj, ea⟩ := hj
    obtain ⟨⟨y1, y2, y3⟩, hy, hq⟩ := hk4 j hb2 rfl hj ea
    rw [hq] at cT
    have aS := c_implShapeAt cs nm (by unfold maxLen; omega) hm.ok
    rw [shAt_ok D.hs, ea] at aS
    have hrow := row_at hj
    have hrx : (x.map encVal)[((j : Nat) : Int).toNat]? = some (encVal ⟨y1, y2, y3⟩) := by rw [Int.toNat_natCast, List.getElem?_map, hy]; rfl
    have hxj : j < x.length := by
      cases Nat.lt_or_ge j x.length with
      | inl h => exact h
      | inr h => rw [List.getElem?_eq_none h] at hy; cases hy
    simp only at cT
    generalize cs[j] = z at hrow cT
    obtain ⟨z1, z2, z3, z4, ⟨z5, z6, z7⟩⟩ := z
    simp only at cT
    cases z3 <;> (conv => whnf); repeat' (first
    | (rw [hlr] at h; refine absurd h ?_; (simp; done))
    | (rw [hlx] at h; refine absurd h ?_; (simp; done))
    | (refine VL.freeze 1092 rfl rfl ?_; conv => whnf; rw [fzV])
    | (refine VL.freeze 1108 rfl rfl ?_; conv => whnf; rw [fzV])
    | (refine VL.freeze 1124 rfl rfl ?_; conv => whnf; rw [fzC])
    | (refine And.intro ?_ ?_ <;> ((try intro h) <;> (try simp only [Bool.not_true, Bool.not_false, decide_eq_true_eq, decide_eq_false_iff_not, Int.not_lt, Int.not_le, gt_iff_lt, ge_iff_le] at h) <;> first | exact absurd h Bool.false_ne_true | exact absurd h.symm Bool.false_ne_true | conv => whnf))
    | (refine VL.drawS hTb hMix (by kernel_rfl) (by kernel_rfl) (by kernel_rfl) ?_; conv => whnf)
    | (refine Need.mk ?_; kernel_rfl) | (refine Need.mk ⟨rfl, ?_⟩; decide)
    | (refine VR.freeze hTb rfl 1092 rfl rfl ?_; conv => whnf; rw [fzV])
    | (refine VR.freeze hTb rfl 1108 rfl rfl ?_; conv => whnf; rw [fzV])
    | (refine VR.freeze hTb rfl 1124 rfl rfl ?_; conv => whnf; rw [fzC])
    | (refine VR.fun hTb rfl rfl (o_funN (c1) false [] (fun h => by cases h) (by simp) rfl rfl rfl rfl rfl ⟨rfl, rfl, rfl, rfl⟩ rfl rfl) ?_; conv => whnf)
    | (refine DT.fun hTb rfl (o_funN (c1) false [] (fun h => by cases h) (by simp) rfl rfl rfl rfl rfl ⟨rfl, rfl, rfl, rfl⟩ rfl rfl) rfl ?_; conv => whnf)
    | (refine VR.fun hTb rfl rfl (o_funN (c2) false [] (fun h => by cases h) (by simp) rfl rfl rfl rfl rfl ⟨rfl, rfl, rfl, rfl⟩ rfl rfl) ?_; conv => whnf)
    | (refine DT.fun hTb rfl (o_funN (c2) false [] (fun h => by cases h) (by simp) rfl rfl rfl rfl rfl ⟨rfl, rfl, rfl, rfl⟩ rfl rfl) rfl ?_; conv => whnf)
    | (refine VR.fun hTb rfl rfl (o_funN (c3) false [] (fun h => by cases h) (by simp) rfl rfl rfl rfl rfl ⟨rfl, rfl, rfl, rfl⟩ rfl rfl) ?_; conv => whnf)
    | (refine DT.fun hTb rfl (o_funN (c3) false [] (fun h => by cases h) (by simp) rfl rfl rfl rfl rfl ⟨rfl, rfl, rfl, rfl⟩ rfl rfl) rfl ?_; conv => whnf)
    | (refine VR.pure hTb rfl rfl (o_purN (cW) rfl rfl rfl ⟨rfl, rfl, rfl, rfl⟩ rfl) ?_; conv => whnf)
    | (refine DT.pure hTb rfl (o_purN (cW) rfl rfl rfl ⟨rfl, rfl, rfl, rfl⟩ rfl) ?_; conv => whnf)
    | (refine VR.pure hTb rfl rfl (o_purN (cR) rfl rfl rfl ⟨rfl, rfl, rfl, rfl⟩ rfl) ?_; conv => whnf)
    | (refine DT.pure hTb rfl (o_purN (cR) rfl rfl rfl ⟨rfl, rfl, rfl, rfl⟩ rfl) ?_; conv => whnf)
    | (refine VR.pure hTb rfl rfl (o_purN (cS) rfl rfl rfl ⟨rfl, rfl, rfl, rfl⟩ rfl) ?_; conv => whnf)
    | (refine DT.pure hTb rfl (o_purN (cS) rfl rfl rfl ⟨rfl, rfl, rfl, rfl⟩ rfl) ?_; conv => whnf)
    | (refine VR.pure hTb rfl rfl (o_purN (aS) rfl rfl rfl ⟨rfl, rfl, rfl, rfl⟩ rfl) ?_; conv => whnf)
    | (refine DT.pure hTb rfl (o_purN (aS) rfl rfl rfl ⟨rfl, rfl, rfl, rfl⟩ rfl) ?_; conv => whnf)
    | (refine VR.pure hTb rfl rfl (o_purN (cT) rfl rfl rfl ⟨rfl, rfl, rfl, rfl⟩ rfl) ?_; conv => whnf)
    | (refine DT.pure hTb rfl (o_purN (cT) rfl rfl rfl ⟨rfl, rfl, rfl, rfl⟩ rfl) ?_; conv => whnf)
    | (refine VR.op hTb rfl rfl (o_index_imm hTb rfl rfl rfl rfl rfl rfl rfl (by omega) (hrow)) rfl ?_; conv => whnf)
    | (refine DT.op hTb rfl (o_index_imm hTb rfl rfl rfl rfl rfl rfl rfl (by omega) (hrow)) rfl ?_; conv => whnf)
    | (refine VR.op hTb rfl rfl (o_index_imm hTb rfl rfl rfl rfl rfl rfl rfl (by omega) (hrx)) rfl ?_; conv => whnf)
    | (refine DT.op hTb rfl (o_index_imm hTb rfl rfl rfl rfl rfl rfl rfl (by omega) (hrx)) rfl ?_; conv => whnf))
    all_goals first
      | rfl
      | exact congrArg bS (beq_self_eq_true _)
      | trace_state
  · have hq := hk hb2 k4
    rw [hq] at cT
    (conv => whnf); repeat' (first
    | (exact absurd (beq_iff_eq.1 h) k4)
    | (rw [hlr] at h; refine absurd h ?_; (simp; done))
    | (rw [hlx] at h; refine absurd h ?_; (simp; done))
    | (refine VL.freeze 1092 rfl rfl ?_; conv => whnf; rw [fzV])
    | (refine VL.freeze 1108 rfl rfl ?_; conv => whnf; rw [fzV])
    | (refine VL.freeze 1124 rfl rfl ?_; conv => whnf; rw [fzC])
    | (refine And.intro ?_ ?_ <;> ((try intro h) <;> (try simp only [Bool.not_true, Bool.not_false, decide_eq_true_eq, decide_eq_false_iff_not, Int.not_lt, Int.not_le, gt_iff_lt, ge_iff_le] at h) <;> first | exact absurd h Bool.false_ne_true | exact absurd h.symm Bool.false_ne_true | conv => whnf))
    | (refine VL.drawS hTb hMix (by kernel_rfl) (by kernel_rfl) (by kernel_rfl) ?_; conv => whnf)
    | (refine Need.mk ?_; kernel_rfl) | (refine Need.mk ⟨rfl, ?_⟩; decide)
    | (refine VR.freeze hTb rfl 1092 rfl rfl ?_; conv => whnf; rw [fzV])
    | (refine VR.freeze hTb rfl 1108 rfl rfl ?_; conv => whnf; rw [fzV])
    | (refine VR.freeze hTb rfl 1124 rfl rfl ?_; conv => whnf; rw [fzC])
    | (refine VR.fun hTb rfl rfl (o_funN (c1) false [] (fun h => by cases h) (by simp) rfl rfl rfl rfl rfl ⟨rfl, rfl, rfl, rfl⟩ rfl rfl) ?_; conv => whnf)
    | (refine DT.fun hTb rfl (o_funN (c1) false [] (fun h => by cases h) (by simp) rfl rfl rfl rfl rfl ⟨rfl, rfl, rfl, rfl⟩ rfl rfl) rfl ?_; conv => whnf)
    | (refine VR.fun hTb rfl rfl (o_funN (c2) false [] (fun h => by cases h) (by simp) rfl rfl rfl rfl rfl ⟨rfl, rfl, rfl, rfl⟩ rfl rfl) ?_; conv => whnf)
    | (refine DT.fun hTb rfl (o_funN (c2) false [] (fun h => by cases h) (by simp) rfl rfl rfl rfl rfl ⟨rfl, rfl, rfl, rfl⟩ rfl rfl) rfl ?_; conv => whnf)
    | (refine VR.fun hTb rfl rfl (o_funN (c3) false [] (fun h => by cases h) (by simp) rfl rfl rfl rfl rfl ⟨rfl, rfl, rfl, rfl⟩ rfl rfl) ?_; conv => whnf)
    | (refine DT.fun hTb rfl (o_funN (c3) false [] (fun h => by cases h) (by simp) rfl rfl rfl rfl rfl ⟨rfl, rfl, rfl, rfl⟩ rfl rfl) rfl ?_; conv => whnf)
    | (refine VR.pure hTb rfl rfl (o_purN (cW) rfl rfl rfl ⟨rfl, rfl, rfl, rfl⟩ rfl) ?_; conv => whnf)
    | (refine DT.pure hTb rfl (o_purN (cW) rfl rfl rfl ⟨rfl, rfl, rfl, rfl⟩ rfl) ?_; conv => whnf)
    | (refine VR.pure hTb rfl rfl (o_purN (cR) rfl rfl rfl ⟨rfl, rfl, rfl, rfl⟩ rfl) ?_; conv => whnf)
    | (refine DT.pure hTb rfl (o_purN (cR) rfl rfl rfl ⟨rfl, rfl, rfl, rfl⟩ rfl) ?_; conv => whnf)
    | (refine VR.pure hTb rfl rfl (o_purN (cS) rfl rfl rfl ⟨rfl, rfl, rfl, rfl⟩ rfl) ?_; conv => whnf)
    | (refine DT.pure hTb rfl (o_purN (cS) rfl rfl rfl ⟨rfl, rfl, rfl, rfl⟩ rfl) ?_; conv => whnf)
    | (refine VR.pure hTb rfl rfl (o_purN (cT) rfl rfl rfl ⟨rfl, rfl, rfl, rfl⟩ rfl) ?_; conv => whnf)
    | (refine DT.pure hTb rfl (o_purN (cT) rfl rfl rfl ⟨rfl, rfl, rfl, rfl⟩ rfl) ?_; conv => whnf))
    all_goals first
      | rfl
      | trace_state
end Go.Vl
