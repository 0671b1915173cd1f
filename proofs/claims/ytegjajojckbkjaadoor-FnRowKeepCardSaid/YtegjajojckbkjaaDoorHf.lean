/- Laws: a change of columns keeps what stands in the others. -/
import Derived.Test.YtegjajojckbkjaaDoorHe
namespace Go.Vl
open Go Go.RowKit Go.Proofs
set_option maxRecDepth 100000
set_option linter.unusedSimpArgs false
set_option linter.unusedVariables false
set_option maxHeartbeats 4000000

theorem keep_new {s t : List Col} {c : Change} {row : List Val} (D : Done s c t) (hr : row.length = s.length) {i : Nat} (hi : i < s.length) (e : s[i].name = c.name) (k3 : c.kind = 3) :
    ∃ k : Nat, nameAt t c.new = (k : Int) ∧ (rwCh s c row)[k]? = some (row[i]'(by omega)) := by
  rcases rwCh_eq (row := row) D with ⟨k, _⟩ | ⟨j, hj, en, ea, ⟨k, _⟩ | ⟨k, e1, e2⟩ | ⟨k, _⟩⟩
  · omega
  · omega
  · have : i = j := name_once D.hs hi hj (e.trans en.symm)
    subst this
    exact ⟨i, nameAt_of D.hx (by rw [e1]; simpa using hi) (by simp [e1]; rfl), by rw [e2, List.getElem?_eq_getElem (by omega)]⟩
  · omega
theorem keep_old {s t : List Col} {c : Change} {row : List Val} (D : Done s c t) (hr : row.length = s.length) {i : Nat} (hi : i < s.length) (e : s[i].name ≠ c.name) :
    ∃ k : Nat, nameAt t s[i].name = (k : Int) ∧ (rwCh s c row)[k]? = some (row[i]'(by omega)) := by
  rcases rwCh_eq (row := row) D with ⟨k, e1, _, e2⟩ | ⟨j, hj, en, ea, w⟩
  · exact ⟨i, nameAt_of D.hx (by rw [e1]; simp; omega) (by simp [e1, List.getElem_append, hi]), by rw [e2, List.getElem?_append_left (by omega), List.getElem?_eq_getElem (by omega)]⟩
  · have hij : i ≠ j := fun h => by subst h; exact e en
    rcases w with ⟨k, e1, e2⟩ | ⟨k, e1, e2⟩ | ⟨k, e1, e2⟩
    · by_cases h : i < j
      · refine ⟨i, nameAt_of D.hx (by rw [e1, List.length_eraseIdx, if_pos hj]; omega) (by simp [e1, List.getElem_eraseIdx, h]), ?_⟩
        rw [e2, List.getElem?_eraseIdx, if_pos h, List.getElem?_eq_getElem (by omega)]
      · obtain ⟨m, rfl⟩ : ∃ m, i = m + 1 := ⟨i - 1, by omega⟩
        refine ⟨m, nameAt_of D.hx (by rw [e1, List.length_eraseIdx, if_pos hj]; omega) (by simp [e1, List.getElem_eraseIdx, show ¬ m < j by omega]), ?_⟩
        rw [e2, List.getElem?_eraseIdx, if_neg (by omega), List.getElem?_eq_getElem (by omega)]
    · refine ⟨i, nameAt_of D.hx (by rw [e1]; simpa using hi) (by simp [e1, List.getElem_set, show ¬ j = i by omega]), ?_⟩
      rw [e2, List.getElem?_eq_getElem (by omega)]
    · refine ⟨i, nameAt_of D.hx (by rw [e1]; simpa using hi) (by simp [e1, List.getElem_set, show ¬ j = i by omega]), ?_⟩
      rw [e2, List.getElem?_set, if_neg (by omega), List.getElem?_eq_getElem (by omega)]
theorem c_FnRowKeep {bs : List Int} (hl : bs.length ≤ maxLen) (hb : ∀ x ∈ bs, 0 ≤ x ∧ x < 256) : CallsV Tryd.prog 9 [bytesI bs] [] (pureQ (bS true)) := by
  refine pure_walk hTb Tryd.func9 rfl rfl Tryd.ntmps9 (by simp) ?_
  (conv => whnf); repeat' (first
    | (refine And.intro ?_ ?_ <;> ((try intro h) <;> (try simp only [Bool.not_true, Bool.not_false, decide_eq_true_eq, decide_eq_false_iff_not, Int.not_lt, Int.not_le, gt_iff_lt, ge_iff_le] at h) <;> first | exact absurd h Bool.false_ne_true | exact absurd h.symm Bool.false_ne_true | conv => whnf))
    | (refine VL.drawS hTb hMix (by kernel_rfl) (by kernel_rfl) (by kernel_rfl) ?_; conv => whnf)
    | (refine Need.mk ?_; kernel_rfl) | (refine Need.mk ⟨rfl, ?_⟩; decide)
    | (refine VR.rel hTb rfl rfl (o_relN (c_DrawRowDo hl hb) false [] (fun _ _ => ⟨by simp, fun h => by cases h⟩) rfl rfl rfl rfl rfl ⟨rfl, rfl, rfl, rfl⟩ rfl rfl) ?_; rintro ⟨cs, ⟨kd, nm, nw, ⟨cn, ck, k1, k2, ⟨d1, d2, d3⟩⟩⟩, row⟩ h1; (try simp only at h1); conv => whnf)
    | (refine DT.rel hTb rfl (o_relN (c_DrawRowDo hl hb) false [] (fun _ _ => ⟨by simp, fun h => by cases h⟩) rfl rfl rfl rfl rfl ⟨rfl, rfl, rfl, rfl⟩ rfl rfl) [] (by kernel_rfl) (by kernel_rfl) ?_; rintro ⟨cs, ⟨kd, nm, nw, ⟨cn, ck, k1, k2, ⟨d1, d2, d3⟩⟩⟩, row⟩ h1; (try simp only at h1); refine And.intro rfl (And.intro rfl ?_); conv => whnf))
  · rfl
  have hm := h1.1.md
  have hcm := h1.2.2.1.md
  have hrm := h1.2.2.2.1.md
  have c1 := c_implShapeDo cs ⟨kd, nm, nw, ⟨cn, ck, k1, k2, ⟨d1, d2, d3⟩⟩⟩ (by omega) hm hcm
  have c2 := c_implRowDo cs ⟨kd, nm, nw, ⟨cn, ck, k1, k2, ⟨d1, d2, d3⟩⟩⟩ row (by omega) (by omega) hm hcm hrm
  have c3 := c_specRowDo cs ⟨kd, nm, nw, ⟨cn, ck, k1, k2, ⟨d1, d2, d3⟩⟩⟩ row (by omega) (by omega) hm hcm hrm
  obtain ⟨⟨t, ok⟩, hx⟩ : ∃ y, sdo cs ⟨kd, nm, nw, ⟨cn, ck, k1, k2, ⟨d1, d2, d3⟩⟩⟩ = y := ⟨_, rfl⟩
  rw [hx] at c1
  have hxl := sdo_le hx
  have hxm := sdo_sm hx hm hcm
  by_cases hno : ok = true ∧ row.length = cs.length
  rotate_left
  · rw [rwDo_no hx hno] at c2 c3
    have cW := c_wpVals [] (by simp)
    by_cases hn : row.length = cs.length
    · have hok : ok = false := by cases ok with | false => rfl | true => exact absurd ⟨rfl, hn⟩ hno
      subst hok
      (conv => whnf); repeat' (first
    | (refine VL.freeze 1092 rfl rfl ?_; conv => whnf; rw [(fzV [])])
    | (refine VL.freeze 1112 rfl rfl ?_; conv => whnf; rw [(fzV [])])
    | (refine VL.freeze 1136 rfl rfl ?_; conv => whnf; rw [fzC])
    | (refine And.intro ?_ ?_ <;> ((try intro h) <;> (try simp only [Bool.not_true, Bool.not_false, decide_eq_true_eq, decide_eq_false_iff_not, Int.not_lt, Int.not_le, gt_iff_lt, ge_iff_le] at h) <;> first | exact absurd h Bool.false_ne_true | exact absurd h.symm Bool.false_ne_true | conv => whnf))
    | (refine VL.drawS hTb hMix (by kernel_rfl) (by kernel_rfl) (by kernel_rfl) ?_; conv => whnf)
    | (refine Need.mk ?_; kernel_rfl) | (refine Need.mk ⟨rfl, ?_⟩; decide)
    | (refine VR.freeze hTb rfl 1092 rfl rfl ?_; conv => whnf; rw [(fzV [])])
    | (refine VR.freeze hTb rfl 1112 rfl rfl ?_; conv => whnf; rw [(fzV [])])
    | (refine VR.freeze hTb rfl 1136 rfl rfl ?_; conv => whnf; rw [fzC])
    | (refine VR.fun hTb rfl rfl (o_funN (c1) false [] (fun h => by cases h) (by simp) rfl rfl rfl rfl rfl ⟨rfl, rfl, rfl, rfl⟩ rfl rfl) ?_; conv => whnf)
    | (refine DT.fun hTb rfl (o_funN (c1) false [] (fun h => by cases h) (by simp) rfl rfl rfl rfl rfl ⟨rfl, rfl, rfl, rfl⟩ rfl rfl) rfl ?_; conv => whnf)
    | (refine VR.fun hTb rfl rfl (o_funN (c2) false [] (fun h => by cases h) (by simp) rfl rfl rfl rfl rfl ⟨rfl, rfl, rfl, rfl⟩ rfl rfl) ?_; conv => whnf)
    | (refine DT.fun hTb rfl (o_funN (c2) false [] (fun h => by cases h) (by simp) rfl rfl rfl rfl rfl ⟨rfl, rfl, rfl, rfl⟩ rfl rfl) rfl ?_; conv => whnf)
    | (refine VR.fun hTb rfl rfl (o_funN (c3) false [] (fun h => by cases h) (by simp) rfl rfl rfl rfl rfl ⟨rfl, rfl, rfl, rfl⟩ rfl rfl) ?_; conv => whnf)
    | (refine DT.fun hTb rfl (o_funN (c3) false [] (fun h => by cases h) (by simp) rfl rfl rfl rfl rfl ⟨rfl, rfl, rfl, rfl⟩ rfl rfl) rfl ?_; conv => whnf)
    | (refine VR.pure hTb rfl rfl (o_purN (cW) rfl rfl rfl ⟨rfl, rfl, rfl, rfl⟩ rfl) ?_; conv => whnf)
    | (refine DT.pure hTb rfl (o_purN (cW) rfl rfl rfl ⟨rfl, rfl, rfl, rfl⟩ rfl) ?_; conv => whnf))
      all_goals first
        | rfl
        | trace_state
    · have hh : (((row.map encVal).length : Int) != ((cs.map encCol).length : Int)) = true := by simp; omega
      cases ok <;> (conv => whnf); repeat' (first
    | (exact absurd (h.symm.trans hh) Bool.false_ne_true)
    | (refine VL.freeze 1092 rfl rfl ?_; conv => whnf; rw [(fzV [])])
    | (refine VL.freeze 1112 rfl rfl ?_; conv => whnf; rw [(fzV [])])
    | (refine VL.freeze 1136 rfl rfl ?_; conv => whnf; rw [fzC])
    | (refine And.intro ?_ ?_ <;> ((try intro h) <;> (try simp only [Bool.not_true, Bool.not_false, decide_eq_true_eq, decide_eq_false_iff_not, Int.not_lt, Int.not_le, gt_iff_lt, ge_iff_le] at h) <;> first | exact absurd h Bool.false_ne_true | exact absurd h.symm Bool.false_ne_true | conv => whnf))
    | (refine VL.drawS hTb hMix (by kernel_rfl) (by kernel_rfl) (by kernel_rfl) ?_; conv => whnf)
    | (refine Need.mk ?_; kernel_rfl) | (refine Need.mk ⟨rfl, ?_⟩; decide)
    | (refine VR.freeze hTb rfl 1092 rfl rfl ?_; conv => whnf; rw [(fzV [])])
    | (refine VR.freeze hTb rfl 1112 rfl rfl ?_; conv => whnf; rw [(fzV [])])
    | (refine VR.freeze hTb rfl 1136 rfl rfl ?_; conv => whnf; rw [fzC])
    | (refine VR.fun hTb rfl rfl (o_funN (c1) false [] (fun h => by cases h) (by simp) rfl rfl rfl rfl rfl ⟨rfl, rfl, rfl, rfl⟩ rfl rfl) ?_; conv => whnf)
    | (refine DT.fun hTb rfl (o_funN (c1) false [] (fun h => by cases h) (by simp) rfl rfl rfl rfl rfl ⟨rfl, rfl, rfl, rfl⟩ rfl rfl) rfl ?_; conv => whnf)
    | (refine VR.fun hTb rfl rfl (o_funN (c2) false [] (fun h => by cases h) (by simp) rfl rfl rfl rfl rfl ⟨rfl, rfl, rfl, rfl⟩ rfl rfl) ?_; conv => whnf)
    | (refine DT.fun hTb rfl (o_funN (c2) false [] (fun h => by cases h) (by simp) rfl rfl rfl rfl rfl ⟨rfl, rfl, rfl, rfl⟩ rfl rfl) rfl ?_; conv => whnf)
    | (refine VR.fun hTb rfl rfl (o_funN (c3) false [] (fun h => by cases h) (by simp) rfl rfl rfl rfl rfl ⟨rfl, rfl, rfl, rfl⟩ rfl rfl) ?_; conv => whnf)
    | (refine DT.fun hTb rfl (o_funN (c3) false [] (fun h => by cases h) (by simp) rfl rfl rfl rfl rfl ⟨rfl, rfl, rfl, rfl⟩ rfl rfl) rfl ?_; conv => whnf)
    | (refine VR.pure hTb rfl rfl (o_purN (cW) rfl rfl rfl ⟨rfl, rfl, rfl, rfl⟩ rfl) ?_; conv => whnf)
    | (refine DT.pure hTb rfl (o_purN (cW) rfl rfl rfl ⟨rfl, rfl, rfl, rfl⟩ rfl) ?_; conv => whnf))
      all_goals first
        | rfl
        | trace_state
  obtain ⟨rfl, hn⟩ := hno
  rw [rwDo_yes hx hn] at c2 c3
  have D := sdo_done hx
  have hlen := rw_len (row := row) D hn
  have hwl : (rwCh cs ⟨kd, nm, nw, ⟨cn, ck, k1, k2, ⟨d1, d2, d3⟩⟩⟩ row).length ≤ 20 := by omega
  have kn := fun i => @keep_new _ _ _ row D hn i
  have ko := fun i => @keep_old _ _ _ row D hn i
  have aT := fun nm => c_implShapeAt t nm (by unfold maxLen; omega) hxm.ok
  simp only [shAt_ok D.hx] at aT
  simp only at kn ko
  generalize rwCh cs ⟨kd, nm, nw, ⟨cn, ck, k1, k2, ⟨d1, d2, d3⟩⟩⟩ row = x at c2 c3 hlen hwl kn ko
  have cW := c_wpVals x (by unfold maxLen; omega)
  have hlr : ((row.map encVal).length : Int) = (cs.map encCol).length := by simp [hn]
  (conv => whnf); repeat' (first
    | (rw [hlr] at h; refine absurd h ?_; (simp; done))
    | (refine VL.freeze 1092 rfl rfl ?_; conv => whnf; rw [fzV])
    | (refine VL.freeze 1112 rfl rfl ?_; conv => whnf; rw [fzV])
    | (refine VL.freeze 1136 rfl rfl ?_; conv => whnf; rw [fzC])
    | (refine And.intro ?_ ?_ <;> ((try intro h) <;> (try simp only [Bool.not_true, Bool.not_false, decide_eq_true_eq, decide_eq_false_iff_not, Int.not_lt, Int.not_le, gt_iff_lt, ge_iff_le] at h) <;> first | exact absurd h Bool.false_ne_true | exact absurd h.symm Bool.false_ne_true | conv => whnf))
    | (refine VL.drawS hTb hMix (by kernel_rfl) (by kernel_rfl) (by kernel_rfl) ?_; conv => whnf)
    | (refine Need.mk ?_; kernel_rfl) | (refine Need.mk ⟨rfl, ?_⟩; decide)
    | (refine VR.freeze hTb rfl 1092 rfl rfl ?_; conv => whnf; rw [fzV])
    | (refine VR.freeze hTb rfl 1112 rfl rfl ?_; conv => whnf; rw [fzV])
    | (refine VR.freeze hTb rfl 1136 rfl rfl ?_; conv => whnf; rw [fzC])
    | (refine VR.fun hTb rfl rfl (o_funN (c1) false [] (fun h => by cases h) (by simp) rfl rfl rfl rfl rfl ⟨rfl, rfl, rfl, rfl⟩ rfl rfl) ?_; conv => whnf)
    | (refine DT.fun hTb rfl (o_funN (c1) false [] (fun h => by cases h) (by simp) rfl rfl rfl rfl rfl ⟨rfl, rfl, rfl, rfl⟩ rfl rfl) rfl ?_; conv => whnf)
    | (refine VR.fun hTb rfl rfl (o_funN (c2) false [] (fun h => by cases h) (by simp) rfl rfl rfl rfl rfl ⟨rfl, rfl, rfl, rfl⟩ rfl rfl) ?_; conv => whnf)
    | (refine DT.fun hTb rfl (o_funN (c2) false [] (fun h => by cases h) (by simp) rfl rfl rfl rfl rfl ⟨rfl, rfl, rfl, rfl⟩ rfl rfl) rfl ?_; conv => whnf)
    | (refine VR.fun hTb rfl rfl (o_funN (c3) false [] (fun h => by cases h) (by simp) rfl rfl rfl rfl rfl ⟨rfl, rfl, rfl, rfl⟩ rfl rfl) ?_; conv => whnf)
    | (refine DT.fun hTb rfl (o_funN (c3) false [] (fun h => by cases h) (by simp) rfl rfl rfl rfl rfl ⟨rfl, rfl, rfl, rfl⟩ rfl rfl) rfl ?_; conv => whnf)
    | (refine VR.pure hTb rfl rfl (o_purN (cW) rfl rfl rfl ⟨rfl, rfl, rfl, rfl⟩ rfl) ?_; conv => whnf)
    | (refine DT.pure hTb rfl (o_purN (cW) rfl rfl rfl ⟨rfl, rfl, rfl, rfl⟩ rfl) ?_; conv => whnf))
  refine VL.loopI hTb (fun i => i ≤ cs.length) (fun i => ⟨[(3, colsI cs), (4, .one (.ptr 104 0)), (5, valsI row), (6, valsI x), (7, colsI t), (9, iS i)], [(104, .box (encChange ⟨kd, nm, nw, ⟨cn, ck, k1, k2, ⟨d1, d2, d3⟩⟩⟩))], []⟩) (fun i => cs.length - i) 0 (Nat.zero_le _)
    (wk_to [(104, 104)] rfl rfl rfl ⟨rfl, rfl, rfl, rfl, rfl, rfl, trivial⟩ ⟨rfl, ⟨_, rfl, rfl⟩, trivial⟩) (fun i hi => ?_)
  (conv => whnf)
  refine And.intro (fun h2 => ?_) (fun h2 => ?_)
  · have hlt : i < cs.length := by simpa using h2
    have hrow := row_at hlt
    have hrv := rowVal (show i < row.length by omega)
    have kn := kn i hlt
    have ko := ko i hlt
    generalize cs[i] = ci at hrow kn ko
    generalize row[i]'(by omega) = vi at hrv kn ko
    obtain ⟨xn, xk, x1, x2, ⟨x3, x4, x5⟩⟩ := ci
    obtain ⟨v1, v2, v3⟩ := vi
    simp only at kn ko
    obtain ⟨b, hb3⟩ : ∃ b, (xn.toList == nm.toList) = b := ⟨_, rfl⟩
    cases b
    · obtain ⟨k, e1, e2⟩ := ko (tl_bne.1 hb3)
      have aK := aT xn
      rw [e1] at aK
      have hkx : k < x.length := by
        cases Nat.lt_or_ge k x.length with
        | inl h => exact h
        | inr h => rw [List.getElem?_eq_none h] at e2; cases e2
      have hrx : (x.map encVal)[((k : Nat) : Int).toNat]? = some (encVal ⟨v1, v2, v3⟩) := by rw [Int.toNat_natCast, List.getElem?_map, e2]; rfl
      (conv => whnf); repeat' (first
    | (exact absurd (hb3.symm.trans h) Bool.false_ne_true)
    | (refine And.intro ?_ ?_ <;> ((try intro h) <;> (try simp only [Bool.not_true, Bool.not_false, decide_eq_true_eq, decide_eq_false_iff_not, Int.not_lt, Int.not_le, gt_iff_lt, ge_iff_le] at h) <;> first | exact absurd h Bool.false_ne_true | exact absurd h.symm Bool.false_ne_true | conv => whnf))
    | (refine VL.drawS hTb hMix (by kernel_rfl) (by kernel_rfl) (by kernel_rfl) ?_; conv => whnf)
    | (refine Need.mk ?_; kernel_rfl) | (refine Need.mk ⟨rfl, ?_⟩; decide)
    | (refine VR.op hTb rfl rfl (o_index_imm hTb rfl rfl rfl rfl rfl rfl rfl (by omega) (hrow)) rfl ?_; conv => whnf)
    | (refine DT.op hTb rfl (o_index_imm hTb rfl rfl rfl rfl rfl rfl rfl (by omega) (hrow)) rfl ?_; conv => whnf)
    | (refine VR.op hTb rfl rfl (o_index_imm hTb rfl rfl rfl rfl rfl rfl rfl (by omega) (hrx)) rfl ?_; conv => whnf)
    | (refine DT.op hTb rfl (o_index_imm hTb rfl rfl rfl rfl rfl rfl rfl (by omega) (hrx)) rfl ?_; conv => whnf)
    | (refine VR.op hTb rfl rfl (o_index_imm hTb rfl rfl rfl rfl rfl rfl rfl (by omega) (hrv)) rfl ?_; conv => whnf)
    | (refine DT.op hTb rfl (o_index_imm hTb rfl rfl rfl rfl rfl rfl rfl (by omega) (hrv)) rfl ?_; conv => whnf)
    | (refine VR.pure hTb rfl rfl (o_purN (aK) rfl rfl rfl ⟨rfl, rfl, rfl, rfl⟩ rfl) ?_; conv => whnf)
    | (refine DT.pure hTb rfl (o_purN (aK) rfl rfl rfl ⟨rfl, rfl, rfl, rfl⟩ rfl) ?_; conv => whnf))
      all_goals first
        | exact ⟨i + 1, hlt, by omega, wk_to [(104, 104)] rfl rfl rfl ⟨rfl, rfl, rfl, rfl, rfl, congrArg (fun x => Slot.one (.g (.int .i64 x))) (wrap64' (by unfold maxLen at *; omega)), trivial⟩ ⟨rfl, ⟨_, rfl, rfl⟩, trivial⟩⟩
        | (exfalso; simp at h; done)
        | (exfalso; omega)
        | trace_state
    · by_cases k3 : kd = 3
      · obtain ⟨k, e1, e2⟩ := kn (tl_beq.1 hb3) k3
        subst k3
        have aK := aT nw
        rw [e1] at aK
        have hkx : k < x.length := by
          cases Nat.lt_or_ge k x.length with
          | inl h => exact h
          | inr h => rw [List.getElem?_eq_none h] at e2; cases e2
        have hrx : (x.map encVal)[((k : Nat) : Int).toNat]? = some (encVal ⟨v1, v2, v3⟩) := by rw [Int.toNat_natCast, List.getElem?_map, e2]; rfl
        (conv => whnf); repeat' (first
    | (exact absurd (h.symm.trans hb3) Bool.false_ne_true)
    | (refine And.intro ?_ ?_ <;> ((try intro h) <;> (try simp only [Bool.not_true, Bool.not_false, decide_eq_true_eq, decide_eq_false_iff_not, Int.not_lt, Int.not_le, gt_iff_lt, ge_iff_le] at h) <;> first | exact absurd h Bool.false_ne_true | exact absurd h.symm Bool.false_ne_true | conv => whnf))
    | (refine VL.drawS hTb hMix (by kernel_rfl) (by kernel_rfl) (by kernel_rfl) ?_; conv => whnf)
    | (refine Need.mk ?_; kernel_rfl) | (refine Need.mk ⟨rfl, ?_⟩; decide)
    | (refine VR.op hTb rfl rfl (o_index_imm hTb rfl rfl rfl rfl rfl rfl rfl (by omega) (hrow)) rfl ?_; conv => whnf)
    | (refine DT.op hTb rfl (o_index_imm hTb rfl rfl rfl rfl rfl rfl rfl (by omega) (hrow)) rfl ?_; conv => whnf)
    | (refine VR.op hTb rfl rfl (o_index_imm hTb rfl rfl rfl rfl rfl rfl rfl (by omega) (hrx)) rfl ?_; conv => whnf)
    | (refine DT.op hTb rfl (o_index_imm hTb rfl rfl rfl rfl rfl rfl rfl (by omega) (hrx)) rfl ?_; conv => whnf)
    | (refine VR.op hTb rfl rfl (o_index_imm hTb rfl rfl rfl rfl rfl rfl rfl (by omega) (hrv)) rfl ?_; conv => whnf)
    | (refine DT.op hTb rfl (o_index_imm hTb rfl rfl rfl rfl rfl rfl rfl (by omega) (hrv)) rfl ?_; conv => whnf)
    | (refine VR.pure hTb rfl rfl (o_purN (aK) rfl rfl rfl ⟨rfl, rfl, rfl, rfl⟩ rfl) ?_; conv => whnf)
    | (refine DT.pure hTb rfl (o_purN (aK) rfl rfl rfl ⟨rfl, rfl, rfl, rfl⟩ rfl) ?_; conv => whnf)
    | (refine VR.pure hTb rfl rfl (o_purN (aT xn) rfl rfl rfl ⟨rfl, rfl, rfl, rfl⟩ rfl) ?_; conv => whnf)
    | (refine DT.pure hTb rfl (o_purN (aT xn) rfl rfl rfl ⟨rfl, rfl, rfl, rfl⟩ rfl) ?_; conv => whnf))
        all_goals first
          | exact ⟨i + 1, hlt, by omega, wk_to [(104, 104)] rfl rfl rfl ⟨rfl, rfl, rfl, rfl, rfl, congrArg (fun x => Slot.one (.g (.int .i64 x))) (wrap64' (by unfold maxLen at *; omega)), trivial⟩ ⟨rfl, ⟨_, rfl, rfl⟩, trivial⟩⟩
          | (exfalso; simp at h; done)
          | (exfalso; omega)
          | trace_state
      · (conv => whnf); repeat' (first
    | (exact absurd (h.symm.trans hb3) Bool.false_ne_true)
    | (exact absurd (beq_iff_eq.1 h) k3)
    | (exact absurd (bne_iff_ne.2 k3) (fun e => Bool.false_ne_true (h.symm.trans e)))
    | (refine And.intro ?_ ?_ <;> ((try intro h) <;> (try simp only [Bool.not_true, Bool.not_false, decide_eq_true_eq, decide_eq_false_iff_not, Int.not_lt, Int.not_le, gt_iff_lt, ge_iff_le] at h) <;> first | exact absurd h Bool.false_ne_true | exact absurd h.symm Bool.false_ne_true | conv => whnf))
    | (refine VL.drawS hTb hMix (by kernel_rfl) (by kernel_rfl) (by kernel_rfl) ?_; conv => whnf)
    | (refine Need.mk ?_; kernel_rfl) | (refine Need.mk ⟨rfl, ?_⟩; decide)
    | (refine VR.op hTb rfl rfl (o_index_imm hTb rfl rfl rfl rfl rfl rfl rfl (by omega) (hrow)) rfl ?_; conv => whnf)
    | (refine DT.op hTb rfl (o_index_imm hTb rfl rfl rfl rfl rfl rfl rfl (by omega) (hrow)) rfl ?_; conv => whnf)
    | (refine VR.pure hTb rfl rfl (o_purN (aT xn) rfl rfl rfl ⟨rfl, rfl, rfl, rfl⟩ rfl) ?_; conv => whnf)
    | (refine DT.pure hTb rfl (o_purN (aT xn) rfl rfl rfl ⟨rfl, rfl, rfl, rfl⟩ rfl) ?_; conv => whnf))
        all_goals first
          | exact ⟨i + 1, hlt, by omega, wk_to [(104, 104)] rfl rfl rfl ⟨rfl, rfl, rfl, rfl, rfl, congrArg (fun x => Slot.one (.g (.int .i64 x))) (wrap64' (by unfold maxLen at *; omega)), trivial⟩ ⟨rfl, ⟨_, rfl, rfl⟩, trivial⟩⟩
          | trace_state
  · (conv => whnf)
    rfl
end Go.Vl
