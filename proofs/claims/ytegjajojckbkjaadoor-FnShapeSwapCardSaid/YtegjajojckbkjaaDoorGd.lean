/- Contracts: a row behind several changes; plain laws of these. -/
import Derived.Test.YtegjajojckbkjaaDoorHd
namespace Go.Vl
open Go Go.RowKit Go.Proofs
set_option maxRecDepth 100000
set_option linter.unusedSimpArgs false
set_option linter.unusedVariables false
set_option maxHeartbeats 4000000

def rwGo : List Col → List Change → List Val → List Val
  | _, [], row => row
  | s, c :: cs, row => rwGo (shDo s c).1 cs (rwCh s c row)
theorem rwGo_step {s : List Col} {l : List Change} {row : List Val} {i : Nat} (h : i < l.length) : rwGo s (l.drop i) row = rwGo (shDo s l[i]).1 (l.drop (i + 1)) (rwCh s l[i] row) := by
  rw [List.drop_eq_getElem_cons h, rwGo]
theorem rwGo_end {s : List Col} {l : List Change} {row : List Val} {i : Nat} (h : l.length ≤ i) : rwGo s (l.drop i) row = row := by
  rw [List.drop_of_length_le h, rwGo]
def rwAll (s : List Col) (list : List Change) (row : List Val) : List Val := if (shAll s list).2 = true ∧ row.length = s.length then rwGo s list row else []
theorem shAll_go {s : List Col} {list : List Change} (h : (shAll s list).2 = true) : shapeOk s = true ∧ ∃ L, chGo s list = some L := by
  unfold shAll at h
  split at h
  · refine ⟨by assumption, ?_⟩
    cases e : chGo s list with
    | none => rw [e] at h; cases h
    | some L => exact ⟨L, rfl⟩
  · cases h
theorem chGo_sd {s L : List Col} {l : List Change} {i : Nat} (hi : i < l.length) (h : chGo s (l.drop i) = some L) : (shDo s l[i]).2 = true ∧ chGo (shDo s l[i]).1 (l.drop (i + 1)) = some L := by
  rw [chGo_step hi] at h
  split at h
  · exact ⟨by assumption, h⟩
  · cases h
/-- One step of the loops over the changes. -/
theorem rwGo_inv {s L : List Col} {l : List Change} {row : List Val} {i : Nat} (hi : i < l.length) (h : chGo s (l.drop i) = some L) (ho : shapeOk s = true) (hn : row.length = s.length) (hm : mdCols s) (hr : mdVals row) (hc : mdChs l) :
    ∃ x, shDo s l[i] = (x, true) ∧ sdo s l[i] = (x, true) ∧ chGo x (l.drop (i + 1)) = some L ∧ shapeOk x = true ∧ (rwCh s l[i] row).length = x.length ∧ rwGo s (l.drop i) row = rwGo x (l.drop (i + 1)) (rwCh s l[i] row) ∧ mdCols x ∧ mdVals (rwCh s l[i] row) ∧ x.length ≤ s.length + 1 ∧ chAt s l[i] row.length := by
  obtain ⟨h1, h2⟩ := chGo_sd hi h
  have hmc := hc _ (List.getElem_mem hi)
  refine ⟨(shDo s l[i]).1, by rw [← h1], by rw [sdo_sd ho, ← h1], h2, (shDo_ok h1).1, ?_, rwGo_step hi, shDo_md hm hmc, rwCh_md hmc hr, shDo_len, hn ▸ shDo_at h1⟩
  have hx : sdo s l[i] = ((shDo s l[i]).1, true) := by rw [sdo_sd ho, ← h1]
  exact rw_len (sdo_done hx) hn
theorem c_changeRows (s : List Col) (list : List Change) (row : List Val) {L : List Col} (hl : s.length + list.length ≤ 1900000) (hs : mdCols s) (hc : mdChs list) (hr : mdVals row) (ho : shapeOk s = true) (hg : chGo s list = some L) (hn : row.length = s.length) :
    CallsV Tryd.prog 74 [colsI s, changesI list, valsI row] [] (funQ (.one (.own 0 0 (rwGo s list row).length)) [] [.arr 29 3 ((rwGo s list row).map encVal)]) := by
  refine funF_walk hTb Tryd.func74 rfl rfl Tryd.ntmps74 (by simp) (by simp) ?_
  have c0 := c_cloneVal row (by omega)
  (conv => whnf); repeat' (first
    | (refine And.intro ?_ ?_ <;> ((try intro h) <;> (try simp only [Bool.not_true, Bool.not_false, decide_eq_true_eq, decide_eq_false_iff_not, Int.not_lt, Int.not_le, gt_iff_lt, ge_iff_le] at h) <;> first | exact absurd h Bool.false_ne_true | exact absurd h.symm Bool.false_ne_true | conv => whnf))
    | (refine VL.drawS hTb hMix (by kernel_rfl) (by kernel_rfl) (by kernel_rfl) ?_; conv => whnf)
    | (refine Need.mk ?_; kernel_rfl) | (refine Need.mk ⟨rfl, ?_⟩; decide)
    | (refine VR.fun hTb rfl rfl (o_funN (c0) false [] (fun h => by cases h) (by simp) rfl rfl rfl rfl rfl ⟨rfl, rfl, rfl, rfl⟩ rfl rfl) ?_; conv => whnf)
    | (refine DT.fun hTb rfl (o_funN (c0) false [] (fun h => by cases h) (by simp) rfl rfl rfl rfl rfl ⟨rfl, rfl, rfl, rfl⟩ rfl rfl) rfl ?_; conv => whnf))
  refine VL.loopI hTb (α := Nat × List Col × List Val) (fun x => x.1 ≤ list.length ∧ chGo x.2.1 (list.drop x.1) = some L ∧ shapeOk x.2.1 = true ∧ x.2.2.length = x.2.1.length ∧ rwGo s list row = rwGo x.2.1 (list.drop x.1) x.2.2 ∧ mdCols x.2.1 ∧ mdVals x.2.2 ∧ x.2.1.length ≤ s.length + x.1)
    (fun x => ⟨[(0, colsI x.2.1), (7, .one (.own 1044 0 x.2.2.length)), (12, changesI list), (13, iS ((list.map encChange).length : Nat)), (14, iS x.1)], [(1044, .arr 29 3 (x.2.2.map encVal))], []⟩) (fun x => list.length - x.1) (0, s, row) ⟨Nat.zero_le _, hg, ho, hn, rfl, hs, hr, by simp⟩
    (wk_to [(1044, 1044)] rfl rfl rfl ⟨rfl, rfl, rfl, rfl, rfl, trivial⟩ ⟨rfl, ⟨_, rfl, rfl⟩, trivial⟩) (fun x hx => ?_)
  obtain ⟨i, z, out⟩ := x
  obtain ⟨hi, hf, hzo, hzn, he, hm, hv, hzl⟩ := hx
  simp only at hi hf hzo hzn he hm hv hzl
  (conv => whnf)
  refine And.intro (fun h2 => ?_) (fun h2 => ?_)
  · have hlt : i < list.length := by simpa using h2
    have hrow := rowChange hlt
    have hmc := hc _ (List.getElem_mem hlt)
    obtain ⟨x, hx, _, hxg, hxo, hxn, hxe, hxm, hxv, hxl, hat⟩ := rwGo_inv hlt hf hzo hzn hm hv hc
    have cR := c_changeRow z list[i] out (by omega) (by omega) hm hv hat
    have cX := c_change z list[i] (by omega) hm hmc
    rw [hx] at cX
    generalize rwCh z list[i] out = w at cR hxn hxe hxv
    generalize list[i] = ci at hrow cR cX
    obtain ⟨kd, nm, nw, ⟨cn, ck, k1, k2, ⟨d1, d2, d3⟩⟩⟩ := ci
    (conv => whnf); repeat' (first
    | (refine And.intro ?_ ?_ <;> ((try intro h) <;> (try simp only [Bool.not_true, Bool.not_false, decide_eq_true_eq, decide_eq_false_iff_not, Int.not_lt, Int.not_le, gt_iff_lt, ge_iff_le] at h) <;> first | exact absurd h Bool.false_ne_true | exact absurd h.symm Bool.false_ne_true | conv => whnf))
    | (refine VL.drawS hTb hMix (by kernel_rfl) (by kernel_rfl) (by kernel_rfl) ?_; conv => whnf)
    | (refine Need.mk ?_; kernel_rfl) | (refine Need.mk ⟨rfl, ?_⟩; decide)
    | (refine VR.op hTb rfl rfl (o_index_imm hTb rfl rfl rfl rfl rfl rfl rfl (by omega) (hrow)) rfl ?_; conv => whnf)
    | (refine DT.op hTb rfl (o_index_imm hTb rfl rfl rfl rfl rfl rfl rfl (by omega) (hrow)) rfl ?_; conv => whnf)
    | (refine VR.fun hTb rfl rfl (o_funN (cR) true [] (fun _ => grNewVal _ _) (by simp) rfl rfl rfl rfl rfl ⟨rfl, rfl, rfl, rfl⟩ ?_ rfl) ?_; exact congrArg (fun s => [_, _, s]) brw; conv => whnf)
    | (refine DT.fun hTb rfl (o_funN (cR) true [] (fun _ => grNewVal _ _) (by simp) rfl rfl rfl rfl rfl ⟨rfl, rfl, rfl, rfl⟩ ?_ rfl) rfl ?_; exact congrArg (fun s => [_, _, s]) brw; conv => whnf)
    | (refine VR.fun hTb rfl rfl (o_funN (cX) false [] (fun h => by cases h) (by simp) rfl rfl rfl rfl rfl ⟨rfl, rfl, rfl, rfl⟩ rfl rfl) ?_; conv => whnf)
    | (refine DT.fun hTb rfl (o_funN (cX) false [] (fun h => by cases h) (by simp) rfl rfl rfl rfl rfl ⟨rfl, rfl, rfl, rfl⟩ rfl rfl) rfl ?_; conv => whnf))
    exact ⟨(i + 1, x, w), ⟨hlt, hxg, hxo, hxn, he.trans hxe, hxm, hxv, (by show x.length ≤ s.length + (i + 1); omega)⟩, by show _ - (i + 1) < _ - i; omega, (wk_freeze _ 1100 rfl).trans (wk_to [(1084, 1044)] rfl rfl rfl ⟨congrArg (fun r => Slot.one (.imm 7 r)) (fzC x), rfl, rfl, rfl, congrArg (fun x => Slot.one (.g (.int .i64 x))) (wrap64' (by unfold maxLen; omega)), trivial⟩ ⟨rfl, ⟨_, rfl, rfl⟩, trivial⟩)⟩
  · have hge : list.length ≤ i := by simp at h2; omega
    rw [he, rwGo_end hge]
    (conv => whnf)
    exact endW [1044] rfl rfl rfl rfl rfl (LeS.refl _) rfl rfl
theorem c_implRowAll (s : List Col) (list : List Change) (row : List Val) (hl : s.length + list.length ≤ 1900000) (hrl : row.length ≤ 1900000) (hs : mdCols s) (hc : mdChs list) (hr : mdVals row) :
    CallsV Tryd.prog 39 [colsI s, changesI list, valsI row] [] (funQ (.one (.own 0 0 (rwAll s list row).length)) [] [.arr 29 3 ((rwAll s list row).map encVal)]) := by
  have c1 := c_implShapeAll s list hl hs hc
  have c2 := fun (h : (shAll s list).2 = true) (hn : row.length = s.length) => c_changeRows s list row hl hs hc hr (shAll_go h).1 (shAll_go h).2.choose_spec hn
  unfold rwAll
  generalize shAll s list = y at c1 c2
  obtain ⟨y1, b⟩ := y
  refine funF_walk hTb Tryd.func39 rfl rfl Tryd.ntmps39 (by simp) (by simp) ?_
  by_cases hn : row.length = s.length
  · cases b
    · rw [if_neg (by simp)]
      (conv => whnf); repeat' (first
    | (refine And.intro ?_ ?_ <;> ((try intro h) <;> (try simp only [Bool.not_true, Bool.not_false, decide_eq_true_eq, decide_eq_false_iff_not, Int.not_lt, Int.not_le, gt_iff_lt, ge_iff_le] at h) <;> first | exact absurd h Bool.false_ne_true | exact absurd h.symm Bool.false_ne_true | conv => whnf))
    | (refine VL.drawS hTb hMix (by kernel_rfl) (by kernel_rfl) (by kernel_rfl) ?_; conv => whnf)
    | (refine Need.mk ?_; kernel_rfl) | (refine Need.mk ⟨rfl, ?_⟩; decide)
    | (refine VR.fun hTb rfl rfl (o_funN (c1) false [] (fun h => by cases h) (by simp) rfl rfl rfl rfl rfl ⟨rfl, rfl, rfl, rfl⟩ rfl rfl) ?_; conv => whnf)
    | (refine DT.fun hTb rfl (o_funN (c1) false [] (fun h => by cases h) (by simp) rfl rfl rfl rfl rfl ⟨rfl, rfl, rfl, rfl⟩ rfl rfl) rfl ?_; conv => whnf))
      exact EndV.nil 6 106 3 29 rfl rfl (by decide) (endW [106] rfl rfl rfl rfl rfl (LeS.refl _) rfl rfl)
    · rw [if_pos ⟨rfl, hn⟩]
      have c3 := c2 rfl hn
      have hh : (((row.map encVal).length : Int) != ((s.map encCol).length : Int)) = false := by simp; omega
      (conv => whnf); repeat' (first
    | (exact absurd (hh.symm.trans h) Bool.false_ne_true)
    | (refine And.intro ?_ ?_ <;> ((try intro h) <;> (try simp only [Bool.not_true, Bool.not_false, decide_eq_true_eq, decide_eq_false_iff_not, Int.not_lt, Int.not_le, gt_iff_lt, ge_iff_le] at h) <;> first | exact absurd h Bool.false_ne_true | exact absurd h.symm Bool.false_ne_true | conv => whnf))
    | (refine VL.drawS hTb hMix (by kernel_rfl) (by kernel_rfl) (by kernel_rfl) ?_; conv => whnf)
    | (refine Need.mk ?_; kernel_rfl) | (refine Need.mk ⟨rfl, ?_⟩; decide)
    | (refine VR.fun hTb rfl rfl (o_funN (c1) false [] (fun h => by cases h) (by simp) rfl rfl rfl rfl rfl ⟨rfl, rfl, rfl, rfl⟩ rfl rfl) ?_; conv => whnf)
    | (refine DT.fun hTb rfl (o_funN (c1) false [] (fun h => by cases h) (by simp) rfl rfl rfl rfl rfl ⟨rfl, rfl, rfl, rfl⟩ rfl rfl) rfl ?_; conv => whnf)
    | (refine VR.fun hTb rfl rfl (o_funN (c3) false [] (fun h => by cases h) (by simp) rfl rfl rfl rfl rfl ⟨rfl, rfl, rfl, rfl⟩ rfl rfl) ?_; conv => whnf)
    | (refine DT.fun hTb rfl (o_funN (c3) false [] (fun h => by cases h) (by simp) rfl rfl rfl rfl rfl ⟨rfl, rfl, rfl, rfl⟩ rfl rfl) rfl ?_; conv => whnf))
      exact endW [1108] rfl rfl rfl rfl rfl (LeS.refl _) rfl rfl
  · rw [if_neg (fun h => hn h.2)]
    have hh : (((row.map encVal).length : Int) != ((s.map encCol).length : Int)) = true := by simp; omega
    cases b <;> (conv => whnf); repeat' (first
    | (exact absurd (h.symm.trans hh) Bool.false_ne_true)
    | (refine And.intro ?_ ?_ <;> ((try intro h) <;> (try simp only [Bool.not_true, Bool.not_false, decide_eq_true_eq, decide_eq_false_iff_not, Int.not_lt, Int.not_le, gt_iff_lt, ge_iff_le] at h) <;> first | exact absurd h Bool.false_ne_true | exact absurd h.symm Bool.false_ne_true | conv => whnf))
    | (refine VL.drawS hTb hMix (by kernel_rfl) (by kernel_rfl) (by kernel_rfl) ?_; conv => whnf)
    | (refine Need.mk ?_; kernel_rfl) | (refine Need.mk ⟨rfl, ?_⟩; decide)
    | (refine VR.fun hTb rfl rfl (o_funN (c1) false [] (fun h => by cases h) (by simp) rfl rfl rfl rfl rfl ⟨rfl, rfl, rfl, rfl⟩ rfl rfl) ?_; conv => whnf)
    | (refine DT.fun hTb rfl (o_funN (c1) false [] (fun h => by cases h) (by simp) rfl rfl rfl rfl rfl ⟨rfl, rfl, rfl, rfl⟩ rfl rfl) rfl ?_; conv => whnf))
    all_goals exact EndV.nil 6 106 3 29 rfl rfl (by decide) (endW [106] rfl rfl rfl rfl rfl (LeS.refl _) rfl rfl)
theorem c_specRowAll (s : List Col) (list : List Change) (row : List Val) (hl : s.length + list.length ≤ 1900000) (hrl : row.length ≤ 1900000) (hs : mdCols s) (hc : mdChs list) (hr : mdVals row) :
    CallsV Tryd.prog 46 [colsI s, changesI list, valsI row] [] (funQ (.one (.own 0 0 (rwAll s list row).length)) [] [.arr 29 3 ((rwAll s list row).map encVal)]) := by
  have c1 := c_specShapeAll s list hl hs hc
  have hgo := @shAll_go s list
  unfold rwAll
  generalize shAll s list = y at c1 hgo
  obtain ⟨y1, b⟩ := y
  refine funF_walk hTb Tryd.func46 rfl rfl Tryd.ntmps46 (by simp) (by simp) ?_
  by_cases hn : row.length = s.length
  rotate_left
  · rw [if_neg (fun h => hn h.2)]
    have hh : (((row.map encVal).length : Int) != ((s.map encCol).length : Int)) = true := by simp; omega
    cases b <;> (conv => whnf); repeat' (first
    | (exact absurd (h.symm.trans hh) Bool.false_ne_true)
    | (refine And.intro ?_ ?_ <;> ((try intro h) <;> (try simp only [Bool.not_true, Bool.not_false, decide_eq_true_eq, decide_eq_false_iff_not, Int.not_lt, Int.not_le, gt_iff_lt, ge_iff_le] at h) <;> first | exact absurd h Bool.false_ne_true | exact absurd h.symm Bool.false_ne_true | conv => whnf))
    | (refine VL.drawS hTb hMix (by kernel_rfl) (by kernel_rfl) (by kernel_rfl) ?_; conv => whnf)
    | (refine Need.mk ?_; kernel_rfl) | (refine Need.mk ⟨rfl, ?_⟩; decide)
    | (refine VR.fun hTb rfl rfl (o_funN (c1) false [] (fun h => by cases h) (by simp) rfl rfl rfl rfl rfl ⟨rfl, rfl, rfl, rfl⟩ rfl rfl) ?_; conv => whnf)
    | (refine DT.fun hTb rfl (o_funN (c1) false [] (fun h => by cases h) (by simp) rfl rfl rfl rfl rfl ⟨rfl, rfl, rfl, rfl⟩ rfl rfl) rfl ?_; conv => whnf))
    all_goals exact endW [126] rfl rfl rfl rfl rfl (LeS.refl _) rfl rfl
  cases b
  · rw [if_neg (by simp)]
    (conv => whnf); repeat' (first
    | (refine And.intro ?_ ?_ <;> ((try intro h) <;> (try simp only [Bool.not_true, Bool.not_false, decide_eq_true_eq, decide_eq_false_iff_not, Int.not_lt, Int.not_le, gt_iff_lt, ge_iff_le] at h) <;> first | exact absurd h Bool.false_ne_true | exact absurd h.symm Bool.false_ne_true | conv => whnf))
    | (refine VL.drawS hTb hMix (by kernel_rfl) (by kernel_rfl) (by kernel_rfl) ?_; conv => whnf)
    | (refine Need.mk ?_; kernel_rfl) | (refine Need.mk ⟨rfl, ?_⟩; decide)
    | (refine VR.fun hTb rfl rfl (o_funN (c1) false [] (fun h => by cases h) (by simp) rfl rfl rfl rfl rfl ⟨rfl, rfl, rfl, rfl⟩ rfl rfl) ?_; conv => whnf)
    | (refine DT.fun hTb rfl (o_funN (c1) false [] (fun h => by cases h) (by simp) rfl rfl rfl rfl rfl ⟨rfl, rfl, rfl, rfl⟩ rfl rfl) rfl ?_; conv => whnf))
    exact endW [126] rfl rfl rfl rfl rfl (LeS.refl _) rfl rfl
  rw [if_pos ⟨rfl, hn⟩]
  obtain ⟨ho, L, hg⟩ := hgo rfl
  have hh : (((row.map encVal).length : Int) != ((s.map encCol).length : Int)) = false := by simp; omega
  (conv => whnf); repeat' (first
    | (exact absurd (hh.symm.trans h) Bool.false_ne_true)
    | (refine And.intro ?_ ?_ <;> ((try intro h) <;> (try simp only [Bool.not_true, Bool.not_false, decide_eq_true_eq, decide_eq_false_iff_not, Int.not_lt, Int.not_le, gt_iff_lt, ge_iff_le] at h) <;> first | exact absurd h Bool.false_ne_true | exact absurd h.symm Bool.false_ne_true | conv => whnf))
    | (refine VL.drawS hTb hMix (by kernel_rfl) (by kernel_rfl) (by kernel_rfl) ?_; conv => whnf)
    | (refine Need.mk ?_; kernel_rfl) | (refine Need.mk ⟨rfl, ?_⟩; decide)
    | (refine VR.fun hTb rfl rfl (o_funN (c1) false [] (fun h => by cases h) (by simp) rfl rfl rfl rfl rfl ⟨rfl, rfl, rfl, rfl⟩ rfl rfl) ?_; conv => whnf)
    | (refine DT.fun hTb rfl (o_funN (c1) false [] (fun h => by cases h) (by simp) rfl rfl rfl rfl rfl ⟨rfl, rfl, rfl, rfl⟩ rfl rfl) rfl ?_; conv => whnf)
    | (refine VR.opk hTb rfl rfl (o_app0 (f := encVal) (m := row) (q := 129) hTb rfl rfl rfl rfl rfl rfl rfl rfl rfl rfl (by omega) (by show _ * 32 ≤ _; omega) (by unfold maxLen; omega)) ?_; conv => whnf)
    | (refine DT.opk hTb rfl (o_app0 (f := encVal) (m := row) (q := 129) hTb rfl rfl rfl rfl rfl rfl rfl rfl rfl rfl (by omega) (by show _ * 32 ≤ _; omega) (by unfold maxLen; omega)) ?_; conv => whnf))
  refine VL.loopI hTb (α := Nat × List Col × List Val) (fun x => x.1 ≤ list.length ∧ chGo x.2.1 (list.drop x.1) = some L ∧ shapeOk x.2.1 = true ∧ x.2.2.length = x.2.1.length ∧ rwGo s list row = rwGo x.2.1 (list.drop x.1) x.2.2 ∧ mdCols x.2.1 ∧ mdVals x.2.2 ∧ x.2.1.length ≤ s.length + x.1)
    (fun x => ⟨[(0, colsI x.2.1), (1, changesI list), (9, .one (.own 129 0 x.2.2.length)), (10, iS x.1)], [(129, .arr 29 3 (x.2.2.map encVal))], []⟩) (fun x => list.length - x.1) (0, s, row) ⟨Nat.zero_le _, hg, ho, hn, rfl, hs, hr, by simp⟩
    (wk_to [(129, 129)] rfl rfl rfl ⟨rfl, rfl, rfl, rfl, trivial⟩ ⟨rfl, ⟨_, rfl, rfl⟩, trivial⟩) (fun x hx => ?_)
  obtain ⟨i, z, out⟩ := x
  obtain ⟨hi, hf, hzo, hzn, he, hm, hv, hzl⟩ := hx
  simp only at hi hf hzo hzn he hm hv hzl
  (conv => whnf)
  refine And.intro (fun h2 => ?_) (fun h2 => ?_)
  · have hlt : i < list.length := by simpa using h2
    have hrow := rowChange hlt
    have hmc := hc _ (List.getElem_mem hlt)
    obtain ⟨x, _, hx, hxg, hxo, hxn, hxe, hxm, hxv, hxl, hat⟩ := rwGo_inv hlt hf hzo hzn hm hv hc
    have cR := c_l2Row z list[i] out (by omega) (by omega) hm hv hat
    have cX := c_specShapeDo z list[i] (by omega) hm hmc
    rw [hx] at cX
    generalize rwCh z list[i] out = w at cR hxn hxe hxv
    generalize list[i] = ci at hrow cR cX
    obtain ⟨kd, nm, nw, ⟨cn, ck, k1, k2, ⟨d1, d2, d3⟩⟩⟩ := ci
    (conv => whnf); repeat' (first
    | (refine And.intro ?_ ?_ <;> ((try intro h) <;> (try simp only [Bool.not_true, Bool.not_false, decide_eq_true_eq, decide_eq_false_iff_not, Int.not_lt, Int.not_le, gt_iff_lt, ge_iff_le] at h) <;> first | exact absurd h Bool.false_ne_true | exact absurd h.symm Bool.false_ne_true | conv => whnf))
    | (refine VL.drawS hTb hMix (by kernel_rfl) (by kernel_rfl) (by kernel_rfl) ?_; conv => whnf)
    | (refine Need.mk ?_; kernel_rfl) | (refine Need.mk ⟨rfl, ?_⟩; decide)
    | (refine VR.op hTb rfl rfl (o_index_imm hTb rfl rfl rfl rfl rfl rfl rfl (by omega) (hrow)) rfl ?_; conv => whnf)
    | (refine DT.op hTb rfl (o_index_imm hTb rfl rfl rfl rfl rfl rfl rfl (by omega) (hrow)) rfl ?_; conv => whnf)
    | (refine VR.fun hTb rfl rfl (o_funN (cR) true [] (fun _ => grNewVal _ _) (by simp) rfl rfl rfl rfl rfl ⟨rfl, rfl, rfl, rfl⟩ ?_ rfl) ?_; exact congrArg (fun s => [_, _, s]) brw; conv => whnf)
    | (refine DT.fun hTb rfl (o_funN (cR) true [] (fun _ => grNewVal _ _) (by simp) rfl rfl rfl rfl rfl ⟨rfl, rfl, rfl, rfl⟩ ?_ rfl) rfl ?_; exact congrArg (fun s => [_, _, s]) brw; conv => whnf)
    | (refine VR.fun hTb rfl rfl (o_funN (cX) false [] (fun h => by cases h) (by simp) rfl rfl rfl rfl rfl ⟨rfl, rfl, rfl, rfl⟩ rfl rfl) ?_; conv => whnf)
    | (refine DT.fun hTb rfl (o_funN (cX) false [] (fun h => by cases h) (by simp) rfl rfl rfl rfl rfl ⟨rfl, rfl, rfl, rfl⟩ rfl rfl) rfl ?_; conv => whnf))
    exact ⟨(i + 1, x, w), ⟨hlt, hxg, hxo, hxn, he.trans hxe, hxm, hxv, (by show x.length ≤ s.length + (i + 1); omega)⟩, by show _ - (i + 1) < _ - i; omega, (wk_freeze _ 1196 rfl).trans (wk_to [(1168, 129)] rfl rfl rfl ⟨congrArg (fun r => Slot.one (.imm 7 r)) (fzC x), rfl, rfl, congrArg (fun x => Slot.one (.g (.int .i64 x))) (wrap64' (by unfold maxLen; omega)), trivial⟩ ⟨rfl, ⟨_, rfl, rfl⟩, trivial⟩)⟩
  · have hge : list.length ≤ i := by simp at h2; omega
    rw [he, rwGo_end hge]
    (conv => whnf)
    exact endW [129] rfl rfl rfl rfl rfl (LeS.refl _) rfl rfl

theorem chGo_app : ∀ (l1 : List Change) {s : List Col} (l2 : List Change), chGo s (l1 ++ l2) = (chGo s l1).bind fun a => chGo a l2
  | [], s, l2 => rfl
  | c :: l1, s, l2 => by
    simp only [List.cons_append, chGo]
    split
    · exact chGo_app l1 l2
    · rfl
theorem chGo_ok : ∀ {l : List Change} {s a : List Col}, chGo s l = some a → shapeOk s = true → shapeOk a = true
  | [], s, a, h, ho => by cases h; exact ho
  | c :: l, s, a, h, ho => by
    rw [chGo] at h
    split at h
    · rename_i h1; exact chGo_ok h (shDo_ok h1).1
    · cases h
theorem chGo_len : ∀ {l : List Change} {s a : List Col}, chGo s l = some a → a.length ≤ s.length + l.length
  | [], s, a, h => by cases h; simp
  | c :: l, s, a, h => by
    rw [chGo] at h
    split at h
    · have h2 := chGo_len h
      have h3 := @shDo_len s c
      simp only [List.length_cons]; omega
    · cases h
theorem chGo_md : ∀ {l : List Change} {s a : List Col}, chGo s l = some a → mdCols s → mdChs l → mdCols a
  | [], s, a, h, hs, _ => by cases h; exact hs
  | c :: l, s, a, h, hs, hc => by
    rw [chGo] at h
    split at h
    · exact chGo_md h (shDo_md hs (hc c (by simp))) fun x hx => hc x (by simp [hx])
    · cases h
theorem shAll_yes {s a : List Col} {l : List Change} (ho : shapeOk s = true) (h : chGo s l = some a) : shAll s l = (a, true) := by unfold shAll; rw [if_pos ho, h]; rfl
theorem shAll_no {s : List Col} {l : List Change} (h : (shAll s l).2 = false) : shAll s l = ([], false) := by
  unfold shAll at h ⊢
  split
  · rename_i ho
    rw [if_pos ho] at h
    cases e : chGo s l with
    | none => rfl
    | some a => rw [e] at h; cases h
  · rfl
theorem shAll_len (s : List Col) (l : List Change) : (shAll s l).1.length ≤ s.length + l.length := by
  unfold shAll
  split
  · cases e : chGo s l with
    | none => simp [allS]
    | some a => exact chGo_len e
  · simp
theorem shAll_md {s : List Col} {l : List Change} (hs : mdCols s) (hc : mdChs l) : mdCols (shAll s l).1 := by
  unfold shAll
  split
  · cases e : chGo s l with
    | none => exact fun x hx => by cases hx
    | some a => exact chGo_md e hs hc
  · exact fun x hx => by cases hx
theorem take_drop_go {s : List Col} {l : List Change} (k : Nat) : chGo s l = (chGo s (l.take k)).bind fun a => chGo a (l.drop k) := by
  rw [← chGo_app, List.take_append_drop]
theorem shAll_cut {s x : List Col} {l : List Change} (h : shAll s l = (x, true)) (k : Nat) : ∃ a, shAll s (l.take k) = (a, true) ∧ shAll a (l.drop k) = (x, true) ∧ shapeOk x = true ∧ chGo s (l.take k) = some a ∧ chGo a (l.drop k) = some x ∧ shapeOk s = true ∧ shapeOk a = true := by
  obtain ⟨ho, L, hg⟩ := shAll_go (show (shAll s l).2 = true by rw [h])
  have e := shAll_yes ho hg
  rw [h] at e
  obtain rfl : x = L := by simpa using e
  have hg0 := hg
  rw [take_drop_go k] at hg
  cases e1 : chGo s (l.take k) with
  | none => rw [e1] at hg; cases hg
  | some a =>
    rw [e1] at hg
    have hg : chGo a (l.drop k) = some x := hg
    exact ⟨a, shAll_yes ho e1, shAll_yes (chGo_ok e1 ho) hg, chGo_ok hg0 ho, rfl, hg, ho, chGo_ok e1 ho⟩
theorem shAll_cutNo {s : List Col} {l : List Change} (h : (shAll s l).2 = false) (k : Nat) {a b : List Col} (h1 : shAll s (l.take k) = (a, true)) (h2 : shAll a (l.drop k) = (b, true)) : False := by
  obtain ⟨ho, L, hg⟩ := shAll_go (show (shAll s (l.take k)).2 = true by rw [h1])
  have e := shAll_yes ho hg
  rw [h1] at e
  obtain rfl : a = L := by simpa using e
  obtain ⟨_, M, hg2⟩ := shAll_go (show (shAll a (l.drop k)).2 = true by rw [h2])
  have : chGo s l = some M := by rw [take_drop_go k, hg]; exact hg2
  rw [shAll_yes ho this] at h
  cases h
theorem rwGo_app : ∀ (l1 : List Change) {s a : List Col} (l2 : List Change) {row : List Val}, chGo s l1 = some a → rwGo s (l1 ++ l2) row = rwGo a l2 (rwGo s l1 row)
  | [], s, a, l2, row, h => by cases h; rfl
  | c :: l1, s, a, l2, row, h => by
    rw [chGo] at h
    split at h
    · simp only [List.cons_append, rwGo]; exact rwGo_app l1 l2 h
    · cases h
theorem rwGo_len : ∀ {l : List Change} {s a : List Col} {row : List Val}, chGo s l = some a → shapeOk s = true → row.length = s.length → (rwGo s l row).length = a.length
  | [], s, a, row, h, ho, hn => by cases h; exact hn
  | c :: l, s, a, row, h, ho, hn => by
    rw [chGo] at h
    split at h
    · rename_i h1
      have hx : sdo s c = ((shDo s c).1, true) := by rw [sdo_sd ho, ← h1]
      rw [rwGo]
      exact rwGo_len h (shDo_ok h1).1 (rw_len (sdo_done hx) hn)
    · cases h
theorem rwGo_md : ∀ {l : List Change} {s : List Col} {row : List Val}, mdChs l → mdVals row → mdVals (rwGo s l row)
  | [], _, _, _, hr => hr
  | c :: l, s, row, hc, hr => by
    rw [rwGo]
    exact rwGo_md (fun x hx => hc x (by simp [hx])) (rwCh_md (s := s) (hc c (by simp)) hr)
theorem rwAll_yes {s a : List Col} {l : List Change} {row : List Val} (ho : shapeOk s = true) (h : chGo s l = some a) (hn : row.length = s.length) : rwAll s l row = rwGo s l row := by
  unfold rwAll; rw [shAll_yes ho h, if_pos ⟨rfl, hn⟩]
theorem rwAll_no {s : List Col} {l : List Change} {row : List Val} (h : ¬ ((shAll s l).2 = true ∧ row.length = s.length)) : rwAll s l row = [] := by
  unfold rwAll; rw [if_neg h]
theorem mdChs.take {l : List Change} (h : mdChs l) (k : Nat) : mdChs (l.take k) := fun c hc => h c (List.mem_of_mem_take hc)
theorem mdChs.drop {l : List Change} (h : mdChs l) (k : Nat) : mdChs (l.drop k) := fun c hc => h c (List.mem_of_mem_drop hc)
theorem cut_at {n : Nat} (list : List Change) (hl : list.length ≤ 5) : ∃ K : Nat, K ≤ list.length ∧ ((n : Nat) : Int).tmod (IntKind.i64.wrap (((list.map encChange).length : Int) + 1)) = (K : Int) ∧ IntKind.i64.wrap (((list.map encChange).length : Int) + 1) ≠ 0 := by
  have e : IntKind.i64.wrap (((list.map encChange).length : Int) + 1) = (list.length : Int) + 1 := by rw [List.length_map, IntKind.wrap_i64]; omega
  rw [e]
  have h1 := Int.tmod_nonneg ((list.length : Int) + 1) (show (0 : Int) ≤ (n : Int) by omega)
  have h2 := Int.tmod_lt_of_pos (n : Int) (show (0 : Int) < (list.length : Int) + 1 by omega)
  exact ⟨((n : Int).tmod ((list.length : Int) + 1)).toNat, by omega, by omega, by omega⟩
end Go.Vl
