/- Contracts: a row behind several changes; plain laws of these. Contracts: what the reader draws: changes of columns. Contracts: the drawn cases of the laws on one change of columns. Laws: a change that is done once more, or undone. Draws of several changes; laws: changes cut in two, changes swapped. Tables: what a right one is; plain laws of it. Contracts: columns and rows of a table as they are, of both; what must stand once. -/
import Derived.Test.YtdijjjgplhbkkaaGreatDoorJUf
import Derived.Test.YtdijjjgplhbkkaaGreatDoorJUc
import Derived.Test.YtdijjjgplhbkkaaGreatDoorWj
import Derived.Test.YtdijjjgplhbkkaaGreatDoorWl
set_option linter.unusedSimpArgs false
set_option linter.unusedVariables false
set_option linter.unnecessarySimpa false

namespace Go.Vl
open Go Go.RowKit Go.Proofs
set_option maxRecDepth 100000
set_option linter.unusedSimpArgs false
set_option linter.unusedVariables false
set_option linter.unnecessarySimpa false
set_option maxHeartbeats 4000000

def rwGo : List Col → List Change → List Val → List Val
  | _, [], row => row
  | s, c :: cs, row => rwGo (shDo s c).1 cs (rwCh s c row)
theorem rwGo_step {s : List Col} {l : List Change} {row : List Val} {i : Nat} (h : i < l.length) : rwGo s (l.drop i) row = rwGo (shDo s l[i]).1 (l.drop (i + 1)) (rwCh s l[i] row) := by
  rw [List.drop_eq_getElem_cons h, rwGo]
theorem rwGo_end {s : List Col} {l : List Change} {row : List Val} {i : Nat} (h : l.length ≤ i) : rwGo s (l.drop i) row = row := by
  rw [List.drop_of_length_le h, rwGo]
def rwAll (s : List Col) (list : List Change) (row : List Val) : List Val := if (shAll s list).2 = true ∧ row.length = s.length then rwGo s list row else []
theorem shAll_go {s : List Col} {list : List Change} (h : (shAll s list).2 = true) : shapeOk s = true ∧ ∃ L, chGo s list = some L := by
  unfold shAll at h
  split at h
  · refine ⟨by assumption, ?_⟩
    cases e : chGo s list with
    | none => rw [e] at h; cases h
    | some L => exact ⟨L, rfl⟩
  · cases h
theorem chGo_sd {s L : List Col} {l : List Change} {i : Nat} (hi : i < l.length) (h : chGo s (l.drop i) = some L) : (shDo s l[i]).2 = true ∧ chGo (shDo s l[i]).1 (l.drop (i + 1)) = some L := by
  rw [chGo_step hi] at h
  split at h
  · exact ⟨by assumption, h⟩
  · cases h
/-- One step of the loops over the changes. -/
theorem rwGo_inv {s L : List Col} {l : List Change} {row : List Val} {i : Nat} (hi : i < l.length) (h : chGo s (l.drop i) = some L) (ho : shapeOk s = true) (hn : row.length = s.length) (hm : mdCols s) (hr : mdVals row) (hc : mdChs l) :
    ∃ x, shDo s l[i] = (x, true) ∧ sdo s l[i] = (x, true) ∧ chGo x (l.drop (i + 1)) = some L ∧ shapeOk x = true ∧ (rwCh s l[i] row).length = x.length ∧ rwGo s (l.drop i) row = rwGo x (l.drop (i + 1)) (rwCh s l[i] row) ∧ mdCols x ∧ mdVals (rwCh s l[i] row) ∧ x.length ≤ s.length + 1 ∧ chAt s l[i] row.length := by
  obtain ⟨h1, h2⟩ := chGo_sd hi h
  have hmc := hc _ (List.getElem_mem hi)
  refine ⟨(shDo s l[i]).1, by rw [← h1], by rw [sdo_sd ho, ← h1], h2, (shDo_ok h1).1, ?_, rwGo_step hi, shDo_md hm hmc, rwCh_md hmc hr, shDo_len, hn ▸ shDo_at h1⟩
  have hx : sdo s l[i] = ((shDo s l[i]).1, true) := by rw [sdo_sd ho, ← h1]
  exact rw_len (sdo_done hx) hn
theorem c_changeRows (s : List Col) (list : List Change) (row : List Val) {L : List Col} (hl : s.length + list.length ≤ 1900000) (hs : mdCols s) (hc : mdChs list) (hr : mdVals row) (ho : shapeOk s = true) (hg : chGo s list = some L) (hn : row.length = s.length) :
    CallsV Tryz.prog 123 [colsI s, changesI list, valsI row] [] (funQ (.one (.own 0 0 (rwGo s list row).length)) [] [.arr 37 3 ((rwGo s list row).map encVal)]) := by
  refine funF_walk hTb Tryz.func123 rfl rfl Tryz.ntmps123 (by simp) (by simp) ?_
  have c0 := c_cloneVal row (by omega)
  (conv => whnf); repeat' (first
    | (refine And.intro ?_ ?_ <;> ((try intro h) <;> (try simp only [Bool.not_true, Bool.not_false, decide_eq_true_eq, decide_eq_false_iff_not, Int.not_lt, Int.not_le, gt_iff_lt, ge_iff_le] at h) <;> first | exact absurd h Bool.false_ne_true | exact absurd h.symm Bool.false_ne_true | conv => whnf))
    | (refine VL.drawS hTb hMix (by kernel_rfl) (by kernel_rfl) (by kernel_rfl) ?_; conv => whnf)
    | (refine Need.mk ?_; kernel_rfl) | (refine Need.mk ⟨rfl, ?_⟩; decide)
    | (refine VR.fun hTb rfl rfl (o_funN (c0) false [] (fun h => by cases h) (by simp) rfl rfl rfl rfl rfl ⟨rfl, rfl, rfl, rfl⟩ rfl rfl) ?_; conv => whnf)
    | (refine DT.fun hTb rfl (o_funN (c0) false [] (fun h => by cases h) (by simp) rfl rfl rfl rfl rfl ⟨rfl, rfl, rfl, rfl⟩ rfl rfl) rfl ?_; conv => whnf))
  refine VL.loopI hTb (α := Nat × List Col × List Val) (fun x => x.1 ≤ list.length ∧ chGo x.2.1 (list.drop x.1) = some L ∧ shapeOk x.2.1 = true ∧ x.2.2.length = x.2.1.length ∧ rwGo s list row = rwGo x.2.1 (list.drop x.1) x.2.2 ∧ mdCols x.2.1 ∧ mdVals x.2.2 ∧ x.2.1.length ≤ s.length + x.1)
    (fun x => ⟨[(0, colsI x.2.1), (7, .one (.own 1044 0 x.2.2.length)), (12, changesI list), (13, iS ((list.map encChange).length : Nat)), (14, iS x.1)], [(1044, .arr 37 3 (x.2.2.map encVal))], []⟩) (fun x => list.length - x.1) (0, s, row) ⟨Nat.zero_le _, hg, ho, hn, rfl, hs, hr, by simp⟩
    (wk_to [(1044, 1044)] rfl rfl rfl ⟨rfl, rfl, rfl, rfl, rfl, trivial⟩ ⟨rfl, ⟨_, rfl, rfl⟩, trivial⟩) (fun x hx => ?_)
  obtain ⟨i, z, out⟩ := x
  obtain ⟨hi, hf, hzo, hzn, he, hm, hv, hzl⟩ := hx
  simp only at hi hf hzo hzn he hm hv hzl
  (conv => whnf)
  refine And.intro (fun h2 => ?_) (fun h2 => ?_)
  · have hlt : i < list.length := by simpa using h2
    have hrow := rowChange hlt
    have hmc := hc _ (List.getElem_mem hlt)
    obtain ⟨x, hx, _, hxg, hxo, hxn, hxe, hxm, hxv, hxl, hat⟩ := rwGo_inv hlt hf hzo hzn hm hv hc
    have cR := c_changeRow z list[i] out (by omega) (by omega) hm hv hat
    have cX := c_change z list[i] (by omega) hm hmc
    rw [hx] at cX
    generalize rwCh z list[i] out = w at cR hxn hxe hxv
    generalize list[i] = ci at hrow cR cX
    obtain ⟨kd, nm, nw, ⟨cn, ck, k1, k2, ⟨d1, d2, d3⟩⟩⟩ := ci
    (conv => whnf); repeat' (first
    | (refine And.intro ?_ ?_ <;> ((try intro h) <;> (try simp only [Bool.not_true, Bool.not_false, decide_eq_true_eq, decide_eq_false_iff_not, Int.not_lt, Int.not_le, gt_iff_lt, ge_iff_le] at h) <;> first | exact absurd h Bool.false_ne_true | exact absurd h.symm Bool.false_ne_true | conv => whnf))
    | (refine VL.drawS hTb hMix (by kernel_rfl) (by kernel_rfl) (by kernel_rfl) ?_; conv => whnf)
    | (refine Need.mk ?_; kernel_rfl) | (refine Need.mk ⟨rfl, ?_⟩; decide)
    | (refine VR.op hTb rfl rfl (o_index_imm hTb rfl rfl rfl rfl rfl rfl rfl (by omega) (hrow)) rfl ?_; conv => whnf)
    | (refine DT.op hTb rfl (o_index_imm hTb rfl rfl rfl rfl rfl rfl rfl (by omega) (hrow)) rfl ?_; conv => whnf)
    | (refine VR.fun hTb rfl rfl (o_funN (cR) true [] (fun _ => grNewVal _ _) (by simp) rfl rfl rfl rfl rfl ⟨rfl, rfl, rfl, rfl⟩ ?_ rfl) ?_; exact congrArg (fun s => [_, _, s]) brw; conv => whnf)
    | (refine DT.fun hTb rfl (o_funN (cR) true [] (fun _ => grNewVal _ _) (by simp) rfl rfl rfl rfl rfl ⟨rfl, rfl, rfl, rfl⟩ ?_ rfl) rfl ?_; exact congrArg (fun s => [_, _, s]) brw; conv => whnf)
    | (refine VR.fun hTb rfl rfl (o_funN (cX) false [] (fun h => by cases h) (by simp) rfl rfl rfl rfl rfl ⟨rfl, rfl, rfl, rfl⟩ rfl rfl) ?_; conv => whnf)
    | (refine DT.fun hTb rfl (o_funN (cX) false [] (fun h => by cases h) (by simp) rfl rfl rfl rfl rfl ⟨rfl, rfl, rfl, rfl⟩ rfl rfl) rfl ?_; conv => whnf))
    exact ⟨(i + 1, x, w), ⟨hlt, hxg, hxo, hxn, he.trans hxe, hxm, hxv, (by show x.length ≤ s.length + (i + 1); omega)⟩, by show _ - (i + 1) < _ - i; omega, (wk_freeze _ 1100 rfl).trans (wk_to [(1084, 1044)] rfl rfl rfl ⟨congrArg (fun r => Slot.one (.imm 7 r)) (fzC x), rfl, rfl, rfl, congrArg (fun x => Slot.one (.g (.int .i64 x))) (wrap64' (by unfold maxLen; omega)), trivial⟩ ⟨rfl, ⟨_, rfl, rfl⟩, trivial⟩)⟩
  · have hge : list.length ≤ i := by simp at h2; omega
    rw [he, rwGo_end hge]
    (conv => whnf)
    exact endW [1044] rfl rfl rfl rfl rfl (LeS.refl _) rfl rfl
theorem c_specRowAll (s : List Col) (list : List Change) (row : List Val) (hl : s.length + list.length ≤ 1900000) (hrl : row.length ≤ 1900000) (hs : mdCols s) (hc : mdChs list) (hr : mdVals row) :
    CallsV Tryz.prog 128 [colsI s, changesI list, valsI row] [] (funQ (.one (.own 0 0 (rwAll s list row).length)) [] [.arr 37 3 ((rwAll s list row).map encVal)]) := by
  have c1 := c_specShapeAll s list hl hs hc
  have hgo := @shAll_go s list
  unfold rwAll
  generalize shAll s list = y at c1 hgo
  obtain ⟨y1, b⟩ := y
  refine funF_walk hTb Tryz.func128 rfl rfl Tryz.ntmps128 (by simp) (by simp) ?_
  by_cases hn : row.length = s.length
  rotate_left
  · rw [if_neg (fun h => hn h.2)]
    have hh : (((row.map encVal).length : Int) != ((s.map encCol).length : Int)) = true := by simp; omega
    cases b <;> (conv => whnf); repeat' (first
    | (exact absurd (h.symm.trans hh) Bool.false_ne_true)
    | (refine And.intro ?_ ?_ <;> ((try intro h) <;> (try simp only [Bool.not_true, Bool.not_false, decide_eq_true_eq, decide_eq_false_iff_not, Int.not_lt, Int.not_le, gt_iff_lt, ge_iff_le] at h) <;> first | exact absurd h Bool.false_ne_true | exact absurd h.symm Bool.false_ne_true | conv => whnf))
    | (refine VL.drawS hTb hMix (by kernel_rfl) (by kernel_rfl) (by kernel_rfl) ?_; conv => whnf)
    | (refine Need.mk ?_; kernel_rfl) | (refine Need.mk ⟨rfl, ?_⟩; decide)
    | (refine VR.fun hTb rfl rfl (o_funN (c1) false [] (fun h => by cases h) (by simp) rfl rfl rfl rfl rfl ⟨rfl, rfl, rfl, rfl⟩ rfl rfl) ?_; conv => whnf)
    | (refine DT.fun hTb rfl (o_funN (c1) false [] (fun h => by cases h) (by simp) rfl rfl rfl rfl rfl ⟨rfl, rfl, rfl, rfl⟩ rfl rfl) rfl ?_; conv => whnf))
    all_goals exact endW [126] rfl rfl rfl rfl rfl (LeS.refl _) rfl rfl
  cases b
  · rw [if_neg (by simp)]
    (conv => whnf); repeat' (first
    | (refine And.intro ?_ ?_ <;> ((try intro h) <;> (try simp only [Bool.not_true, Bool.not_false, decide_eq_true_eq, decide_eq_false_iff_not, Int.not_lt, Int.not_le, gt_iff_lt, ge_iff_le] at h) <;> first | exact absurd h Bool.false_ne_true | exact absurd h.symm Bool.false_ne_true | conv => whnf))
    | (refine VL.drawS hTb hMix (by kernel_rfl) (by kernel_rfl) (by kernel_rfl) ?_; conv => whnf)
    | (refine Need.mk ?_; kernel_rfl) | (refine Need.mk ⟨rfl, ?_⟩; decide)
    | (refine VR.fun hTb rfl rfl (o_funN (c1) false [] (fun h => by cases h) (by simp) rfl rfl rfl rfl rfl ⟨rfl, rfl, rfl, rfl⟩ rfl rfl) ?_; conv => whnf)
    | (refine DT.fun hTb rfl (o_funN (c1) false [] (fun h => by cases h) (by simp) rfl rfl rfl rfl rfl ⟨rfl, rfl, rfl, rfl⟩ rfl rfl) rfl ?_; conv => whnf))
    exact endW [126] rfl rfl rfl rfl rfl (LeS.refl _) rfl rfl
  rw [if_pos ⟨rfl, hn⟩]
  obtain ⟨ho, L, hg⟩ := hgo rfl
  have hh : (((row.map encVal).length : Int) != ((s.map encCol).length : Int)) = false := by simp; omega
  (conv => whnf); repeat' (first
    | (exact absurd (hh.symm.trans h) Bool.false_ne_true)
    | (refine And.intro ?_ ?_ <;> ((try intro h) <;> (try simp only [Bool.not_true, Bool.not_false, decide_eq_true_eq, decide_eq_false_iff_not, Int.not_lt, Int.not_le, gt_iff_lt, ge_iff_le] at h) <;> first | exact absurd h Bool.false_ne_true | exact absurd h.symm Bool.false_ne_true | conv => whnf))
    | (refine VL.drawS hTb hMix (by kernel_rfl) (by kernel_rfl) (by kernel_rfl) ?_; conv => whnf)
    | (refine Need.mk ?_; kernel_rfl) | (refine Need.mk ⟨rfl, ?_⟩; decide)
    | (refine VR.fun hTb rfl rfl (o_funN (c1) false [] (fun h => by cases h) (by simp) rfl rfl rfl rfl rfl ⟨rfl, rfl, rfl, rfl⟩ rfl rfl) ?_; conv => whnf)
    | (refine DT.fun hTb rfl (o_funN (c1) false [] (fun h => by cases h) (by simp) rfl rfl rfl rfl rfl ⟨rfl, rfl, rfl, rfl⟩ rfl rfl) rfl ?_; conv => whnf)
    | (refine VR.opk hTb rfl rfl (o_app0 (f := encVal) (m := row) (q := 129) hTb rfl rfl rfl rfl rfl rfl rfl rfl rfl rfl (by omega) (by show _ * 32 ≤ _; omega) (by unfold maxLen; omega)) ?_; conv => whnf)
    | (refine DT.opk hTb rfl (o_app0 (f := encVal) (m := row) (q := 129) hTb rfl rfl rfl rfl rfl rfl rfl rfl rfl rfl (by omega) (by show _ * 32 ≤ _; omega) (by unfold maxLen; omega)) ?_; conv => whnf))
  refine VL.loopI hTb (α := Nat × List Col × List Val) (fun x => x.1 ≤ list.length ∧ chGo x.2.1 (list.drop x.1) = some L ∧ shapeOk x.2.1 = true ∧ x.2.2.length = x.2.1.length ∧ rwGo s list row = rwGo x.2.1 (list.drop x.1) x.2.2 ∧ mdCols x.2.1 ∧ mdVals x.2.2 ∧ x.2.1.length ≤ s.length + x.1)
    (fun x => ⟨[(0, colsI x.2.1), (1, changesI list), (9, .one (.own 129 0 x.2.2.length)), (10, iS x.1)], [(129, .arr 37 3 (x.2.2.map encVal))], []⟩) (fun x => list.length - x.1) (0, s, row) ⟨Nat.zero_le _, hg, ho, hn, rfl, hs, hr, by simp⟩
    (wk_to [(129, 129)] rfl rfl rfl ⟨rfl, rfl, rfl, rfl, trivial⟩ ⟨rfl, ⟨_, rfl, rfl⟩, trivial⟩) (fun x hx => ?_)
  obtain ⟨i, z, out⟩ := x
  obtain ⟨hi, hf, hzo, hzn, he, hm, hv, hzl⟩ := hx
  simp only at hi hf hzo hzn he hm hv hzl
  (conv => whnf)
  refine And.intro (fun h2 => ?_) (fun h2 => ?_)
  · have hlt : i < list.length := by simpa using h2
    have hrow := rowChange hlt
    have hmc := hc _ (List.getElem_mem hlt)
    obtain ⟨x, _, hx, hxg, hxo, hxn, hxe, hxm, hxv, hxl, hat⟩ := rwGo_inv hlt hf hzo hzn hm hv hc
    have cR := c_l2Row z list[i] out (by omega) (by omega) hm hv hat
    have cX := c_specShapeDo z list[i] (by omega) hm hmc
    rw [hx] at cX
    generalize rwCh z list[i] out = w at cR hxn hxe hxv
    generalize list[i] = ci at hrow cR cX
    obtain ⟨kd, nm, nw, ⟨cn, ck, k1, k2, ⟨d1, d2, d3⟩⟩⟩ := ci
    (conv => whnf); repeat' (first
    | (refine And.intro ?_ ?_ <;> ((try intro h) <;> (try simp only [Bool.not_true, Bool.not_false, decide_eq_true_eq, decide_eq_false_iff_not, Int.not_lt, Int.not_le, gt_iff_lt, ge_iff_le] at h) <;> first | exact absurd h Bool.false_ne_true | exact absurd h.symm Bool.false_ne_true | conv => whnf))
    | (refine VL.drawS hTb hMix (by kernel_rfl) (by kernel_rfl) (by kernel_rfl) ?_; conv => whnf)
    | (refine Need.mk ?_; kernel_rfl) | (refine Need.mk ⟨rfl, ?_⟩; decide)
    | (refine VR.op hTb rfl rfl (o_index_imm hTb rfl rfl rfl rfl rfl rfl rfl (by omega) (hrow)) rfl ?_; conv => whnf)
    | (refine DT.op hTb rfl (o_index_imm hTb rfl rfl rfl rfl rfl rfl rfl (by omega) (hrow)) rfl ?_; conv => whnf)
    | (refine VR.fun hTb rfl rfl (o_funN (cR) true [] (fun _ => grNewVal _ _) (by simp) rfl rfl rfl rfl rfl ⟨rfl, rfl, rfl, rfl⟩ ?_ rfl) ?_; exact congrArg (fun s => [_, _, s]) brw; conv => whnf)
    | (refine DT.fun hTb rfl (o_funN (cR) true [] (fun _ => grNewVal _ _) (by simp) rfl rfl rfl rfl rfl ⟨rfl, rfl, rfl, rfl⟩ ?_ rfl) rfl ?_; exact congrArg (fun s => [_, _, s]) brw; conv => whnf)
    | (refine VR.fun hTb rfl rfl (o_funN (cX) false [] (fun h => by cases h) (by simp) rfl rfl rfl rfl rfl ⟨rfl, rfl, rfl, rfl⟩ rfl rfl) ?_; conv => whnf)
    | (refine DT.fun hTb rfl (o_funN (cX) false [] (fun h => by cases h) (by simp) rfl rfl rfl rfl rfl ⟨rfl, rfl, rfl, rfl⟩ rfl rfl) rfl ?_; conv => whnf))
    exact ⟨(i + 1, x, w), ⟨hlt, hxg, hxo, hxn, he.trans hxe, hxm, hxv, (by show x.length ≤ s.length + (i + 1); omega)⟩, by show _ - (i + 1) < _ - i; omega, (wk_freeze _ 1196 rfl).trans (wk_to [(1168, 129)] rfl rfl rfl ⟨congrArg (fun r => Slot.one (.imm 7 r)) (fzC x), rfl, rfl, congrArg (fun x => Slot.one (.g (.int .i64 x))) (wrap64' (by unfold maxLen; omega)), trivial⟩ ⟨rfl, ⟨_, rfl, rfl⟩, trivial⟩)⟩
  · have hge : list.length ≤ i := by simp at h2; omega
    rw [he, rwGo_end hge]
    (conv => whnf)
    exact endW [129] rfl rfl rfl rfl rfl (LeS.refl _) rfl rfl

theorem chGo_app : ∀ (l1 : List Change) {s : List Col} (l2 : List Change), chGo s (l1 ++ l2) = (chGo s l1).bind fun a => chGo a l2
  | [], s, l2 => rfl
  | c :: l1, s, l2 => by
    simp only [List.cons_append, chGo]
    split
    · exact chGo_app l1 l2
    · rfl
theorem chGo_ok : ∀ {l : List Change} {s a : List Col}, chGo s l = some a → shapeOk s = true → shapeOk a = true
  | [], s, a, h, ho => by cases h; exact ho
  | c :: l, s, a, h, ho => by
    rw [chGo] at h
    split at h
    · rename_i h1; exact chGo_ok h (shDo_ok h1).1
    · cases h
theorem chGo_len : ∀ {l : List Change} {s a : List Col}, chGo s l = some a → a.length ≤ s.length + l.length
  | [], s, a, h => by cases h; simp
  | c :: l, s, a, h => by
    rw [chGo] at h
    split at h
    · have h2 := chGo_len h
      have h3 := @shDo_len s c
      simp only [List.length_cons]; omega
    · cases h
theorem chGo_md : ∀ {l : List Change} {s a : List Col}, chGo s l = some a → mdCols s → mdChs l → mdCols a
  | [], s, a, h, hs, _ => by cases h; exact hs
  | c :: l, s, a, h, hs, hc => by
    rw [chGo] at h
    split at h
    · exact chGo_md h (shDo_md hs (hc c (by simp))) fun x hx => hc x (by simp [hx])
    · cases h
theorem shAll_yes {s a : List Col} {l : List Change} (ho : shapeOk s = true) (h : chGo s l = some a) : shAll s l = (a, true) := by unfold shAll; rw [if_pos ho, h]; rfl
theorem shAll_no {s : List Col} {l : List Change} (h : (shAll s l).2 = false) : shAll s l = ([], false) := by
  unfold shAll at h ⊢
  split
  · rename_i ho
    rw [if_pos ho] at h
    cases e : chGo s l with
    | none => rfl
    | some a => rw [e] at h; cases h
  · rfl
theorem shAll_len (s : List Col) (l : List Change) : (shAll s l).1.length ≤ s.length + l.length := by
  unfold shAll
  split
  · cases e : chGo s l with
    | none => simp [allS]
    | some a => exact chGo_len e
  · simp
theorem shAll_md {s : List Col} {l : List Change} (hs : mdCols s) (hc : mdChs l) : mdCols (shAll s l).1 := by
  unfold shAll
  split
  · cases e : chGo s l with
    | none => exact fun x hx => by cases hx
    | some a => exact chGo_md e hs hc
  · exact fun x hx => by cases hx
theorem take_drop_go {s : List Col} {l : List Change} (k : Nat) : chGo s l = (chGo s (l.take k)).bind fun a => chGo a (l.drop k) := by
  rw [← chGo_app, List.take_append_drop]
theorem shAll_cut {s x : List Col} {l : List Change} (h : shAll s l = (x, true)) (k : Nat) : ∃ a, shAll s (l.take k) = (a, true) ∧ shAll a (l.drop k) = (x, true) ∧ shapeOk x = true ∧ chGo s (l.take k) = some a ∧ chGo a (l.drop k) = some x ∧ shapeOk s = true ∧ shapeOk a = true := by
  obtain ⟨ho, L, hg⟩ := shAll_go (show (shAll s l).2 = true by rw [h])
  have e := shAll_yes ho hg
  rw [h] at e
  obtain rfl : x = L := by simpa using e
  have hg0 := hg
  rw [take_drop_go k] at hg
  cases e1 : chGo s (l.take k) with
  | none => rw [e1] at hg; cases hg
  | some a =>
    rw [e1] at hg
    have hg : chGo a (l.drop k) = some x := hg
    exact ⟨a, shAll_yes ho e1, shAll_yes (chGo_ok e1 ho) hg, chGo_ok hg0 ho, rfl, hg, ho, chGo_ok e1 ho⟩
theorem rwGo_len : ∀ {l : List Change} {s a : List Col} {row : List Val}, chGo s l = some a → shapeOk s = true → row.length = s.length → (rwGo s l row).length = a.length
  | [], s, a, row, h, ho, hn => by cases h; exact hn
  | c :: l, s, a, row, h, ho, hn => by
    rw [chGo] at h
    split at h
    · rename_i h1
      have hx : sdo s c = ((shDo s c).1, true) := by rw [sdo_sd ho, ← h1]
      rw [rwGo]
      exact rwGo_len h (shDo_ok h1).1 (rw_len (sdo_done hx) hn)
    · cases h
theorem rwGo_md : ∀ {l : List Change} {s : List Col} {row : List Val}, mdChs l → mdVals row → mdVals (rwGo s l row)
  | [], _, _, _, hr => hr
  | c :: l, s, row, hc, hr => by
    rw [rwGo]
    exact rwGo_md (fun x hx => hc x (by simp [hx])) (rwCh_md (s := s) (hc c (by simp)) hr)
theorem rwAll_yes {s a : List Col} {l : List Change} {row : List Val} (ho : shapeOk s = true) (h : chGo s l = some a) (hn : row.length = s.length) : rwAll s l row = rwGo s l row := by
  unfold rwAll; rw [shAll_yes ho h, if_pos ⟨rfl, hn⟩]
theorem mdChs.take {l : List Change} (h : mdChs l) (k : Nat) : mdChs (l.take k) := fun c hc => h c (List.mem_of_mem_take hc)
theorem mdChs.drop {l : List Change} (h : mdChs l) (k : Nat) : mdChs (l.drop k) := fun c hc => h c (List.mem_of_mem_drop hc)
end Go.Vl

namespace Go.Vl
open Go Go.RowKit Go.Proofs
set_option maxRecDepth 100000
set_option linter.unusedSimpArgs false
set_option linter.unusedVariables false
set_option linter.unnecessarySimpa false
set_option maxHeartbeats 8000000

def Change.sml (c : Change) : Prop := c.name.size ≤ 8 ∧ c.new.size ≤ 8 ∧ c.col.name.size ≤ 8 ∧ c.col.d.t.size ≤ 8
theorem Change.sml.md {c : Change} (h : c.sml) : c.md := ⟨by have := h.1; omega, by have := h.2.1; omega, by have := h.2.2.1; omega, by have := h.2.2.2; omega⟩
theorem smlCols.md {l : List Col} (h : smlCols l) : mdCols l := fun c hc => ⟨by have := (h c hc).1; omega, by have := (h c hc).2; omega⟩
theorem smlVals.md {l : List Val} (h : smlVals l) : mdVals l := fun c hc => by have : c.t.size ≤ 8 := h c hc; show c.t.size ≤ _; omega
theorem rowD {s : List Col} {z : Int} (h0 : 0 ≤ z) (h1 : z < s.length) : (s.map encCol)[z.toNat]? = some [.g (.string (s.getD z.toNat (kCol 0)).name), .g (.int .i64 (s.getD z.toNat (kCol 0)).kind), .g (.bool (s.getD z.toNat (kCol 0)).need), .g (.bool (s.getD z.toNat (kCol 0)).once), .g (.int .i64 (s.getD z.toNat (kCol 0)).d.k), .g (.int .i64 (s.getD z.toNat (kCol 0)).d.n), .g (.string (s.getD z.toNat (kCol 0)).d.t)] := by
  have hz : z.toNat < s.length := by omega
  have e : s.getD z.toNat (kCol 0) = s[z.toNat] := by simp [List.getD, hz]
  rw [e, List.getElem?_map, List.getElem?_eq_getElem hz]
  generalize s[z.toNat] = c
  obtain ⟨a1, a2, a3, a4, ⟨a5, a6, a7⟩⟩ := c
  rfl
theorem sml_getD {s : List Col} (h : smlCols s) (i : Nat) : (s.getD i (kCol 0)).name.size ≤ 8 := by
  by_cases hi : i < s.length
  · have e : s.getD i (kCol 0) = s[i] := by simp [List.getD, hi]
    rw [e]; exact (h _ (List.getElem_mem hi)).1
  · have e : s.getD i (kCol 0) = kCol 0 := by simp [List.getD, Nat.le_of_not_lt hi]
    rw [e]; show (⟨#[]⟩ : ByteArray).size ≤ 8; decide
theorem nameAt_lt (s : List Col) (nm : ByteArray) : nameAt s nm < s.length ∧ -1 ≤ nameAt s nm := by
  rcases nameAt_spec s nm with ⟨h, _⟩ | ⟨j, hj, h, _⟩ <;> omega
theorem c_l2Change {bs : List Int} (hb : BOk bs) (p : Nat) (s : List Col) (hs : smlCols s) (hl : s.length ≤ 1000) (hp : p ≤ 1099511400000) : CallsV Tryz.prog 139 [rdS, colsI s] [rdO bs p]
    (relQ (fun y : Change × Nat => y.1.sml ∧ y.2 ≤ p + 20) (fun y => .agg (encChange y.1)) (fun y => [some (rdO bs y.2)]) (fun _ => [])) := by
  have e0 := bs0
  have hml : (s.map encCol).length = s.length := List.length_map _
  refine funF_walk hTb Tryz.func139 rfl rfl Tryz.ntmps139 (by simp) (by simp) ?_
  (conv => whnf); repeat' (first
    | (refine And.intro ?_ ?_ <;> ((try intro h) <;> (try simp only [Bool.not_true, Bool.not_false, decide_eq_true_eq, decide_eq_false_iff_not, Int.not_lt, Int.not_le, gt_iff_lt, ge_iff_le] at h) <;> first | exact absurd h Bool.false_ne_true | exact absurd h.symm Bool.false_ne_true | conv => whnf))
    | (refine VL.drawS hTb hMix (by kernel_rfl) (by kernel_rfl) (by kernel_rfl) ?_; conv => whnf)
    | (refine Need.mk ?_; kernel_rfl) | (refine Need.mk ⟨rfl, ?_⟩; decide)
    | (refine VR.rel hTb rfl rfl (o_relN (c_l2Names) false [] (fun _ _ => ⟨by simp, fun h => by cases h⟩) rfl rfl rfl rfl rfl ⟨rfl, rfl, rfl, rfl⟩ rfl rfl) ?_; rintro rows hrows; (try simp only at hrows); conv => whnf)
    | (refine DT.rel hTb rfl (o_relN (c_l2Names) false [] (fun _ _ => ⟨by simp, fun h => by cases h⟩) rfl rfl rfl rfl rfl ⟨rfl, rfl, rfl, rfl⟩ rfl rfl) [] (by kernel_rfl) (by kernel_rfl) ?_; rintro rows hrows; (try simp only at hrows); refine And.intro rfl (And.intro rfl ?_); conv => whnf)
    | (refine VR.rel hTb rfl rfl (o_relN (c_ofI hb _ _ (fun t => t.size ≤ 8) hrows.1 hrows.2 (by omega)) false [0] (fun _ _ => ⟨by simp, fun h => by cases h⟩) rfl rfl rfl rfl rfl ⟨rfl, rfl, rfl, rfl⟩ rfl rfl) ?_; rintro nm hnm; (try simp only at hnm); conv => whnf)
    | (refine DT.rel hTb rfl (o_relN (c_ofI hb _ _ (fun t => t.size ≤ 8) hrows.1 hrows.2 (by omega)) false [0] (fun _ _ => ⟨by simp, fun h => by cases h⟩) rfl rfl rfl rfl rfl ⟨rfl, rfl, rfl, rfl⟩ rfl rfl) [0] (by kernel_rfl) (by kernel_rfl) ?_; rintro nm hnm; (try simp only at hnm); refine And.intro rfl (And.intro rfl ?_); conv => whnf)
    | (refine VR.rel hTb rfl rfl (o_relN (c_pick hb _ _ (by omega)) false [0] (fun _ _ => ⟨by simp, fun h => by cases h⟩) rfl rfl rfl rfl rfl ⟨rfl, rfl, rfl, rfl⟩ rfl rfl) ?_; intro y hy; conv => whnf)
    | (refine DT.rel hTb rfl (o_relN (c_pick hb _ _ (by omega)) false [0] (fun _ _ => ⟨by simp, fun h => by cases h⟩) rfl rfl rfl rfl rfl ⟨rfl, rfl, rfl, rfl⟩ rfl rfl) [0] (by kernel_rfl) (by kernel_rfl) ?_; intro y hy; refine And.intro rfl (And.intro rfl ?_); conv => whnf)
    | (refine VR.op hTb rfl rfl (o_index_imm hTb rfl rfl rfl rfl rfl rfl rfl (by omega) (rowD (by omega) (by omega))) rfl ?_; conv => whnf)
    | (refine DT.op hTb rfl (o_index_imm hTb rfl rfl rfl rfl rfl rfl rfl (by omega) (rowD (by omega) (by omega))) rfl ?_; conv => whnf)
    | (refine VR.rel hTb rfl rfl (o_relN (c_l2Col hb _ _ hnm (by omega)) false [0] (fun _ _ => ⟨by simp, fun h => by cases h⟩) rfl rfl rfl rfl rfl ⟨rfl, rfl, rfl, rfl⟩ rfl rfl) ?_; rintro ⟨⟨cn, ck, c1, c2, ⟨c3, c4, c5⟩⟩, q2⟩ hc; (try simp only at hc); conv => whnf)
    | (refine DT.rel hTb rfl (o_relN (c_l2Col hb _ _ hnm (by omega)) false [0] (fun _ _ => ⟨by simp, fun h => by cases h⟩) rfl rfl rfl rfl rfl ⟨rfl, rfl, rfl, rfl⟩ rfl rfl) [0] (by kernel_rfl) (by kernel_rfl) ?_; rintro ⟨⟨cn, ck, c1, c2, ⟨c3, c4, c5⟩⟩, q2⟩ hc; (try simp only at hc); refine And.intro rfl (And.intro rfl ?_); conv => whnf)
    | (refine VR.rel hTb rfl rfl (o_relN (c_of hb _ _ _ (fun t => t.size ≤ 8) (by simp [strRows]; decide) (by simp) (by omega)) false [0, 163] (fun _ _ => ⟨by simp, fun h => by cases h⟩) rfl rfl rfl rfl rfl ⟨rfl, rfl, rfl, rfl⟩ rfl rfl) ?_; rintro tx htx; (try simp only at htx); conv => whnf)
    | (refine DT.rel hTb rfl (o_relN (c_of hb _ _ _ (fun t => t.size ≤ 8) (by simp [strRows]; decide) (by simp) (by omega)) false [0, 163] (fun _ _ => ⟨by simp, fun h => by cases h⟩) rfl rfl rfl rfl rfl ⟨rfl, rfl, rfl, rfl⟩ rfl rfl) [0, 163] (by kernel_rfl) (by kernel_rfl) ?_; rintro tx htx; (try simp only at htx); refine And.intro rfl (And.intro rfl ?_); conv => whnf)
    | (refine VR.rel hTb rfl rfl (o_relN (c_num hb _ _ _ (fun _ => True) (by simp [intRows]) (by simp) (by omega)) false [0, 196] (fun _ _ => ⟨by simp, fun h => by cases h⟩) rfl rfl rfl rfl rfl ⟨rfl, rfl, rfl, rfl⟩ rfl rfl) ?_; intro y hy; conv => whnf)
    | (refine DT.rel hTb rfl (o_relN (c_num hb _ _ _ (fun _ => True) (by simp [intRows]) (by simp) (by omega)) false [0, 196] (fun _ _ => ⟨by simp, fun h => by cases h⟩) rfl rfl rfl rfl rfl ⟨rfl, rfl, rfl, rfl⟩ rfl rfl) [0, 196] (by kernel_rfl) (by kernel_rfl) ?_; intro y hy; refine And.intro rfl (And.intro rfl ?_); conv => whnf)
    | (refine VR.rel hTb rfl rfl (o_relN (c_of hb _ _ _ (fun t => t.size ≤ 8) (by simp [strRows]; decide) (by simp) (by omega)) false [0, 202] (fun _ _ => ⟨by simp, fun h => by cases h⟩) rfl rfl rfl rfl rfl ⟨rfl, rfl, rfl, rfl⟩ rfl rfl) ?_; rintro tx htx; (try simp only at htx); conv => whnf)
    | (refine DT.rel hTb rfl (o_relN (c_of hb _ _ _ (fun t => t.size ≤ 8) (by simp [strRows]; decide) (by simp) (by omega)) false [0, 202] (fun _ _ => ⟨by simp, fun h => by cases h⟩) rfl rfl rfl rfl rfl ⟨rfl, rfl, rfl, rfl⟩ rfl rfl) [0, 202] (by kernel_rfl) (by kernel_rfl) ?_; rintro tx htx; (try simp only at htx); refine And.intro rfl (And.intro rfl ?_); conv => whnf)
    | (refine VR.rel hTb rfl rfl (o_relN (c_of hb _ _ _ (fun t => t.size ≤ 8) (by simp [strRows]; decide) (by simp) (by omega)) false [0, 208] (fun _ _ => ⟨by simp, fun h => by cases h⟩) rfl rfl rfl rfl rfl ⟨rfl, rfl, rfl, rfl⟩ rfl rfl) ?_; rintro tx htx; (try simp only at htx); conv => whnf)
    | (refine DT.rel hTb rfl (o_relN (c_of hb _ _ _ (fun t => t.size ≤ 8) (by simp [strRows]; decide) (by simp) (by omega)) false [0, 208] (fun _ _ => ⟨by simp, fun h => by cases h⟩) rfl rfl rfl rfl rfl ⟨rfl, rfl, rfl, rfl⟩ rfl rfl) [0, 208] (by kernel_rfl) (by kernel_rfl) ?_; rintro tx htx; (try simp only at htx); refine And.intro rfl (And.intro rfl ?_); conv => whnf)
    | (refine VR.rel hTb rfl rfl (o_relN (c_num hb _ _ _ (fun _ => True) (by simp [intRows]) (by simp) (by omega)) false [0, 214] (fun _ _ => ⟨by simp, fun h => by cases h⟩) rfl rfl rfl rfl rfl ⟨rfl, rfl, rfl, rfl⟩ rfl rfl) ?_; intro y hy; conv => whnf)
    | (refine DT.rel hTb rfl (o_relN (c_num hb _ _ _ (fun _ => True) (by simp [intRows]) (by simp) (by omega)) false [0, 214] (fun _ _ => ⟨by simp, fun h => by cases h⟩) rfl rfl rfl rfl rfl ⟨rfl, rfl, rfl, rfl⟩ rfl rfl) [0, 214] (by kernel_rfl) (by kernel_rfl) ?_; intro y hy; refine And.intro rfl (And.intro rfl ?_); conv => whnf)
    | (refine VR.pure hTb rfl rfl (o_purN (c_l2At s _ (by unfold maxLen; omega)) rfl rfl rfl ⟨rfl, rfl, rfl, rfl⟩ rfl) ?_; conv => whnf)
    | (refine DT.pure hTb rfl (o_purN (c_l2At s _ (by unfold maxLen; omega)) rfl rfl rfl ⟨rfl, rfl, rfl, rfl⟩ rfl) ?_; conv => whnf)
    | (refine VR.op hTb rfl rfl (o_index_imm hTb rfl rfl rfl rfl rfl rfl rfl (by omega) (rowD (by omega) (nameAt_lt s _).1)) rfl ?_; conv => whnf)
    | (refine DT.op hTb rfl (o_index_imm hTb rfl rfl rfl rfl rfl rfl rfl (by omega) (rowD (by omega) (nameAt_lt s _).1)) rfl ?_; conv => whnf))
  all_goals first
    | refine endR [] (⟨_, _, _, ⟨_, _, _, _, ⟨_, _, _⟩⟩⟩, _) rfl rfl rfl rfl rfl (LeS.refl _) rfl rfl ⟨⟨?_, ?_, ?_, ?_⟩, ?_⟩
    | trace_state
  all_goals simp only
  all_goals first
    | exact sml_getD hs _
    | exact (show (⟨#[]⟩ : ByteArray).size ≤ 8 by decide)
    | assumption
    | exact hc.2.1
    | exact hnm
    | exact htx
    | omega
    | (rw [hc.1]; exact hnm)
    | trace_state
end Go.Vl

namespace Go.Vl
open Go Go.RowKit Go.Proofs
set_option maxRecDepth 100000
set_option linter.unusedSimpArgs false
set_option linter.unusedVariables false
set_option linter.unnecessarySimpa false
set_option maxHeartbeats 4000000

end Go.Vl

namespace Go.Vl
open Go Go.RowKit Go.Proofs
set_option maxRecDepth 100000
set_option linter.unusedSimpArgs false
set_option linter.unusedVariables false
set_option linter.unnecessarySimpa false
set_option maxHeartbeats 4000000

end Go.Vl

namespace Go.Vl
open Go Go.RowKit Go.Proofs
set_option maxRecDepth 100000
set_option linter.unusedSimpArgs false
set_option linter.unusedVariables false
set_option linter.unnecessarySimpa false
set_option maxHeartbeats 4000000

theorem sml_getD2 {l : List Col} (h : smlCols l) (i : Nat) : (l.getD i (kCol 0)).sml := by
  by_cases hi : i < l.length
  · have e : l.getD i (kCol 0) = l[i] := by simp [List.getD, hi]
    rw [e]; exact h _ (List.getElem_mem hi)
  · have e : l.getD i (kCol 0) = kCol 0 := by simp [List.getD, Nat.le_of_not_lt hi]
    rw [e]; exact ⟨by show (⟨#[]⟩ : ByteArray).size ≤ 8; decide, by show (⟨#[]⟩ : ByteArray).size ≤ 8; decide⟩
theorem chDo_sml {s : List Col} {c : Change} {L : List Col} (hs : smlCols s) (hc : c.sml) (h : chDo s c = some L) : smlCols L := by
  obtain ⟨h1, h2, h3, h4⟩ := hc
  unfold chDo at h
  split at h; cases h
  split at h
  · split at h; cases h; cases h; exact hs.app ⟨h3, h4⟩
  split at h; cases h
  split at h
  · cases h; exact fun x hx => hs x (List.mem_of_mem_eraseIdx hx)
  split at h
  · cases h; exact hs.set ⟨h2, (sml_getD2 hs _).2⟩
  split at h; cases h; cases h
  exact hs.set ⟨(sml_getD2 hs _).1, by have := valAs_size (s.getD (nameAt s c.name).toNat (kCol 0)).d c.col.kind; show (valAs _ _).t.size ≤ _; omega⟩
def smlChs (l : List Change) : Prop := ∀ x ∈ l, x.sml
theorem smlChs.app {l : List Change} (h : smlChs l) {c : Change} (hc : c.sml) : smlChs (l ++ [c]) := by
  intro x hx
  rcases List.mem_append.1 hx with hx | hx
  · exact h x hx
  · simp at hx; subst hx; exact hc
theorem smlChs.md {l : List Change} (h : smlChs l) : mdChs l := fun c hc => (h c hc).md
end Go.Vl

namespace Go.Vl
open Go Go.RowKit Go.Proofs

theorem qV_iff {a b : Val} : q_Val a b = true ↔ a = b := by
  rw [q_Val_iff']
  constructor
  · rintro ⟨h1, h2, h3⟩
    obtain ⟨k, n, t⟩ := a
    obtain ⟨k', n', t'⟩ := b
    simp only at h1 h2 h3
    rw [h1, h2, tl_inj h3]
  · rintro rfl; exact ⟨rfl, rfl, rfl⟩
theorem qV_comm (a b : Val) : q_Val a b = q_Val b a := by
  cases h : q_Val a b with
  | true => rw [qV_iff.1 h]; exact (qV_refl b).symm
  | false =>
    cases h2 : q_Val b a with
    | false => rfl
    | true => rw [qV_iff.1 h2, qV_refl] at h; cases h

def tSh (t : VTable) (v : Nat) : List Col := (shAll t.first (t.changes.take v)).1
def tNow (t : VTable) (r : VRow) : List Val := rwAll (tSh t r.ver.toNat) (t.changes.drop r.ver.toNat) r.vals
def tL (t : VTable) : List Col := (shAll t.first t.changes).1
theorem tSh_all {t : VTable} {v : Nat} (h : t.changes.length ≤ v) : tSh t v = tL t := by unfold tSh tL; rw [List.take_of_length_le h]
def rowSt (t : VTable) (r : VRow) : Bool := rowOk (tSh t r.ver.toNat) r.vals && rowOk (tL t) (tNow t r)
def idOk (t : VTable) (last : Int) (r : VRow) : Bool := decide (last + 1 ≤ r.id ∧ r.id ≤ t.next - 1 ∧ 0 ≤ r.ver ∧ r.ver ≤ (t.changes.length : Int))
def stGo (t : VTable) : Int → List VRow → Bool
  | _, [] => true
  | last, r :: rs => idOk t last r && (rowSt t r && stGo t r.id rs)
def dupGo : List Val → List Val → Bool
  | _, [] => false
  | seen, v :: vs => (v.k != 0 && seen.any (q_Val v)) || dupGo (seen ++ [v]) vs
def colVs (N : List (List Val)) (k : Nat) : List Val := N.map fun n => n.getD k zVal
def onceAt (L : List Col) (N : List (List Val)) (k : Nat) : Bool := !((L.getD k (kCol 0)).once && dupGo [] (colVs N k))
def onceB (L : List Col) (N : List (List Val)) : Bool := (List.range L.length).all (onceAt L N)
def tabOk (t : VTable) : Bool := (shAll t.first t.changes).2 && (decide (t.changes.length ≤ 8) && (decide (t.rows.length ≤ 8) && (decide (1 ≤ t.next ∧ t.next ≤ 60) && (stGo t 0 t.rows && onceB (tL t) (t.rows.map (tNow t))))))

theorem stGo_drop {t : VTable} {last : Int} {l : List VRow} {i : Nat} (h : i < l.length) : stGo t last (l.drop i) = (idOk t last l[i] && (rowSt t l[i] && stGo t l[i].id (l.drop (i + 1)))) := by
  rw [List.drop_eq_getElem_cons h, stGo]
theorem stGo_end {t : VTable} {last : Int} {l : List VRow} {i : Nat} (h : l.length ≤ i) : stGo t last (l.drop i) = true := by
  rw [List.drop_of_length_le h, stGo]
theorem dupGo_drop {seen l : List Val} {i : Nat} (h : i < l.length) : dupGo seen (l.drop i) = ((l[i].k != 0 && seen.any (q_Val l[i])) || dupGo (seen ++ [l[i]]) (l.drop (i + 1))) := by
  rw [List.drop_eq_getElem_cons h, dupGo]
/-- What stands twice, told by places. -/
theorem dupGo_iff : ∀ {l seen : List Val}, dupGo seen l = true ↔ ∃ i, ∃ h : i < l.length, l[i].k ≠ 0 ∧ (l[i] ∈ seen ∨ ∃ j, ∃ hj : j < i, l[j]'(by omega) = l[i])
  | [], seen => by simp [dupGo]
  | v :: vs, seen => by
    rw [dupGo, Bool.or_eq_true, Bool.and_eq_true, dupGo_iff (l := vs)]
    constructor
    · rintro (⟨h1, h2⟩ | ⟨i, hi, h1, h2⟩)
      · refine ⟨0, by simp, by simpa using h1, .inl ?_⟩
        obtain ⟨x, hx, hq⟩ := List.any_eq_true.1 h2
        simpa [qV_iff.1 hq] using hx
      · refine ⟨i + 1, by simpa using hi, by simpa using h1, ?_⟩
        rcases h2 with h2 | ⟨j, hj, h2⟩
        · rcases List.mem_append.1 h2 with h2 | h2
          · exact .inl (by simpa using h2)
          · exact .inr ⟨0, by omega, by simp at h2; simp [h2]⟩
        · exact .inr ⟨j + 1, by omega, by simpa using h2⟩
    · rintro ⟨i, hi, h1, h2⟩
      cases i with
      | zero =>
        left
        refine ⟨by simpa using h1, ?_⟩
        rcases h2 with h2 | ⟨j, hj, _⟩
        · exact List.any_eq_true.2 ⟨v, by simpa using h2, qV_refl v⟩
        · omega
      | succ i =>
        right
        refine ⟨i, by simpa using hi, by simpa using h1, ?_⟩
        rcases h2 with h2 | ⟨j, hj, h2⟩
        · exact .inl (List.mem_append_left _ (by simpa using h2))
        · cases j with
          | zero => exact .inl (List.mem_append_right _ (by simp at h2; simp [h2]))
          | succ j => exact .inr ⟨j, by omega, by simpa using h2⟩

-- maps
theorem mGet_put {α β : Type} {eqb : α → α → Bool} (hl : ∀ x y, eqb x y = true ↔ x = y) {x v : α} {b : β} : ∀ {l : List (α × β)}, mGet eqb x (mPut eqb v b l) = if eqb x v then some b else mGet eqb x l
  | [] => by simp [mPut, mGet]
  | (k, u) :: l => by
    unfold mPut
    by_cases hvk : eqb v k = true
    · rw [if_pos hvk]
      have e := (hl _ _).1 hvk
      subst e
      simp only [mGet]
      split <;> rfl
    · rw [if_neg hvk]
      simp only [mGet]
      rw [mGet_put hl]
      by_cases hxk : eqb x k = true
      · rw [if_pos hxk, if_pos hxk, if_neg]
        intro hxv
        rw [(hl _ _).1 hxv] at hxk
        exact hvk hxk
      · rw [if_neg hxk, if_neg hxk]

-- what follows from a table that is right
structure TOk (t : VTable) : Prop where
  sh : (shAll t.first t.changes).2 = true
  c8 : t.changes.length ≤ 8
  r8 : t.rows.length ≤ 8
  nx : 1 ≤ t.next ∧ t.next ≤ 60
  st : stGo t 0 t.rows = true
  on : onceB (tL t) (t.rows.map (tNow t)) = true
theorem tabOk_iff {t : VTable} : tabOk t = true ↔ TOk t := by
  unfold tabOk
  simp only [Bool.and_eq_true, decide_eq_true_eq]
  exact ⟨fun ⟨a, b, c, d, e, f⟩ => ⟨a, b, c, d, e, f⟩, fun ⟨a, b, c, d, e, f⟩ => ⟨a, b, c, d, e, f⟩⟩
theorem stGo_at {t : VTable} : ∀ {l : List VRow} {last : Int}, stGo t last l = true → ∀ i (h : i < l.length), last + 1 ≤ l[i].id ∧ l[i].id ≤ t.next - 1 ∧ (0 ≤ l[i].ver ∧ l[i].ver ≤ (t.changes.length : Int)) ∧ rowSt t l[i] = true ∧ ∀ j (hj : j < i), (l[j]'(by omega)).id < l[i].id
  | [], _, _, i, h => by simp at h
  | r :: rs, last, hs, i, h => by
    rw [stGo, Bool.and_eq_true, Bool.and_eq_true] at hs
    obtain ⟨h1, h2, h3⟩ := hs
    simp only [idOk, decide_eq_true_eq] at h1
    cases i with
    | zero => exact ⟨h1.1, h1.2.1, h1.2.2, h2, fun j hj => by omega⟩
    | succ i =>
      obtain ⟨k1, k2, k3, k4, k5⟩ := stGo_at h3 i (by simpa using h)
      refine ⟨by simp only [List.getElem_cons_succ]; omega, by simpa using k2, by simpa using k3, by simpa using k4, fun j hj => ?_⟩
      cases j with
      | zero => simp only [List.getElem_cons_succ, List.getElem_cons_zero]; omega
      | succ j => simpa using k5 j (by omega)
theorem shAll_tL {t : VTable} (h : (shAll t.first t.changes).2 = true) : shAll t.first t.changes = (tL t, true) := by unfold tL; rw [← h]
theorem tSh_cut {t : VTable} (h : (shAll t.first t.changes).2 = true) (v : Nat) : shAll t.first (t.changes.take v) = (tSh t v, true) ∧ chGo t.first (t.changes.take v) = some (tSh t v) ∧ chGo (tSh t v) (t.changes.drop v) = some (tL t) ∧ shapeOk (tSh t v) = true ∧ shapeOk t.first = true ∧ shapeOk (tL t) = true := by
  obtain ⟨a, h1, _, h3, h4, h5, h6, h7⟩ := shAll_cut (shAll_tL h) v
  have e : tSh t v = a := by unfold tSh; rw [h1]
  rw [e]
  exact ⟨h1, h4, h5, h7, h6, h3⟩
theorem tNow_go {t : VTable} {r : VRow} (h : (shAll t.first t.changes).2 = true) (hr : r.vals.length = (tSh t r.ver.toNat).length) : tNow t r = rwGo (tSh t r.ver.toNat) (t.changes.drop r.ver.toNat) r.vals ∧ (tNow t r).length = (tL t).length := by
  obtain ⟨_, _, h3, h4, _, _⟩ := tSh_cut h r.ver.toNat
  have e : tNow t r = rwGo (tSh t r.ver.toNat) (t.changes.drop r.ver.toNat) r.vals := rwAll_yes h4 h3 hr
  exact ⟨e, by rw [e]; exact rwGo_len h3 h4 hr⟩
theorem rowIn_ln {cs : List Col} {vs : List Val} (h : rowIn cs vs = true) : vs.length = cs.length := by
  unfold rowIn at h
  split at h
  · cases h
  · rename_i h2; simpa using h2
theorem rowOk_len {cs : List Col} {vs : List Val} (h : rowOk cs vs = true) : vs.length = cs.length := by
  unfold rowOk at h
  simp only [Bool.and_eq_true] at h
  exact rowIn_ln h.2
theorem rowOk_in {cs : List Col} {vs : List Val} (h : shapeOk cs = true) : rowOk cs vs = rowIn cs vs := by unfold rowOk; rw [h]; rfl

-- sizes
structure VTable.md (t : VTable) : Prop where
  fc : t.first.length + t.changes.length ≤ 1800000
  fm : mdCols t.first
  cm : mdChs t.changes
  r : t.rows.length ≤ 1048576
  rm : ∀ x ∈ t.rows, x.vals.length ≤ 1048576 ∧ mdVals x.vals
theorem tL_md {t : VTable} (h : t.md) : mdCols (tL t) := shAll_md h.fm h.cm
theorem tSh_md {t : VTable} (h : t.md) (v : Nat) : mdCols (tSh t v) := shAll_md h.fm (h.cm.take v)
theorem tL_len (t : VTable) : (tL t).length ≤ t.first.length + t.changes.length := shAll_len _ _
theorem tSh_len (t : VTable) (v : Nat) : (tSh t v).length ≤ t.first.length + v := by
  have := shAll_len t.first (t.changes.take v)
  have h2 : (t.changes.take v).length ≤ v := by simp; omega
  unfold tSh; omega
theorem tNow_md {t : VTable} {r : VRow} (h : t.md) (hr : mdVals r.vals) : mdVals (tNow t r) := by
  unfold tNow rwAll
  split
  · exact rwGo_md (h.cm.drop _) hr
  · exact fun x hx => by cases hx
end Go.Vl

namespace Go.Vl
open Go Go.RowKit Go.Proofs
set_option maxRecDepth 100000
set_option linter.unusedSimpArgs false
set_option linter.unusedVariables false
set_option linter.unnecessarySimpa false
set_option maxHeartbeats 4000000

abbrev shI (x : List Col × Bool) : Slot := .tup [(false, [.imm 7 (x.1.map encCol)]), (false, [.g (.bool x.2)])]
theorem pureSh (x : List Col × Bool) : vS true (Sr [] (shN x)) [] (shS x) = shI x := by
  show Slot.tup [(false, [.imm 7 (((x.1.map encCol).drop 0).take x.1.length)]), (false, [.g (.bool x.2)])] = _
  rw [fzC]
theorem pureVals (l : List Val) {E : TypeId} : vS true (Sr [] [.arr E 3 (l.map encVal)]) [] (.one (.own 0 0 l.length)) = valsI l := by
  show Slot.one (.imm 3 (((l.map encVal).drop 0).take l.length)) = _
  rw [fzV]; rfl
theorem chGo_tL {t : VTable} (h : (shAll t.first t.changes).2 = true) : chGo t.first t.changes = some (tL t) := by
  obtain ⟨ho, L, hg⟩ := shAll_go h
  rw [hg]; unfold tL; rw [shAll_yes ho hg]
def keyL (v : Val) : List Value := [.int .i64 v.k, .int .i64 v.n, .string v.t]

theorem c_tShape (t : VTable) (ht : t.md) (hs : (shAll t.first t.changes).2 = true) : CallsV Tryz.prog 50 [.agg (encVTable t)] [] (pureQ (colsI (tL t))) := by
  have c1 := (c_changes t.first t.changes (by have := ht.fc; omega) ht.fm ht.cm).pure (pureSh _)
  rw [chGo_tL hs] at c1
  replace c1 : CallsV _ _ _ _ (pureQ (shI (tL t, true))) := c1
  generalize tL t = L at c1 ⊢
  obtain ⟨first, changes, rows, next⟩ := t
  refine pureF_walk hTb Tryz.func50 rfl rfl Tryz.ntmps50 (by simp) ?_
  (conv => whnf); repeat' (first
    | (refine And.intro ?_ ?_ <;> ((try intro h) <;> (try simp only [Bool.not_true, Bool.not_false, decide_eq_true_eq, decide_eq_false_iff_not, Int.not_lt, Int.not_le, gt_iff_lt, ge_iff_le] at h) <;> first | exact absurd h Bool.false_ne_true | exact absurd h.symm Bool.false_ne_true | conv => whnf))
    | (refine VL.drawS hTb hMix (by kernel_rfl) (by kernel_rfl) (by kernel_rfl) ?_; conv => whnf)
    | (refine Need.mk ?_; kernel_rfl) | (refine Need.mk ⟨rfl, ?_⟩; decide)
    | (refine VR.pure hTb rfl rfl (o_purF (c1) rfl rfl rfl ⟨rfl, rfl, rfl, rfl⟩ rfl) ?_; conv => whnf)
    | (refine DT.pure hTb rfl (o_purF (c1) rfl rfl rfl ⟨rfl, rfl, rfl, rfl⟩ rfl) ?_; conv => whnf))
  exact endFz rfl rfl rfl
theorem c_tNow (t : VTable) (r : VRow) (ht : t.md) (hs : (shAll t.first t.changes).2 = true) (hv : 0 ≤ r.ver ∧ r.ver ≤ (t.changes.length : Int)) (hn : r.vals.length = (tSh t r.ver.toNat).length) (hr : mdVals r.vals) :
    CallsV Tryz.prog 54 [.agg (encVTable t), .agg (encVRow r)] [] (funQ (.one (.own 0 0 (tNow t r).length)) [] [.arr 37 3 ((tNow t r).map encVal)]) := by
  obtain ⟨h1, h2, h3, h4, h5, h6⟩ := tSh_cut hs r.ver.toNat
  have e := (tNow_go hs hn).1
  have hfc := ht.fc
  have hl := tSh_len t r.ver.toNat
  have c1 := (c_changes t.first (t.changes.take r.ver.toNat) (by simp; omega) ht.fm (ht.cm.take _)).pure (pureSh _)
  rw [h2] at c1
  have c2 := c_changeRows (tSh t r.ver.toNat) (t.changes.drop r.ver.toNat) r.vals (by simp; omega) (tSh_md ht _) (ht.cm.drop _) hr h4 h3 hn
  rw [← e] at c2
  replace c1 : CallsV _ _ _ _ (pureQ (shI (tSh t r.ver.toNat, true))) := c1
  clear h1 h2 h3 h4 h5 h6 e hl hfc hn hs ht hr
  generalize tSh t r.ver.toNat = L at c1 c2
  generalize tNow t r = w at c2 ⊢
  obtain ⟨k, hk⟩ : ∃ k : Nat, r.ver = k := ⟨r.ver.toNat, by omega⟩
  rw [hk] at c1 c2 hv
  obtain ⟨first, changes, rows, next⟩ := t
  obtain ⟨id, ver, vals⟩ := r
  simp only [Int.toNat_natCast] at hk c1 c2 hv
  subst hk
  have hk : k ≤ changes.length := by omega
  refine funF_walk hTb Tryz.func54 rfl rfl Tryz.ntmps54 (by simp) (by simp) ?_
  (conv => whnf); repeat' (first
    | (refine And.intro ?_ ?_ <;> ((try intro h) <;> (try simp only [Bool.not_true, Bool.not_false, decide_eq_true_eq, decide_eq_false_iff_not, Int.not_lt, Int.not_le, gt_iff_lt, ge_iff_le] at h) <;> first | exact absurd h Bool.false_ne_true | exact absurd h.symm Bool.false_ne_true | conv => whnf))
    | (refine VL.drawS hTb hMix (by kernel_rfl) (by kernel_rfl) (by kernel_rfl) ?_; conv => whnf)
    | (refine Need.mk ?_; kernel_rfl) | (refine Need.mk ⟨rfl, ?_⟩; decide)
    | (refine DT.op hTb rfl (o_slice_imm (n1 := 0) (n2 := k) (rows' := (changes.take k).map encChange) hTb rfl rfl rfl rfl rfl rfl bnd_none (bnd_some rfl) (Nat.zero_le _) (by simp; omega) (by rw [List.drop_zero, Nat.sub_zero, List.map_take])) rfl ?_; conv => whnf)
    | (refine DT.op hTb rfl (o_slice_imm (n1 := k) (n2 := (changes.map encChange).length) (rows' := (changes.drop k).map encChange) hTb rfl rfl rfl rfl rfl rfl (bnd_some rfl) bnd_none (by simp; omega) (Nat.le_refl _) (by rw [← List.map_drop]; exact List.take_of_length_le (by simp))) rfl ?_; conv => whnf)
    | (refine VR.pure hTb rfl rfl (o_purF (c1) rfl rfl rfl ⟨rfl, rfl, rfl, rfl⟩ rfl) ?_; conv => whnf)
    | (refine DT.pure hTb rfl (o_purF (c1) rfl rfl rfl ⟨rfl, rfl, rfl, rfl⟩ rfl) ?_; conv => whnf)
    | (refine VR.fun hTb rfl rfl (o_funN (c2) false [] (fun h => by cases h) (by simp) rfl rfl rfl rfl rfl ⟨rfl, rfl, rfl, rfl⟩ rfl rfl) ?_; conv => whnf)
    | (refine DT.fun hTb rfl (o_funN (c2) false [] (fun h => by cases h) (by simp) rfl rfl rfl rfl rfl ⟨rfl, rfl, rfl, rfl⟩ rfl rfl) rfl ?_; conv => whnf))
  exact endW [1104] rfl rfl rfl rfl rfl (LeS.refl _) rfl rfl
theorem c_l3Shape (t : VTable) (v : Int) (ht : t.md) (hv : 0 ≤ v ∧ v ≤ (t.changes.length : Int)) : CallsV Tryz.prog 120 [.agg (encVTable t), iS v] [] (pureQ (colsI (tSh t v.toNat))) := by
  have hfc := ht.fc
  obtain ⟨k, hk⟩ : ∃ k : Nat, v = k := ⟨v.toNat, by omega⟩
  subst hk
  have hk : k ≤ t.changes.length := by omega
  rw [Int.toNat_natCast]
  have c1 := (c_specShapeAll t.first (t.changes.take k) (by simp; omega) ht.fm (ht.cm.take _)).pure (pureSh _)
  unfold tSh
  obtain ⟨first, changes, rows, next⟩ := t
  simp only at c1 hk ⊢
  generalize shAll first (changes.take k) = x at c1 ⊢
  obtain ⟨x, b⟩ := x
  refine pureF_walk hTb Tryz.func120 rfl rfl Tryz.ntmps120 (by simp) ?_
  (conv => whnf); repeat' (first
    | (refine And.intro ?_ ?_ <;> ((try intro h) <;> (try simp only [Bool.not_true, Bool.not_false, decide_eq_true_eq, decide_eq_false_iff_not, Int.not_lt, Int.not_le, gt_iff_lt, ge_iff_le] at h) <;> first | exact absurd h Bool.false_ne_true | exact absurd h.symm Bool.false_ne_true | conv => whnf))
    | (refine VL.drawS hTb hMix (by kernel_rfl) (by kernel_rfl) (by kernel_rfl) ?_; conv => whnf)
    | (refine Need.mk ?_; kernel_rfl) | (refine Need.mk ⟨rfl, ?_⟩; decide)
    | (refine DT.op hTb rfl (o_slice_imm (n1 := 0) (n2 := k) (rows' := (changes.take k).map encChange) hTb rfl rfl rfl rfl rfl rfl bnd_none (bnd_some rfl) (Nat.zero_le _) (by simp; omega) (by rw [List.drop_zero, Nat.sub_zero, List.map_take])) rfl ?_; conv => whnf)
    | (refine VR.pure hTb rfl rfl (o_purF (c1) rfl rfl rfl ⟨rfl, rfl, rfl, rfl⟩ rfl) ?_; conv => whnf)
    | (refine DT.pure hTb rfl (o_purF (c1) rfl rfl rfl ⟨rfl, rfl, rfl, rfl⟩ rfl) ?_; conv => whnf))
  exact endFz rfl rfl rfl
theorem c_l3Last (t : VTable) (ht : t.md) : CallsV Tryz.prog 52 [.agg (encVTable t)] [] (pureQ (colsI (tL t))) := by
  have c1 := c_l3Shape t ((t.changes.map encChange).length : Nat) ht ⟨by omega, by simp⟩
  rw [Int.toNat_natCast, tSh_all (by simp)] at c1
  generalize tL t = L at c1 ⊢
  obtain ⟨first, changes, rows, next⟩ := t
  refine pureF_walk hTb Tryz.func52 rfl rfl Tryz.ntmps52 (by simp) ?_
  (conv => whnf); repeat' (first
    | (refine And.intro ?_ ?_ <;> ((try intro h) <;> (try simp only [Bool.not_true, Bool.not_false, decide_eq_true_eq, decide_eq_false_iff_not, Int.not_lt, Int.not_le, gt_iff_lt, ge_iff_le] at h) <;> first | exact absurd h Bool.false_ne_true | exact absurd h.symm Bool.false_ne_true | conv => whnf))
    | (refine VL.drawS hTb hMix (by kernel_rfl) (by kernel_rfl) (by kernel_rfl) ?_; conv => whnf)
    | (refine Need.mk ?_; kernel_rfl) | (refine Need.mk ⟨rfl, ?_⟩; decide)
    | (refine VR.pure hTb rfl rfl (o_purF (c1) rfl rfl rfl ⟨rfl, rfl, rfl, rfl⟩ rfl) ?_; conv => whnf)
    | (refine DT.pure hTb rfl (o_purF (c1) rfl rfl rfl ⟨rfl, rfl, rfl, rfl⟩ rfl) ?_; conv => whnf))
  exact endFz rfl rfl rfl
theorem c_l3Now (t : VTable) (r : VRow) (ht : t.md) (hv : 0 ≤ r.ver ∧ r.ver ≤ (t.changes.length : Int)) (hl : r.vals.length ≤ 1900000) (hr : mdVals r.vals) :
    CallsV Tryz.prog 63 [.agg (encVTable t), .agg (encVRow r)] [] (funQ (.one (.own 0 0 (tNow t r).length)) [] [.arr 37 3 ((tNow t r).map encVal)]) := by
  have hfc := ht.fc
  have hl2 := tSh_len t r.ver.toNat
  have c1 := c_l3Shape t r.ver ht hv
  have c2 := c_specRowAll (tSh t r.ver.toNat) (t.changes.drop r.ver.toNat) r.vals (by simp; omega) hl (tSh_md ht _) (ht.cm.drop _) hr
  replace c2 : CallsV _ _ _ _ (funQ (.one (.own 0 0 (tNow t r).length)) [] [.arr 37 3 ((tNow t r).map encVal)]) := c2
  clear hl2 hfc hl hr ht
  generalize tSh t r.ver.toNat = L at c1 c2
  generalize tNow t r = w at c2 ⊢
  obtain ⟨k, hk⟩ : ∃ k : Nat, r.ver = k := ⟨r.ver.toNat, by omega⟩
  rw [hk] at c1 c2 hv
  obtain ⟨first, changes, rows, next⟩ := t
  obtain ⟨id, ver, vals⟩ := r
  simp only [Int.toNat_natCast] at hk c1 c2 hv
  subst hk
  have hk : k ≤ changes.length := by omega
  refine funF_walk hTb Tryz.func63 rfl rfl Tryz.ntmps63 (by simp) (by simp) ?_
  (conv => whnf); repeat' (first
    | (refine And.intro ?_ ?_ <;> ((try intro h) <;> (try simp only [Bool.not_true, Bool.not_false, decide_eq_true_eq, decide_eq_false_iff_not, Int.not_lt, Int.not_le, gt_iff_lt, ge_iff_le] at h) <;> first | exact absurd h Bool.false_ne_true | exact absurd h.symm Bool.false_ne_true | conv => whnf))
    | (refine VL.drawS hTb hMix (by kernel_rfl) (by kernel_rfl) (by kernel_rfl) ?_; conv => whnf)
    | (refine Need.mk ?_; kernel_rfl) | (refine Need.mk ⟨rfl, ?_⟩; decide)
    | (refine DT.op hTb rfl (o_slice_imm (n1 := k) (n2 := (changes.map encChange).length) (rows' := (changes.drop k).map encChange) hTb rfl rfl rfl rfl rfl rfl (bnd_some rfl) bnd_none (by simp; omega) (Nat.le_refl _) (by rw [← List.map_drop]; exact List.take_of_length_le (by simp))) rfl ?_; conv => whnf)
    | (refine VR.pure hTb rfl rfl (o_purF (c1) rfl rfl rfl ⟨rfl, rfl, rfl, rfl⟩ rfl) ?_; conv => whnf)
    | (refine DT.pure hTb rfl (o_purF (c1) rfl rfl rfl ⟨rfl, rfl, rfl, rfl⟩ rfl) ?_; conv => whnf)
    | (refine VR.fun hTb rfl rfl (o_funN (c2) false [] (fun h => by cases h) (by simp) rfl rfl rfl rfl rfl ⟨rfl, rfl, rfl, rfl⟩ rfl rfl) ?_; conv => whnf)
    | (refine DT.fun hTb rfl (o_funN (c2) false [] (fun h => by cases h) (by simp) rfl rfl rfl rfl rfl ⟨rfl, rfl, rfl, rfl⟩ rfl rfl) rfl ?_; conv => whnf))
  exact endW [1064] rfl rfl rfl rfl rfl (LeS.refl _) rfl rfl
end Go.Vl
