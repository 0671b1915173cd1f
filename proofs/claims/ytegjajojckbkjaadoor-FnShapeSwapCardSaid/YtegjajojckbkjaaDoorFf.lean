/- Contracts: a row behind a change; columns behind several. -/
import Derived.Test.YtegjajojckbkjaaDoorFe
namespace Go.Vl
open Go Go.RowKit Go.Proofs
set_option maxRecDepth 100000
set_option linter.unusedSimpArgs false
set_option linter.unusedVariables false
set_option maxHeartbeats 4000000

theorem wk_freeze (n : Nat) {L : LS} (q : Nat) {E sz : Nat} {rows : List (List Leaf)} (hq : L.st.obj q = some (.arr E sz rows)) : Wk n L.st (L.freeze q sz rows).st := by
  rw [LS.st_freeze]; exact fun C B a w hn hR => ⟨B, hR.freeze hq⟩
theorem shDo_at {s : List Col} {c : Change} (h : (shDo s c).2 = true) : chAt s c s.length := by
  obtain ⟨_, L, h1, _⟩ := shDo_ok h
  intro hk
  unfold chDo at h1
  split at h1; cases h1
  split at h1
  · omega
  split at h1; cases h1
  rename_i hn
  rcases nameAt_spec s c.name with ⟨h4, _⟩ | ⟨j, hj, h4, _⟩
  · omega
  · exact ⟨j, hj, h4⟩
theorem sdo_sh {s : List Col} {c : Change} (h : (sdo s c).2 = true) : shapeOk s = true ∧ (shDo s c).2 = true := by
  unfold sdo at h
  split at h
  · exact ⟨‹_›, h⟩
  · cases h
def rwDo (s : List Col) (c : Change) (row : List Val) : List Val := if (sdo s c).2 = true ∧ row.length = s.length then rwCh s c row else []
theorem c_implRowDo (s : List Col) (c : Change) (row : List Val) (hl : s.length ≤ 1900000) (hr : row.length ≤ 1900000) (hs : mdCols s) (hc : c.md) (hrow : mdVals row) :
    CallsV Tryd.prog 19 [colsI s, .agg (encChange c), valsI row] [] (funQ (.one (.own 0 0 (rwDo s c row).length)) [] [.arr 29 3 ((rwDo s c row).map encVal)]) := by
  have c1 := c_implShapeDo s c hl hs hc
  have hat := fun (h : (sdo s c).2 = true) (hn : row.length = s.length) => c_changeRow s c row hl hr hs hrow (hn ▸ shDo_at (sdo_sh h).2)
  unfold rwDo
  obtain ⟨kd, nm, nw, ⟨cn, ck, k1, k2, ⟨d1, d2, d3⟩⟩⟩ := c
  generalize sdo s ⟨kd, nm, nw, ⟨cn, ck, k1, k2, ⟨d1, d2, d3⟩⟩⟩ = y at c1 hat
  obtain ⟨y1, b⟩ := y
  refine funF_walk hTb Tryd.func19 rfl rfl Tryd.ntmps19 (by simp) (by simp) ?_
  by_cases hn : row.length = s.length
  · cases b
    · rw [if_neg (by simp)]
      (conv => whnf); repeat' (first
    | (refine And.intro ?_ ?_ <;> ((try intro h) <;> (try simp only [Bool.not_true, Bool.not_false, decide_eq_true_eq, decide_eq_false_iff_not, Int.not_lt, Int.not_le, gt_iff_lt, ge_iff_le] at h) <;> first | exact absurd h Bool.false_ne_true | exact absurd h.symm Bool.false_ne_true | conv => whnf))
    | (refine VL.drawS hTb hMix (by kernel_rfl) (by kernel_rfl) (by kernel_rfl) ?_; conv => whnf)
    | (refine Need.mk ?_; kernel_rfl) | (refine Need.mk ⟨rfl, ?_⟩; decide)
    | (refine VR.fun hTb rfl rfl (o_funN (c1) false [] (fun h => by cases h) (by simp) rfl rfl rfl rfl rfl ⟨rfl, rfl, rfl, rfl⟩ rfl rfl) ?_; conv => whnf)
    | (refine DT.fun hTb rfl (o_funN (c1) false [] (fun h => by cases h) (by simp) rfl rfl rfl rfl rfl ⟨rfl, rfl, rfl, rfl⟩ rfl rfl) rfl ?_; conv => whnf))
      exact EndV.nil 6 106 3 29 rfl rfl (by decide) (endW [106] rfl rfl rfl rfl rfl (LeS.refl _) rfl rfl)
    · rw [if_pos ⟨rfl, hn⟩]
      have c2 := hat rfl hn
      (conv => whnf); repeat' (first
    | (refine And.intro ?_ ?_ <;> ((try intro h) <;> (try simp only [Bool.not_true, Bool.not_false, decide_eq_true_eq, decide_eq_false_iff_not, Int.not_lt, Int.not_le, gt_iff_lt, ge_iff_le] at h) <;> first | exact absurd h Bool.false_ne_true | exact absurd h.symm Bool.false_ne_true | conv => whnf))
    | (refine VL.drawS hTb hMix (by kernel_rfl) (by kernel_rfl) (by kernel_rfl) ?_; conv => whnf)
    | (refine Need.mk ?_; kernel_rfl) | (refine Need.mk ⟨rfl, ?_⟩; decide)
    | (refine VR.fun hTb rfl rfl (o_funN (c1) false [] (fun h => by cases h) (by simp) rfl rfl rfl rfl rfl ⟨rfl, rfl, rfl, rfl⟩ rfl rfl) ?_; conv => whnf)
    | (refine DT.fun hTb rfl (o_funN (c1) false [] (fun h => by cases h) (by simp) rfl rfl rfl rfl rfl ⟨rfl, rfl, rfl, rfl⟩ rfl rfl) rfl ?_; conv => whnf)
    | (refine VR.fun hTb rfl rfl (o_funN (c2) false [] (fun h => by cases h) (by simp) rfl rfl rfl rfl rfl ⟨rfl, rfl, rfl, rfl⟩ rfl rfl) ?_; conv => whnf)
    | (refine DT.fun hTb rfl (o_funN (c2) false [] (fun h => by cases h) (by simp) rfl rfl rfl rfl rfl ⟨rfl, rfl, rfl, rfl⟩ rfl rfl) rfl ?_; conv => whnf))
      · exfalso; simp at h; omega
      · exact endW [1108] rfl rfl rfl rfl rfl (LeS.refl _) rfl rfl
  · rw [if_neg (fun h => hn h.2)]
    cases b <;> (conv => whnf); repeat' (first
    | (refine And.intro ?_ ?_ <;> ((try intro h) <;> (try simp only [Bool.not_true, Bool.not_false, decide_eq_true_eq, decide_eq_false_iff_not, Int.not_lt, Int.not_le, gt_iff_lt, ge_iff_le] at h) <;> first | exact absurd h Bool.false_ne_true | exact absurd h.symm Bool.false_ne_true | conv => whnf))
    | (refine VL.drawS hTb hMix (by kernel_rfl) (by kernel_rfl) (by kernel_rfl) ?_; conv => whnf)
    | (refine Need.mk ?_; kernel_rfl) | (refine Need.mk ⟨rfl, ?_⟩; decide)
    | (refine VR.fun hTb rfl rfl (o_funN (c1) false [] (fun h => by cases h) (by simp) rfl rfl rfl rfl rfl ⟨rfl, rfl, rfl, rfl⟩ rfl rfl) ?_; conv => whnf)
    | (refine DT.fun hTb rfl (o_funN (c1) false [] (fun h => by cases h) (by simp) rfl rfl rfl rfl rfl ⟨rfl, rfl, rfl, rfl⟩ rfl rfl) rfl ?_; conv => whnf)
    | ((exfalso; simp at h; omega)))
    all_goals exact EndV.nil 6 106 3 29 rfl rfl (by decide) (endW [106] rfl rfl rfl rfl rfl (LeS.refl _) rfl rfl)
theorem c_specRowDo (s : List Col) (c : Change) (row : List Val) (hl : s.length ≤ 1900000) (hr : row.length ≤ 1900000) (hs : mdCols s) (hc : c.md) (hrow : mdVals row) :
    CallsV Tryd.prog 38 [colsI s, .agg (encChange c), valsI row] [] (funQ (.one (.own 0 0 (rwDo s c row).length)) [] [.arr 29 3 ((rwDo s c row).map encVal)]) := by
  have c1 := c_specShapeDo s c hl hs hc
  have hat := fun (h : (sdo s c).2 = true) (hn : row.length = s.length) => c_l2Row s c row hl hr hs hrow (hn ▸ shDo_at (sdo_sh h).2)
  unfold rwDo
  obtain ⟨kd, nm, nw, ⟨cn, ck, k1, k2, ⟨d1, d2, d3⟩⟩⟩ := c
  generalize sdo s ⟨kd, nm, nw, ⟨cn, ck, k1, k2, ⟨d1, d2, d3⟩⟩⟩ = y at c1 hat
  obtain ⟨y1, b⟩ := y
  refine funF_walk hTb Tryd.func38 rfl rfl Tryd.ntmps38 (by simp) (by simp) ?_
  by_cases hn : row.length = s.length
  · cases b
    · rw [if_neg (by simp)]
      (conv => whnf); repeat' (first
    | (refine And.intro ?_ ?_ <;> ((try intro h) <;> (try simp only [Bool.not_true, Bool.not_false, decide_eq_true_eq, decide_eq_false_iff_not, Int.not_lt, Int.not_le, gt_iff_lt, ge_iff_le] at h) <;> first | exact absurd h Bool.false_ne_true | exact absurd h.symm Bool.false_ne_true | conv => whnf))
    | (refine VL.drawS hTb hMix (by kernel_rfl) (by kernel_rfl) (by kernel_rfl) ?_; conv => whnf)
    | (refine Need.mk ?_; kernel_rfl) | (refine Need.mk ⟨rfl, ?_⟩; decide)
    | (refine VR.fun hTb rfl rfl (o_funN (c1) false [] (fun h => by cases h) (by simp) rfl rfl rfl rfl rfl ⟨rfl, rfl, rfl, rfl⟩ rfl rfl) ?_; conv => whnf)
    | (refine DT.fun hTb rfl (o_funN (c1) false [] (fun h => by cases h) (by simp) rfl rfl rfl rfl rfl ⟨rfl, rfl, rfl, rfl⟩ rfl rfl) rfl ?_; conv => whnf))
      exact endW [124] rfl rfl rfl rfl rfl (LeS.refl _) rfl rfl
    · rw [if_pos ⟨rfl, hn⟩]
      have c2 := hat rfl hn
      (conv => whnf); repeat' (first
    | (refine And.intro ?_ ?_ <;> ((try intro h) <;> (try simp only [Bool.not_true, Bool.not_false, decide_eq_true_eq, decide_eq_false_iff_not, Int.not_lt, Int.not_le, gt_iff_lt, ge_iff_le] at h) <;> first | exact absurd h Bool.false_ne_true | exact absurd h.symm Bool.false_ne_true | conv => whnf))
    | (refine VL.drawS hTb hMix (by kernel_rfl) (by kernel_rfl) (by kernel_rfl) ?_; conv => whnf)
    | (refine Need.mk ?_; kernel_rfl) | (refine Need.mk ⟨rfl, ?_⟩; decide)
    | (refine VR.fun hTb rfl rfl (o_funN (c1) false [] (fun h => by cases h) (by simp) rfl rfl rfl rfl rfl ⟨rfl, rfl, rfl, rfl⟩ rfl rfl) ?_; conv => whnf)
    | (refine DT.fun hTb rfl (o_funN (c1) false [] (fun h => by cases h) (by simp) rfl rfl rfl rfl rfl ⟨rfl, rfl, rfl, rfl⟩ rfl rfl) rfl ?_; conv => whnf)
    | (refine VR.fun hTb rfl rfl (o_funN (c2) false [] (fun h => by cases h) (by simp) rfl rfl rfl rfl rfl ⟨rfl, rfl, rfl, rfl⟩ rfl rfl) ?_; conv => whnf)
    | (refine DT.fun hTb rfl (o_funN (c2) false [] (fun h => by cases h) (by simp) rfl rfl rfl rfl rfl ⟨rfl, rfl, rfl, rfl⟩ rfl rfl) rfl ?_; conv => whnf))
      · exfalso; simp at h; omega
      · exact endW [1112] rfl rfl rfl rfl rfl (LeS.refl _) rfl rfl
  · rw [if_neg (fun h => hn h.2)]
    cases b <;> (conv => whnf); repeat' (first
    | (refine And.intro ?_ ?_ <;> ((try intro h) <;> (try simp only [Bool.not_true, Bool.not_false, decide_eq_true_eq, decide_eq_false_iff_not, Int.not_lt, Int.not_le, gt_iff_lt, ge_iff_le] at h) <;> first | exact absurd h Bool.false_ne_true | exact absurd h.symm Bool.false_ne_true | conv => whnf))
    | (refine VL.drawS hTb hMix (by kernel_rfl) (by kernel_rfl) (by kernel_rfl) ?_; conv => whnf)
    | (refine Need.mk ?_; kernel_rfl) | (refine Need.mk ⟨rfl, ?_⟩; decide)
    | (refine VR.fun hTb rfl rfl (o_funN (c1) false [] (fun h => by cases h) (by simp) rfl rfl rfl rfl rfl ⟨rfl, rfl, rfl, rfl⟩ rfl rfl) ?_; conv => whnf)
    | (refine DT.fun hTb rfl (o_funN (c1) false [] (fun h => by cases h) (by simp) rfl rfl rfl rfl rfl ⟨rfl, rfl, rfl, rfl⟩ rfl rfl) rfl ?_; conv => whnf)
    | ((exfalso; simp at h; omega)))
    all_goals exact endW [124] rfl rfl rfl rfl rfl (LeS.refl _) rfl rfl
-- several changes
def chGo : List Col → List Change → Option (List Col)
  | s, [] => some s
  | s, c :: cs => if (shDo s c).2 = true then chGo (shDo s c).1 cs else none
def allS : Option (List Col) → List Col × Bool
  | some L => (L, true)
  | none => ([], false)
def mdChs (l : List Change) : Prop := ∀ x ∈ l, x.md
theorem chGo_step {s : List Col} {l : List Change} {i : Nat} (h : i < l.length) : chGo s (l.drop i) = if (shDo s l[i]).2 = true then chGo (shDo s l[i]).1 (l.drop (i + 1)) else none := by
  rw [List.drop_eq_getElem_cons h, chGo]
theorem chGo_end {s : List Col} {l : List Change} {i : Nat} (h : l.length ≤ i) : chGo s (l.drop i) = some s := by
  rw [List.drop_of_length_le h, chGo]
theorem grShS (x : List Col × Bool) : GrS (shS x) ∧ (∀ ob, some ob ∈ ([] : List (Option Ob)) → GrO ob) ∧ ∀ ob ∈ shN x, GrO ob := by
  refine ⟨?_, fun _ h => by simp at h, fun ob h => by simp at h; subst h; exact grCols _⟩
  intro y hy l hl
  simp at hy
  rcases hy with rfl | rfl <;> simp at hl <;> subst hl <;> rfl
theorem c_changes (s : List Col) (list : List Change) (hl : s.length + list.length ≤ 1900000) (hs : mdCols s) (hc : mdChs list) : CallsV Tryd.prog 68 [colsI s, changesI list] [] (funQ (shS (allS (chGo s list))) [] (shN (allS (chGo s list)))) := by
  refine funF_walk hTb Tryd.func68 rfl rfl Tryd.ntmps68 (by simp) (by simp) ?_
  have c0 := c_cloneCol s (by omega)
  (conv => whnf); repeat' (first
    | (refine And.intro ?_ ?_ <;> ((try intro h) <;> (try simp only [Bool.not_true, Bool.not_false, decide_eq_true_eq, decide_eq_false_iff_not, Int.not_lt, Int.not_le, gt_iff_lt, ge_iff_le] at h) <;> first | exact absurd h Bool.false_ne_true | exact absurd h.symm Bool.false_ne_true | conv => whnf))
    | (refine VL.drawS hTb hMix (by kernel_rfl) (by kernel_rfl) (by kernel_rfl) ?_; conv => whnf)
    | (refine Need.mk ?_; kernel_rfl) | (refine Need.mk ⟨rfl, ?_⟩; decide)
    | (refine VR.fun hTb rfl rfl (o_funN (c0) false [] (fun h => by cases h) (by simp) rfl rfl rfl rfl rfl ⟨rfl, rfl, rfl, rfl⟩ rfl rfl) ?_; conv => whnf)
    | (refine DT.fun hTb rfl (o_funN (c0) false [] (fun h => by cases h) (by simp) rfl rfl rfl rfl rfl ⟨rfl, rfl, rfl, rfl⟩ rfl rfl) rfl ?_; conv => whnf))
  refine VL.loopI hTb (α := Nat × List Col) (fun x => x.1 ≤ list.length ∧ chGo s list = chGo x.2 (list.drop x.1) ∧ mdCols x.2 ∧ x.2.length ≤ s.length + x.1) (fun x => ⟨[(6, .one (.own 1048 0 x.2.length)), (13, changesI list), (14, iS ((list.map encChange).length : Nat)), (15, iS x.1)], [(1048, .arr 31 7 (x.2.map encCol))], []⟩) (fun x => list.length - x.1) (0, s) ⟨Nat.zero_le _, rfl, hs, by simp⟩
    (wk_to [(1048, 1048)] rfl rfl rfl ⟨rfl, rfl, rfl, rfl, trivial⟩ ⟨rfl, ⟨_, rfl, rfl⟩, trivial⟩) (fun x hx => ?_)
  obtain ⟨i, out⟩ := x
  obtain ⟨hi, hf, hm, hn⟩ := hx
  simp only at hi hf hm hn
  (conv => whnf)
  refine And.intro (fun h2 => ?_) (fun h2 => ?_)
  · have hlt : i < list.length := by simpa using h2
    have hrow := rowChange hlt
    have hst := chGo_step (s := out) hlt
    have cX := c_change out list[i] (by omega) hm (hc _ (List.getElem_mem hlt))
    have hm2 := shDo_md hm (hc _ (List.getElem_mem hlt))
    have hn2 := @shDo_len out list[i]
    generalize list[i] = ci at hrow hst cX hm2 hn2
    obtain ⟨kd, nm, nw, ⟨cn, ck, k1, k2, ⟨d1, d2, d3⟩⟩⟩ := ci
    generalize shDo out ⟨kd, nm, nw, ⟨cn, ck, k1, k2, ⟨d1, d2, d3⟩⟩⟩ = y at cX hst hm2 hn2
    obtain ⟨y1, b⟩ := y
    cases b
    · rw [hf, hst, if_neg (by simp)]
      (conv => whnf); repeat' (first
    | (refine And.intro ?_ ?_ <;> ((try intro h) <;> (try simp only [Bool.not_true, Bool.not_false, decide_eq_true_eq, decide_eq_false_iff_not, Int.not_lt, Int.not_le, gt_iff_lt, ge_iff_le] at h) <;> first | exact absurd h Bool.false_ne_true | exact absurd h.symm Bool.false_ne_true | conv => whnf))
    | (refine VL.drawS hTb hMix (by kernel_rfl) (by kernel_rfl) (by kernel_rfl) ?_; conv => whnf)
    | (refine Need.mk ?_; kernel_rfl) | (refine Need.mk ⟨rfl, ?_⟩; decide)
    | (refine VR.op hTb rfl rfl (o_index_imm hTb rfl rfl rfl rfl rfl rfl rfl (by omega) (hrow)) rfl ?_; conv => whnf)
    | (refine DT.op hTb rfl (o_index_imm hTb rfl rfl rfl rfl rfl rfl rfl (by omega) (hrow)) rfl ?_; conv => whnf)
    | (refine VR.fun hTb rfl rfl (o_funN (cX) true [] (fun _ => grShS _) (by simp) rfl rfl rfl rfl rfl ⟨rfl, rfl, rfl, rfl⟩ ?_ rfl) ?_; exact congrArg (fun s => [s, _]) brw; conv => whnf)
    | (refine DT.fun hTb rfl (o_funN (cX) true [] (fun _ => grShS _) (by simp) rfl rfl rfl rfl rfl ⟨rfl, rfl, rfl, rfl⟩ ?_ rfl) rfl ?_; exact congrArg (fun s => [s, _]) brw; conv => whnf))
      exact EndV.nil 4 104 7 31 rfl rfl (by decide) (endW [104] rfl rfl rfl rfl rfl (LeS.refl _) rfl rfl)
    · rw [if_pos rfl] at hst
      simp only at hst hm2 hn2
      (conv => whnf); repeat' (first
    | (refine And.intro ?_ ?_ <;> ((try intro h) <;> (try simp only [Bool.not_true, Bool.not_false, decide_eq_true_eq, decide_eq_false_iff_not, Int.not_lt, Int.not_le, gt_iff_lt, ge_iff_le] at h) <;> first | exact absurd h Bool.false_ne_true | exact absurd h.symm Bool.false_ne_true | conv => whnf))
    | (refine VL.drawS hTb hMix (by kernel_rfl) (by kernel_rfl) (by kernel_rfl) ?_; conv => whnf)
    | (refine Need.mk ?_; kernel_rfl) | (refine Need.mk ⟨rfl, ?_⟩; decide)
    | (refine VR.op hTb rfl rfl (o_index_imm hTb rfl rfl rfl rfl rfl rfl rfl (by omega) (hrow)) rfl ?_; conv => whnf)
    | (refine DT.op hTb rfl (o_index_imm hTb rfl rfl rfl rfl rfl rfl rfl (by omega) (hrow)) rfl ?_; conv => whnf)
    | (refine VR.fun hTb rfl rfl (o_funN (cX) true [] (fun _ => grShS _) (by simp) rfl rfl rfl rfl rfl ⟨rfl, rfl, rfl, rfl⟩ ?_ rfl) ?_; exact congrArg (fun s => [s, _]) brw; conv => whnf)
    | (refine DT.fun hTb rfl (o_funN (cX) true [] (fun _ => grShS _) (by simp) rfl rfl rfl rfl rfl ⟨rfl, rfl, rfl, rfl⟩ ?_ rfl) rfl ?_; exact congrArg (fun s => [s, _]) brw; conv => whnf))
      exact ⟨(i + 1, y1), ⟨hlt, hf.trans hst, hm2, (by show y1.length ≤ s.length + (i + 1); omega)⟩, by show _ - (i + 1) < _ - i; omega, wk_to [(1088, 1048)] rfl rfl rfl ⟨rfl, rfl, rfl, congrArg (fun x => Slot.one (.g (.int .i64 x))) (wrap64' (by unfold maxLen; omega)), trivial⟩ ⟨rfl, ⟨_, rfl, rfl⟩, trivial⟩⟩
  · have hge : list.length ≤ i := by simp at h2; omega
    rw [hf, chGo_end hge]
    (conv => whnf)
    exact endW [1048] rfl rfl rfl rfl rfl (LeS.refl _) rfl rfl
def shAll (s : List Col) (list : List Change) : List Col × Bool := if shapeOk s = true then allS (chGo s list) else ([], false)
theorem c_implShapeAll (s : List Col) (list : List Change) (hl : s.length + list.length ≤ 1900000) (hs : mdCols s) (hc : mdChs list) : CallsV Tryd.prog 27 [colsI s, changesI list] [] (funQ (shS (shAll s list)) [] (shN (shAll s list))) := by
  have c1 := c_implShapeOk s (by unfold maxLen; omega) hs.ok
  have c2 := c_changes s list hl hs hc
  unfold shAll
  obtain ⟨b, hb⟩ : ∃ b, shapeOk s = b := ⟨_, rfl⟩
  rw [hb] at c1 ⊢
  refine funF_walk hTb Tryd.func27 rfl rfl Tryd.ntmps27 (by simp) (by simp) ?_
  cases b
  · rw [if_neg (by simp)]
    (conv => whnf); repeat' (first
    | (refine And.intro ?_ ?_ <;> ((try intro h) <;> (try simp only [Bool.not_true, Bool.not_false, decide_eq_true_eq, decide_eq_false_iff_not, Int.not_lt, Int.not_le, gt_iff_lt, ge_iff_le] at h) <;> first | exact absurd h Bool.false_ne_true | exact absurd h.symm Bool.false_ne_true | conv => whnf))
    | (refine VL.drawS hTb hMix (by kernel_rfl) (by kernel_rfl) (by kernel_rfl) ?_; conv => whnf)
    | (refine Need.mk ?_; kernel_rfl) | (refine Need.mk ⟨rfl, ?_⟩; decide)
    | (refine VR.pure hTb rfl rfl (o_purN (c1) rfl rfl rfl ⟨rfl, rfl, rfl, rfl⟩ rfl) ?_; conv => whnf)
    | (refine DT.pure hTb rfl (o_purN (c1) rfl rfl rfl ⟨rfl, rfl, rfl, rfl⟩ rfl) ?_; conv => whnf))
    exact EndV.nil 4 104 7 31 rfl rfl (by decide) (endW [104] rfl rfl rfl rfl rfl (LeS.refl _) rfl rfl)
  · rw [if_pos rfl]
    generalize allS (chGo s list) = y at c2
    obtain ⟨y1, y2⟩ := y
    (conv => whnf); repeat' (first
    | (refine And.intro ?_ ?_ <;> ((try intro h) <;> (try simp only [Bool.not_true, Bool.not_false, decide_eq_true_eq, decide_eq_false_iff_not, Int.not_lt, Int.not_le, gt_iff_lt, ge_iff_le] at h) <;> first | exact absurd h Bool.false_ne_true | exact absurd h.symm Bool.false_ne_true | conv => whnf))
    | (refine VL.drawS hTb hMix (by kernel_rfl) (by kernel_rfl) (by kernel_rfl) ?_; conv => whnf)
    | (refine Need.mk ?_; kernel_rfl) | (refine Need.mk ⟨rfl, ?_⟩; decide)
    | (refine VR.pure hTb rfl rfl (o_purN (c1) rfl rfl rfl ⟨rfl, rfl, rfl, rfl⟩ rfl) ?_; conv => whnf)
    | (refine DT.pure hTb rfl (o_purN (c1) rfl rfl rfl ⟨rfl, rfl, rfl, rfl⟩ rfl) ?_; conv => whnf)
    | (refine VR.fun hTb rfl rfl (o_funN (c2) false [] (fun h => by cases h) (by simp) rfl rfl rfl rfl rfl ⟨rfl, rfl, rfl, rfl⟩ rfl rfl) ?_; conv => whnf)
    | (refine DT.fun hTb rfl (o_funN (c2) false [] (fun h => by cases h) (by simp) rfl rfl rfl rfl rfl ⟨rfl, rfl, rfl, rfl⟩ rfl rfl) rfl ?_; conv => whnf))
    exact endW [1044] rfl rfl rfl rfl rfl (LeS.refl _) rfl rfl
theorem c_specShapeAll (s : List Col) (list : List Change) (hl : s.length + list.length ≤ 1900000) (hs : mdCols s) (hc : mdChs list) : CallsV Tryd.prog 28 [colsI s, changesI list] [] (funQ (shS (shAll s list)) [] (shN (shAll s list))) := by
  have c1 := c_specShapeOk s (by unfold maxLen; omega) hs.ok
  unfold shAll
  obtain ⟨b, hb⟩ : ∃ b, shapeOk s = b := ⟨_, rfl⟩
  rw [hb] at c1 ⊢
  refine funF_walk hTb Tryd.func28 rfl rfl Tryd.ntmps28 (by simp) (by simp) ?_
  cases b
  · rw [if_neg (by simp)]
    (conv => whnf); repeat' (first
    | (refine And.intro ?_ ?_ <;> ((try intro h) <;> (try simp only [Bool.not_true, Bool.not_false, decide_eq_true_eq, decide_eq_false_iff_not, Int.not_lt, Int.not_le, gt_iff_lt, ge_iff_le] at h) <;> first | exact absurd h Bool.false_ne_true | exact absurd h.symm Bool.false_ne_true | conv => whnf))
    | (refine VL.drawS hTb hMix (by kernel_rfl) (by kernel_rfl) (by kernel_rfl) ?_; conv => whnf)
    | (refine Need.mk ?_; kernel_rfl) | (refine Need.mk ⟨rfl, ?_⟩; decide)
    | (refine VR.pure hTb rfl rfl (o_purN (c1) rfl rfl rfl ⟨rfl, rfl, rfl, rfl⟩ rfl) ?_; conv => whnf)
    | (refine DT.pure hTb rfl (o_purN (c1) rfl rfl rfl ⟨rfl, rfl, rfl, rfl⟩ rfl) ?_; conv => whnf))
    exact endW [112] rfl rfl rfl rfl rfl (LeS.refl _) rfl rfl
  rw [if_pos rfl]
  (conv => whnf); repeat' (first
    | (refine And.intro ?_ ?_ <;> ((try intro h) <;> (try simp only [Bool.not_true, Bool.not_false, decide_eq_true_eq, decide_eq_false_iff_not, Int.not_lt, Int.not_le, gt_iff_lt, ge_iff_le] at h) <;> first | exact absurd h Bool.false_ne_true | exact absurd h.symm Bool.false_ne_true | conv => whnf))
    | (refine VL.drawS hTb hMix (by kernel_rfl) (by kernel_rfl) (by kernel_rfl) ?_; conv => whnf)
    | (refine Need.mk ?_; kernel_rfl) | (refine Need.mk ⟨rfl, ?_⟩; decide)
    | (refine VR.pure hTb rfl rfl (o_purN (c1) rfl rfl rfl ⟨rfl, rfl, rfl, rfl⟩ rfl) ?_; conv => whnf)
    | (refine DT.pure hTb rfl (o_purN (c1) rfl rfl rfl ⟨rfl, rfl, rfl, rfl⟩ rfl) ?_; conv => whnf)
    | (refine VR.opk hTb rfl rfl (o_app0 (f := encCol) (m := s) (q := 115) hTb rfl rfl rfl rfl rfl rfl rfl rfl rfl rfl (by omega) (by show _ * 64 ≤ _; omega) (by unfold maxLen; omega)) ?_; conv => whnf)
    | (refine DT.opk hTb rfl (o_app0 (f := encCol) (m := s) (q := 115) hTb rfl rfl rfl rfl rfl rfl rfl rfl rfl rfl (by omega) (by show _ * 64 ≤ _; omega) (by unfold maxLen; omega)) ?_; conv => whnf))
  refine VL.loopI hTb (α := Nat × List Col) (fun x => x.1 ≤ list.length ∧ chGo s list = chGo x.2 (list.drop x.1) ∧ mdCols x.2 ∧ x.2.length ≤ s.length + x.1 ∧ shapeOk x.2 = true) (fun x => ⟨[(1, changesI list), (6, .one (.own 115 0 x.2.length)), (7, iS x.1)], [(115, .arr 31 7 (x.2.map encCol))], []⟩) (fun x => list.length - x.1) (0, s) ⟨Nat.zero_le _, rfl, hs, by simp, hb⟩
    (wk_to [(115, 115)] rfl rfl rfl ⟨rfl, rfl, rfl, trivial⟩ ⟨rfl, ⟨_, rfl, rfl⟩, trivial⟩) (fun x hx => ?_)
  obtain ⟨i, out⟩ := x
  obtain ⟨hi, hf, hm, hn, ho⟩ := hx
  simp only at hi hf hm hn ho
  (conv => whnf)
  refine And.intro (fun h2 => ?_) (fun h2 => ?_)
  · have hlt : i < list.length := by simpa using h2
    have hrow := rowChange hlt
    have hst := chGo_step (s := out) hlt
    have cX := c_specShapeDo out list[i] (by omega) hm (hc _ (List.getElem_mem hlt))
    have hsd : sdo out list[i] = shDo out list[i] := by unfold sdo; rw [if_pos ho]
    have hm2 := shDo_md hm (hc _ (List.getElem_mem hlt))
    have hn2 := @shDo_len out list[i]
    have ho2 := @shDo_ok out list[i]
    rw [hsd] at cX
    generalize list[i] = ci at hrow hst cX hm2 hn2 ho2
    obtain ⟨kd, nm, nw, ⟨cn, ck, k1, k2, ⟨d1, d2, d3⟩⟩⟩ := ci
    generalize shDo out ⟨kd, nm, nw, ⟨cn, ck, k1, k2, ⟨d1, d2, d3⟩⟩⟩ = y at cX hst hm2 hn2 ho2
    obtain ⟨y1, b⟩ := y
    cases b
    · rw [hf, hst, if_neg (by simp)]
      (conv => whnf); repeat' (first
    | (refine And.intro ?_ ?_ <;> ((try intro h) <;> (try simp only [Bool.not_true, Bool.not_false, decide_eq_true_eq, decide_eq_false_iff_not, Int.not_lt, Int.not_le, gt_iff_lt, ge_iff_le] at h) <;> first | exact absurd h Bool.false_ne_true | exact absurd h.symm Bool.false_ne_true | conv => whnf))
    | (refine VL.drawS hTb hMix (by kernel_rfl) (by kernel_rfl) (by kernel_rfl) ?_; conv => whnf)
    | (refine Need.mk ?_; kernel_rfl) | (refine Need.mk ⟨rfl, ?_⟩; decide)
    | (refine VR.op hTb rfl rfl (o_index_imm hTb rfl rfl rfl rfl rfl rfl rfl (by omega) (hrow)) rfl ?_; conv => whnf)
    | (refine DT.op hTb rfl (o_index_imm hTb rfl rfl rfl rfl rfl rfl rfl (by omega) (hrow)) rfl ?_; conv => whnf)
    | (refine VR.fun hTb rfl rfl (o_funN (cX) true [] (fun _ => grShS _) (by simp) rfl rfl rfl rfl rfl ⟨rfl, rfl, rfl, rfl⟩ ?_ rfl) ?_; exact congrArg (fun s => [s, _]) brw; conv => whnf)
    | (refine DT.fun hTb rfl (o_funN (cX) true [] (fun _ => grShS _) (by simp) rfl rfl rfl rfl rfl ⟨rfl, rfl, rfl, rfl⟩ ?_ rfl) rfl ?_; exact congrArg (fun s => [s, _]) brw; conv => whnf))
      exact endW [133] rfl rfl rfl rfl rfl (LeS.refl _) rfl rfl
    · rw [if_pos rfl] at hst
      simp only at hst hm2 hn2
      have ho3 := (ho2 rfl).1
      (conv => whnf); repeat' (first
    | (refine And.intro ?_ ?_ <;> ((try intro h) <;> (try simp only [Bool.not_true, Bool.not_false, decide_eq_true_eq, decide_eq_false_iff_not, Int.not_lt, Int.not_le, gt_iff_lt, ge_iff_le] at h) <;> first | exact absurd h Bool.false_ne_true | exact absurd h.symm Bool.false_ne_true | conv => whnf))
    | (refine VL.drawS hTb hMix (by kernel_rfl) (by kernel_rfl) (by kernel_rfl) ?_; conv => whnf)
    | (refine Need.mk ?_; kernel_rfl) | (refine Need.mk ⟨rfl, ?_⟩; decide)
    | (refine VR.op hTb rfl rfl (o_index_imm hTb rfl rfl rfl rfl rfl rfl rfl (by omega) (hrow)) rfl ?_; conv => whnf)
    | (refine DT.op hTb rfl (o_index_imm hTb rfl rfl rfl rfl rfl rfl rfl (by omega) (hrow)) rfl ?_; conv => whnf)
    | (refine VR.fun hTb rfl rfl (o_funN (cX) true [] (fun _ => grShS _) (by simp) rfl rfl rfl rfl rfl ⟨rfl, rfl, rfl, rfl⟩ ?_ rfl) ?_; exact congrArg (fun s => [s, _]) brw; conv => whnf)
    | (refine DT.fun hTb rfl (o_funN (cX) true [] (fun _ => grShS _) (by simp) rfl rfl rfl rfl rfl ⟨rfl, rfl, rfl, rfl⟩ ?_ rfl) rfl ?_; exact congrArg (fun s => [s, _]) brw; conv => whnf))
      exact ⟨(i + 1, y1), ⟨hlt, hf.trans hst, hm2, (by show y1.length ≤ s.length + (i + 1); omega), ho3⟩, by show _ - (i + 1) < _ - i; omega, wk_to [(1112, 115)] rfl rfl rfl ⟨rfl, rfl, congrArg (fun x => Slot.one (.g (.int .i64 x))) (wrap64' (by unfold maxLen; omega)), trivial⟩ ⟨rfl, ⟨_, rfl, rfl⟩, trivial⟩⟩
  · have hge : list.length ≤ i := by simp at h2; omega
    rw [hf, chGo_end hge]
    (conv => whnf)
    exact endW [115] rfl rfl rfl rfl rfl (LeS.refl _) rfl rfl
end Go.Vl
