/- Contracts: things turned, things like themselves. Printed by our own gends.py. The types of what is handed in, as leaves. Printed by our own gends.py. -/
import Derived.Test.YthjgifpjknnimaaJDb
import Derived.Test.YthjgifpjknnimaaWk
import Derived.Test.YthjgifpjknnimaaJDa
set_option linter.unusedSimpArgs false
set_option linter.unusedVariables false

namespace Go.Vl
open Go Go.RowKit Go.Proofs
set_option maxRecDepth 100000
set_option linter.unusedSimpArgs false
set_option linter.unusedVariables false
set_option maxHeartbeats 2000000
def trG {α : Type} (enc : α → List Leaf) (z : List Leaf) (l : List α) (i : Nat) : List (List Leaf) := (l.take i).map enc ++ List.replicate (l.length - i) z
section
variable {α : Type} {enc : α → List Leaf} {z : List Leaf} {l : List α}
theorem trG_get {i : Nat} (hi : i ≤ l.length) (k : Nat) : (trG enc z l i)[k]? = if k < i then (l[k]?).map enc else if k < l.length then some z else none := by
  unfold trG
  rw [List.getElem?_append]
  simp only [List.length_map, List.length_take, Nat.min_eq_left hi]
  by_cases h : k < i
  · rw [if_pos h, if_pos h, List.getElem?_map, List.getElem?_take, if_pos h]
  · rw [if_neg h, if_neg h, List.getElem?_replicate]
    by_cases h2 : k < l.length
    · rw [if_pos (by omega), if_pos h2]
    · rw [if_neg (by omega), if_neg h2]
theorem trG_set {i : Nat} (hi : i < l.length) : (trG enc z l i).set i (enc l[i]) = trG enc z l (i + 1) := by
  refine List.ext_getElem? fun k => ?_
  rw [List.getElem?_set, trG_get (by omega), trG_get (by omega)]
  have hlen : (trG enc z l i).length = l.length := by simp [trG]; omega
  by_cases h : i = k
  · subst h
    rw [if_pos rfl, if_pos (by omega), if_pos (by omega), List.getElem?_eq_getElem hi]; rfl
  · rw [if_neg h]
    by_cases h2 : k < i
    · rw [if_pos h2, if_pos (by omega)]
    · rw [if_neg h2, if_neg (show ¬ k < i + 1 by omega)]
theorem trG_all : trG enc z l l.length = l.map enc := by simp [trG]
theorem trG_zero : trG enc z l 0 = List.replicate l.length z := by simp [trG]
theorem trG_at {i : Nat} (hi : i < l.length) : (trG enc z l i)[0 + ((i : Nat) : Int).toNat]? = some z := by
  rw [Int.toNat_natCast, Nat.zero_add, trG_get (by omega), if_neg (by omega), if_pos hi]
end
theorem t_Val (v : Val) (hv : v.sm) : CallsV Try.prog 68 [.agg (encVal v)] [] (pureQ (.agg (encVal v))) := by
  obtain ⟨k, n, t⟩ := v
  simp only [Val.sm] at hv
  refine pureF_walk hTb Try.func68 rfl rfl Try.ntmps68 (by simp) ?_
  (conv => whnf); repeat' (first | (refine And.intro ?_ ?_ <;> ((try intro h) <;> (try simp only [Bool.not_true, Bool.not_false] at h) <;> first | exact absurd h Bool.false_ne_true | exact absurd h.symm Bool.false_ne_true | conv => whnf)) | (refine Need.mk ?_; kernel_rfl) | (refine Need.mk ⟨rfl, ?_⟩; decide))
  all_goals exact endFz rfl rfl rfl
theorem t_Col (v : Col) (hv : v.sm) : CallsV Try.prog 43 [.agg (encCol v)] [] (pureQ (.agg (encCol v))) := by
  obtain ⟨name, kind, need, once, ⟨d_k, d_n, d_t⟩⟩ := v
  simp only [Col.sm] at hv
  refine pureF_walk hTb Try.func43 rfl rfl Try.ntmps43 (by simp) ?_
  (conv => whnf); repeat' (first
    | (refine And.intro ?_ ?_ <;> ((try intro h) <;> (try simp only [Bool.not_true, Bool.not_false, decide_eq_true_eq, decide_eq_false_iff_not, Int.not_lt, Int.not_le, gt_iff_lt, ge_iff_le] at h) <;> first | exact absurd h Bool.false_ne_true | exact absurd h.symm Bool.false_ne_true | conv => whnf))
    | (refine VL.drawS hTb hMix (by kernel_rfl) (by kernel_rfl) (by kernel_rfl) ?_; conv => whnf)
    | (refine Need.mk ?_; kernel_rfl) | (refine Need.mk ⟨rfl, ?_⟩; decide)
    | (refine VR.pure hTb rfl rfl (o_purF (t_Val ⟨_, _, _⟩ (hv)) rfl rfl rfl ⟨rfl, rfl, rfl, rfl⟩ rfl) ?_; conv => whnf)
    | (refine DT.pure hTb rfl (o_purF (t_Val ⟨_, _, _⟩ (hv)) rfl rfl rfl ⟨rfl, rfl, rfl, rfl⟩ rfl) ?_; conv => whnf))
  all_goals exact endFz rfl rfl rfl
theorem t_Cols (l : List Col) (hv : l.length ≤ 1048576 ∧ ∀ x ∈ l, x.sm) : CallsV Try.prog 12 [colsI l] [] (pureQ (colsI l)) := by
  have hl := hv.1
  refine pureF_walk hTb Try.func12 rfl rfl Try.ntmps12 (by simp) ?_
  (conv => whnf); repeat' (first | (refine And.intro ?_ ?_ <;> ((try intro h) <;> (try simp only [Bool.not_true, Bool.not_false] at h) <;> first | exact absurd h Bool.false_ne_true | exact absurd h.symm Bool.false_ne_true | conv => whnf)) | (refine Need.mk ?_; kernel_rfl) | (refine Need.mk ⟨rfl, ?_⟩; decide))
  refine VR.op hTb rfl rfl (o_make (q := 107) hTb rfl rfl rfl rfl rfl rfl (by decide) (by show 64 * _ ≤ _; simp; omega) (by unfold maxLen; simp; omega) rfl (by omega)) rfl ?_
  (conv => whnf); repeat' (first | (refine And.intro ?_ ?_ <;> ((try intro h) <;> (try simp only [Bool.not_true, Bool.not_false] at h) <;> first | exact absurd h Bool.false_ne_true | exact absurd h.symm Bool.false_ne_true | conv => whnf)) | (refine Need.mk ?_; kernel_rfl) | (refine Need.mk ⟨rfl, ?_⟩; decide))
  refine VL.loopI hTb (fun i => i ≤ l.length) (fun i => ⟨[(0, colsI l), (3, .one (.own 107 0 (l.map encCol).length)), (4, iS i)], [(107, .arr 40 7 (trG encCol [.g (.string ⟨#[]⟩), .g (.int .i64 0), .g (.bool false), .g (.bool false), .g (.int .i64 0), .g (.int .i64 0), .g (.string ⟨#[]⟩)] l i))], []⟩) (fun i => l.length - i) 0 (Nat.zero_le _)
    (wk_to [(107, 107)] rfl rfl rfl ⟨rfl, rfl, rfl, trivial⟩ ⟨rfl, ⟨_, rfl, ?_⟩, trivial⟩) (fun i hi => ?_)
  · rw [trG_zero, ← List.length_map (f := encCol)]; rfl
  (conv => whnf)
  refine And.intro (fun h2 => ?_) (fun h2 => ?_)
  · have hlt : i < l.length := by simpa using h2
    have hrow := rowCol hlt
    have hz := trG_at (enc := encCol) (z := [.g (.string ⟨#[]⟩), .g (.int .i64 0), .g (.bool false), .g (.bool false), .g (.int .i64 0), .g (.int .i64 0), .g (.string ⟨#[]⟩)]) hlt
    have hc := t_Col l[i] (hv.2 _ (List.getElem_mem hlt))
    generalize hci : l[i] = ci at hrow hc
    obtain ⟨name, kind, need, once, ⟨d_k, d_n, d_t⟩⟩ := ci
    (conv => whnf); repeat' (first
    | (refine And.intro ?_ ?_ <;> ((try intro h) <;> (try simp only [Bool.not_true, Bool.not_false, decide_eq_true_eq, decide_eq_false_iff_not, Int.not_lt, Int.not_le, gt_iff_lt, ge_iff_le] at h) <;> first | exact absurd h Bool.false_ne_true | exact absurd h.symm Bool.false_ne_true | conv => whnf))
    | (refine VL.drawS hTb hMix (by kernel_rfl) (by kernel_rfl) (by kernel_rfl) ?_; conv => whnf)
    | (refine Need.mk ?_; kernel_rfl) | (refine Need.mk ⟨rfl, ?_⟩; decide)
    | (refine VR.op hTb rfl rfl (o_index_imm hTb rfl rfl rfl rfl rfl rfl rfl (by omega) (hrow)) rfl ?_; conv => whnf)
    | (refine DT.op hTb rfl (o_index_imm hTb rfl rfl rfl rfl rfl rfl rfl (by omega) (hrow)) rfl ?_; conv => whnf)
    | (refine VR.pure hTb rfl rfl (o_purF (hc) rfl rfl rfl ⟨rfl, rfl, rfl, rfl⟩ rfl) ?_; conv => whnf)
    | (refine DT.pure hTb rfl (o_purF (hc) rfl rfl rfl ⟨rfl, rfl, rfl, rfl⟩ rfl) ?_; conv => whnf)
    | (refine Need.mk ?_; exact ⟨rfl, by omega, by first | (simp; done) | (simp; omega)⟩)
    | (refine VR.op hTb rfl rfl (o_store_elm hTb rfl rfl rfl rfl rfl (hz) rfl rfl rfl ⟨rfl, by decide⟩) rfl ?_; conv => whnf)
    | (refine DT.op hTb rfl (o_store_elm hTb rfl rfl rfl rfl rfl (hz) rfl rfl rfl ⟨rfl, by decide⟩) rfl ?_; conv => whnf))
    refine ⟨i + 1, hlt, by omega, wk_to [(107, 107)] rfl rfl rfl ⟨rfl, rfl, congrArg (fun x => Slot.one (.g (.int .i64 x))) (wrap64' (by unfold maxLen; omega)), trivial⟩ ⟨rfl, ⟨_, rfl, ?_⟩, trivial⟩⟩
    show Ob.arr _ 7 ((trG encCol _ l i).set (0 + ((i : Nat) : Int).toNat) (encCol ⟨name, kind, need, once, ⟨d_k, d_n, d_t⟩⟩)) = _
    rw [Int.toNat_natCast, Nat.zero_add, ← hci, trG_set hlt]
  · (conv => whnf)
    have : i = l.length := by simp at h2; omega
    subst this
    refine endFz rfl rfl ?_
    show Slot.one (.imm 7 (((trG encCol _ l l.length).drop 0).take (l.map encCol).length)) = _
    rw [trG_all, List.drop_zero, List.take_length] <;> rfl
theorem t_Change (v : Change) (hv : v.sm) : CallsV Try.prog 29 [.agg (encChange v)] [] (pureQ (.agg (encChange v))) := by
  obtain ⟨kind, name, new, ⟨col_name, col_kind, col_need, col_once, ⟨col_d_k, col_d_n, col_d_t⟩⟩⟩ := v
  simp only [Change.sm] at hv
  refine pureF_walk hTb Try.func29 rfl rfl Try.ntmps29 (by simp) ?_
  (conv => whnf); repeat' (first
    | (refine And.intro ?_ ?_ <;> ((try intro h) <;> (try simp only [Bool.not_true, Bool.not_false, decide_eq_true_eq, decide_eq_false_iff_not, Int.not_lt, Int.not_le, gt_iff_lt, ge_iff_le] at h) <;> first | exact absurd h Bool.false_ne_true | exact absurd h.symm Bool.false_ne_true | conv => whnf))
    | (refine VL.drawS hTb hMix (by kernel_rfl) (by kernel_rfl) (by kernel_rfl) ?_; conv => whnf)
    | (refine Need.mk ?_; kernel_rfl) | (refine Need.mk ⟨rfl, ?_⟩; decide)
    | (refine VR.pure hTb rfl rfl (o_purF (t_Col ⟨_, _, _, _, ⟨_, _, _⟩⟩ (hv)) rfl rfl rfl ⟨rfl, rfl, rfl, rfl⟩ rfl) ?_; conv => whnf)
    | (refine DT.pure hTb rfl (o_purF (t_Col ⟨_, _, _, _, ⟨_, _, _⟩⟩ (hv)) rfl rfl rfl ⟨rfl, rfl, rfl, rfl⟩ rfl) ?_; conv => whnf))
  all_goals exact endFz rfl rfl rfl
theorem t_VSet (v : VSet) (hv : v.sm) : CallsV Try.prog 58 [.agg (encVSet v)] [] (pureQ (.agg (encVSet v))) := by
  obtain ⟨name, ⟨val_k, val_n, val_t⟩⟩ := v
  simp only [VSet.sm] at hv
  refine pureF_walk hTb Try.func58 rfl rfl Try.ntmps58 (by simp) ?_
  (conv => whnf); repeat' (first
    | (refine And.intro ?_ ?_ <;> ((try intro h) <;> (try simp only [Bool.not_true, Bool.not_false, decide_eq_true_eq, decide_eq_false_iff_not, Int.not_lt, Int.not_le, gt_iff_lt, ge_iff_le] at h) <;> first | exact absurd h Bool.false_ne_true | exact absurd h.symm Bool.false_ne_true | conv => whnf))
    | (refine VL.drawS hTb hMix (by kernel_rfl) (by kernel_rfl) (by kernel_rfl) ?_; conv => whnf)
    | (refine Need.mk ?_; kernel_rfl) | (refine Need.mk ⟨rfl, ?_⟩; decide)
    | (refine VR.pure hTb rfl rfl (o_purF (t_Val ⟨_, _, _⟩ (hv)) rfl rfl rfl ⟨rfl, rfl, rfl, rfl⟩ rfl) ?_; conv => whnf)
    | (refine DT.pure hTb rfl (o_purF (t_Val ⟨_, _, _⟩ (hv)) rfl rfl rfl ⟨rfl, rfl, rfl, rfl⟩ rfl) ?_; conv => whnf))
  all_goals exact endFz rfl rfl rfl
theorem t_VSets (l : List VSet) (hv : l.length ≤ 1048576 ∧ ∀ x ∈ l, x.sm) : CallsV Try.prog 28 [vsetsI l] [] (pureQ (vsetsI l)) := by
  have hl := hv.1
  refine pureF_walk hTb Try.func28 rfl rfl Try.ntmps28 (by simp) ?_
  (conv => whnf); repeat' (first | (refine And.intro ?_ ?_ <;> ((try intro h) <;> (try simp only [Bool.not_true, Bool.not_false] at h) <;> first | exact absurd h Bool.false_ne_true | exact absurd h.symm Bool.false_ne_true | conv => whnf)) | (refine Need.mk ?_; kernel_rfl) | (refine Need.mk ⟨rfl, ?_⟩; decide))
  refine VR.op hTb rfl rfl (o_make (q := 107) hTb rfl rfl rfl rfl rfl rfl (by decide) (by show 48 * _ ≤ _; simp; omega) (by unfold maxLen; simp; omega) rfl (by omega)) rfl ?_
  (conv => whnf); repeat' (first | (refine And.intro ?_ ?_ <;> ((try intro h) <;> (try simp only [Bool.not_true, Bool.not_false] at h) <;> first | exact absurd h Bool.false_ne_true | exact absurd h.symm Bool.false_ne_true | conv => whnf)) | (refine Need.mk ?_; kernel_rfl) | (refine Need.mk ⟨rfl, ?_⟩; decide))
  refine VL.loopI hTb (fun i => i ≤ l.length) (fun i => ⟨[(0, vsetsI l), (3, .one (.own 107 0 (l.map encVSet).length)), (4, iS i)], [(107, .arr 92 4 (trG encVSet [.g (.string ⟨#[]⟩), .g (.int .i64 0), .g (.int .i64 0), .g (.string ⟨#[]⟩)] l i))], []⟩) (fun i => l.length - i) 0 (Nat.zero_le _)
    (wk_to [(107, 107)] rfl rfl rfl ⟨rfl, rfl, rfl, trivial⟩ ⟨rfl, ⟨_, rfl, ?_⟩, trivial⟩) (fun i hi => ?_)
  · rw [trG_zero, ← List.length_map (f := encVSet)]; rfl
  (conv => whnf)
  refine And.intro (fun h2 => ?_) (fun h2 => ?_)
  · have hlt : i < l.length := by simpa using h2
    have hrow := rowVSet hlt
    have hz := trG_at (enc := encVSet) (z := [.g (.string ⟨#[]⟩), .g (.int .i64 0), .g (.int .i64 0), .g (.string ⟨#[]⟩)]) hlt
    have hc := t_VSet l[i] (hv.2 _ (List.getElem_mem hlt))
    generalize hci : l[i] = ci at hrow hc
    obtain ⟨name, ⟨val_k, val_n, val_t⟩⟩ := ci
    (conv => whnf); repeat' (first
    | (refine And.intro ?_ ?_ <;> ((try intro h) <;> (try simp only [Bool.not_true, Bool.not_false, decide_eq_true_eq, decide_eq_false_iff_not, Int.not_lt, Int.not_le, gt_iff_lt, ge_iff_le] at h) <;> first | exact absurd h Bool.false_ne_true | exact absurd h.symm Bool.false_ne_true | conv => whnf))
    | (refine VL.drawS hTb hMix (by kernel_rfl) (by kernel_rfl) (by kernel_rfl) ?_; conv => whnf)
    | (refine Need.mk ?_; kernel_rfl) | (refine Need.mk ⟨rfl, ?_⟩; decide)
    | (refine VR.op hTb rfl rfl (o_index_imm hTb rfl rfl rfl rfl rfl rfl rfl (by omega) (hrow)) rfl ?_; conv => whnf)
    | (refine DT.op hTb rfl (o_index_imm hTb rfl rfl rfl rfl rfl rfl rfl (by omega) (hrow)) rfl ?_; conv => whnf)
    | (refine VR.pure hTb rfl rfl (o_purF (hc) rfl rfl rfl ⟨rfl, rfl, rfl, rfl⟩ rfl) ?_; conv => whnf)
    | (refine DT.pure hTb rfl (o_purF (hc) rfl rfl rfl ⟨rfl, rfl, rfl, rfl⟩ rfl) ?_; conv => whnf)
    | (refine Need.mk ?_; exact ⟨rfl, by omega, by first | (simp; done) | (simp; omega)⟩)
    | (refine VR.op hTb rfl rfl (o_store_elm hTb rfl rfl rfl rfl rfl (hz) rfl rfl rfl ⟨rfl, by decide⟩) rfl ?_; conv => whnf)
    | (refine DT.op hTb rfl (o_store_elm hTb rfl rfl rfl rfl rfl (hz) rfl rfl rfl ⟨rfl, by decide⟩) rfl ?_; conv => whnf))
    refine ⟨i + 1, hlt, by omega, wk_to [(107, 107)] rfl rfl rfl ⟨rfl, rfl, congrArg (fun x => Slot.one (.g (.int .i64 x))) (wrap64' (by unfold maxLen; omega)), trivial⟩ ⟨rfl, ⟨_, rfl, ?_⟩, trivial⟩⟩
    show Ob.arr _ 4 ((trG encVSet _ l i).set (0 + ((i : Nat) : Int).toNat) (encVSet ⟨name, ⟨val_k, val_n, val_t⟩⟩)) = _
    rw [Int.toNat_natCast, Nat.zero_add, ← hci, trG_set hlt]
  · (conv => whnf)
    have : i = l.length := by simp at h2; omega
    subst this
    refine endFz rfl rfl ?_
    show Slot.one (.imm 4 (((trG encVSet _ l l.length).drop 0).take (l.map encVSet).length)) = _
    rw [trG_all, List.drop_zero, List.take_length] <;> rfl
theorem t_VLink (v : VLink) (hv : v.sm) : CallsV Try.prog 30 [.agg (encVLink v)] [] (pureQ (.agg (encVLink v))) := by
  obtain ⟨src, col, dst, how⟩ := v
  simp only [VLink.sm] at hv
  refine pureF_walk hTb Try.func30 rfl rfl Try.ntmps30 (by simp) ?_
  (conv => whnf); repeat' (first | (refine And.intro ?_ ?_ <;> ((try intro h) <;> (try simp only [Bool.not_true, Bool.not_false] at h) <;> first | exact absurd h Bool.false_ne_true | exact absurd h.symm Bool.false_ne_true | conv => whnf)) | (refine Need.mk ?_; kernel_rfl) | (refine Need.mk ⟨rfl, ?_⟩; decide))
  all_goals exact endFz rfl rfl rfl
theorem t_VAct (v : VAct) (hv : v.sm) : CallsV Try.prog 7 [.agg (encVAct v)] [] (pureQ (.agg (encVAct v))) := by
  obtain ⟨kind, name, id, sets, cols, ⟨change_kind, change_name, change_new, ⟨change_col_name, change_col_kind, change_col_need, change_col_once, ⟨change_col_d_k, change_col_d_n, change_col_d_t⟩⟩⟩, ⟨link_src, link_col, link_dst, link_how⟩⟩ := v
  simp only [VAct.sm] at hv
  refine pureF_walk hTb Try.func7 rfl rfl Try.ntmps7 (by simp) ?_
  (conv => whnf); repeat' (first
    | (refine And.intro ?_ ?_ <;> ((try intro h) <;> (try simp only [Bool.not_true, Bool.not_false, decide_eq_true_eq, decide_eq_false_iff_not, Int.not_lt, Int.not_le, gt_iff_lt, ge_iff_le] at h) <;> first | exact absurd h Bool.false_ne_true | exact absurd h.symm Bool.false_ne_true | conv => whnf))
    | (refine VL.drawS hTb hMix (by kernel_rfl) (by kernel_rfl) (by kernel_rfl) ?_; conv => whnf)
    | (refine Need.mk ?_; kernel_rfl) | (refine Need.mk ⟨rfl, ?_⟩; decide)
    | (refine VR.pure hTb rfl rfl (o_purF (t_VSets _ (hv.1)) rfl rfl rfl ⟨rfl, rfl, rfl, rfl⟩ rfl) ?_; conv => whnf)
    | (refine DT.pure hTb rfl (o_purF (t_VSets _ (hv.1)) rfl rfl rfl ⟨rfl, rfl, rfl, rfl⟩ rfl) ?_; conv => whnf)
    | (refine VR.pure hTb rfl rfl (o_purF (t_Cols _ (hv.2.1)) rfl rfl rfl ⟨rfl, rfl, rfl, rfl⟩ rfl) ?_; conv => whnf)
    | (refine DT.pure hTb rfl (o_purF (t_Cols _ (hv.2.1)) rfl rfl rfl ⟨rfl, rfl, rfl, rfl⟩ rfl) ?_; conv => whnf)
    | (refine VR.pure hTb rfl rfl (o_purF (t_Change ⟨_, _, _, ⟨_, _, _, _, ⟨_, _, _⟩⟩⟩ (hv.2.2.1)) rfl rfl rfl ⟨rfl, rfl, rfl, rfl⟩ rfl) ?_; conv => whnf)
    | (refine DT.pure hTb rfl (o_purF (t_Change ⟨_, _, _, ⟨_, _, _, _, ⟨_, _, _⟩⟩⟩ (hv.2.2.1)) rfl rfl rfl ⟨rfl, rfl, rfl, rfl⟩ rfl) ?_; conv => whnf)
    | (refine VR.pure hTb rfl rfl (o_purF (t_VLink ⟨_, _, _, _⟩ (hv.2.2.2)) rfl rfl rfl ⟨rfl, rfl, rfl, rfl⟩ rfl) ?_; conv => whnf)
    | (refine DT.pure hTb rfl (o_purF (t_VLink ⟨_, _, _, _⟩ (hv.2.2.2)) rfl rfl rfl ⟨rfl, rfl, rfl, rfl⟩ rfl) ?_; conv => whnf))
  all_goals exact endFz rfl rfl rfl
end Go.Vl

namespace Go.Vl
open Go Go.RowKit Go.Proofs
set_option maxRecDepth 100000
set_option linter.unusedSimpArgs false
set_option linter.unusedVariables false
theorem rows_of {α : Type} {enc : α → List Leaf} {ok : α → Prop} : ∀ {rows : List (List Leaf)}, (∀ r ∈ rows, ∃ v : α, r = enc v ∧ ok v) → ∃ l : List α, rows = l.map enc ∧ ∀ v ∈ l, ok v
  | [], _ => ⟨[], rfl, by simp⟩
  | r :: rows, h => by
    obtain ⟨v, rfl, hv⟩ := h r (by simp)
    obtain ⟨l, rfl, hl⟩ := rows_of (rows := rows) fun r hr => h r (by simp [hr])
    exact ⟨v :: l, rfl, by simpa using ⟨hv, hl⟩⟩
theorem w_Val {m : Nat} {ls : List Leaf} (h : WT Try.prog (m + 2) 25 ls) : ∃ v : Val, ls = encVal v ∧ v.ok := by
  have key : ∀ {f0 f1 f2 : Field}, Try.prog.underlying 25 = some (.struct #[f0, f1, f2]) → Try.prog.cellsOf 25 = 3 → f0.offset = 0 → f1.offset = 1 → f2.offset = 2 → Try.prog.cellsOf f0.type = 1 → Try.prog.cellsOf f1.type = 1 → Try.prog.cellsOf f2.type = 1 →
      ∃ x0 x1 x2, ls = [x0, x1, x2] ∧ WT Try.prog (m + 1) f0.type [x0] ∧ WT Try.prog (m + 1) f1.type [x1] ∧ WT Try.prog (m + 1) f2.type [x2] := by
    intro f0 f1 f2 hu hc o0 o1 o2 s0 s1 s2
    obtain ⟨hl, hf⟩ := wt_struct hu h
    rw [hc] at hl
    match ls, hl with
    | [x0, x1, x2], _ =>
      have a0 := hf f0 (by simp)
      rw [o0, s0] at a0
      have a1 := hf f1 (by simp)
      rw [o1, s1] at a1
      have a2 := hf f2 (by simp)
      rw [o2, s2] at a2
      exact ⟨x0, x1, x2, rfl, a0, a1, a2⟩
  obtain ⟨x0, x1, x2, rfl, h0, h1, h2⟩ := key Try.underlying25 (by kernel_rfl) rfl rfl rfl (by kernel_rfl) (by kernel_rfl) (by kernel_rfl)
  obtain ⟨v0, e0, _⟩ := wt_int Try.underlying3 h0
  cases e0
  obtain ⟨v1, e1, _⟩ := wt_int Try.underlying3 h1
  cases e1
  obtain ⟨v2, e2, k2⟩ := wt_string Try.underlying9 h2
  cases e2
  exact ⟨⟨v0, v1, v2⟩, rfl, k2⟩
theorem w_Col {m : Nat} {ls : List Leaf} (h : WT Try.prog (m + 3) 27 ls) : ∃ v : Col, ls = encCol v ∧ v.ok := by
  have key : ∀ {f0 f1 f2 f3 f4 : Field}, Try.prog.underlying 27 = some (.struct #[f0, f1, f2, f3, f4]) → Try.prog.cellsOf 27 = 7 → f0.offset = 0 → f1.offset = 1 → f2.offset = 2 → f3.offset = 3 → f4.offset = 4 → Try.prog.cellsOf f0.type = 1 → Try.prog.cellsOf f1.type = 1 → Try.prog.cellsOf f2.type = 1 → Try.prog.cellsOf f3.type = 1 → Try.prog.cellsOf f4.type = 3 →
      ∃ x0 x1 x2 x3 x4 x5 x6, ls = [x0, x1, x2, x3, x4, x5, x6] ∧ WT Try.prog (m + 2) f0.type [x0] ∧ WT Try.prog (m + 2) f1.type [x1] ∧ WT Try.prog (m + 2) f2.type [x2] ∧ WT Try.prog (m + 2) f3.type [x3] ∧ WT Try.prog (m + 2) f4.type [x4, x5, x6] := by
    intro f0 f1 f2 f3 f4 hu hc o0 o1 o2 o3 o4 s0 s1 s2 s3 s4
    obtain ⟨hl, hf⟩ := wt_struct hu h
    rw [hc] at hl
    match ls, hl with
    | [x0, x1, x2, x3, x4, x5, x6], _ =>
      have a0 := hf f0 (by simp)
      rw [o0, s0] at a0
      have a1 := hf f1 (by simp)
      rw [o1, s1] at a1
      have a2 := hf f2 (by simp)
      rw [o2, s2] at a2
      have a3 := hf f3 (by simp)
      rw [o3, s3] at a3
      have a4 := hf f4 (by simp)
      rw [o4, s4] at a4
      exact ⟨x0, x1, x2, x3, x4, x5, x6, rfl, a0, a1, a2, a3, a4⟩
  obtain ⟨x0, x1, x2, x3, x4, x5, x6, rfl, h0, h1, h2, h3, h4⟩ := key Try.underlying27 (by kernel_rfl) rfl rfl rfl rfl rfl (by kernel_rfl) (by kernel_rfl) (by kernel_rfl) (by kernel_rfl) (by kernel_rfl)
  obtain ⟨v0, e0, k0⟩ := wt_string Try.underlying9 h0
  cases e0
  obtain ⟨v1, e1, _⟩ := wt_int Try.underlying3 h1
  cases e1
  obtain ⟨v2, e2⟩ := wt_bool Try.underlying4 h2
  cases e2
  obtain ⟨v3, e3⟩ := wt_bool Try.underlying4 h3
  cases e3
  obtain ⟨⟨c4k, c4n, c4t⟩, e4, k4⟩ := w_Val h4
  cases e4
  exact ⟨⟨v0, v1, v2, v3, ⟨c4k, c4n, c4t⟩⟩, rfl, ⟨k0, k4⟩⟩
theorem w_Cols {m : Nat} {ls : List Leaf} (h : WT Try.prog (m + 4) 23 ls) : ∃ l : List Col, ls = [.imm 7 (l.map encCol)] ∧ l.length ≤ maxLen ∧ ∀ x ∈ l, x.ok := by
  obtain ⟨rows, e, hl, hr⟩ := wt_slice Try.underlying23 h
  rw [show Try.prog.cellsOf 27 = 7 by kernel_rfl] at e
  obtain ⟨l, rfl, hok⟩ := rows_of (enc := encCol) (ok := Col.ok) fun r hrm => w_Col (hr r hrm).2
  exact ⟨l, e, by simpa using hl, hok⟩
theorem w_Change {m : Nat} {ls : List Leaf} (h : WT Try.prog (m + 4) 29 ls) : ∃ v : Change, ls = encChange v ∧ v.ok := by
  have key : ∀ {f0 f1 f2 f3 : Field}, Try.prog.underlying 29 = some (.struct #[f0, f1, f2, f3]) → Try.prog.cellsOf 29 = 10 → f0.offset = 0 → f1.offset = 1 → f2.offset = 2 → f3.offset = 3 → Try.prog.cellsOf f0.type = 1 → Try.prog.cellsOf f1.type = 1 → Try.prog.cellsOf f2.type = 1 → Try.prog.cellsOf f3.type = 7 →
      ∃ x0 x1 x2 x3 x4 x5 x6 x7 x8 x9, ls = [x0, x1, x2, x3, x4, x5, x6, x7, x8, x9] ∧ WT Try.prog (m + 3) f0.type [x0] ∧ WT Try.prog (m + 3) f1.type [x1] ∧ WT Try.prog (m + 3) f2.type [x2] ∧ WT Try.prog (m + 3) f3.type [x3, x4, x5, x6, x7, x8, x9] := by
    intro f0 f1 f2 f3 hu hc o0 o1 o2 o3 s0 s1 s2 s3
    obtain ⟨hl, hf⟩ := wt_struct hu h
    rw [hc] at hl
    match ls, hl with
    | [x0, x1, x2, x3, x4, x5, x6, x7, x8, x9], _ =>
      have a0 := hf f0 (by simp)
      rw [o0, s0] at a0
      have a1 := hf f1 (by simp)
      rw [o1, s1] at a1
      have a2 := hf f2 (by simp)
      rw [o2, s2] at a2
      have a3 := hf f3 (by simp)
      rw [o3, s3] at a3
      exact ⟨x0, x1, x2, x3, x4, x5, x6, x7, x8, x9, rfl, a0, a1, a2, a3⟩
  obtain ⟨x0, x1, x2, x3, x4, x5, x6, x7, x8, x9, rfl, h0, h1, h2, h3⟩ := key Try.underlying29 (by kernel_rfl) rfl rfl rfl rfl (by kernel_rfl) (by kernel_rfl) (by kernel_rfl) (by kernel_rfl)
  obtain ⟨v0, e0, _⟩ := wt_int Try.underlying3 h0
  cases e0
  obtain ⟨v1, e1, k1⟩ := wt_string Try.underlying9 h1
  cases e1
  obtain ⟨v2, e2, k2⟩ := wt_string Try.underlying9 h2
  cases e2
  obtain ⟨⟨c3name, c3kind, c3need, c3once, ⟨c3d_k, c3d_n, c3d_t⟩⟩, e3, k3⟩ := w_Col h3
  cases e3
  exact ⟨⟨v0, v1, v2, ⟨c3name, c3kind, c3need, c3once, ⟨c3d_k, c3d_n, c3d_t⟩⟩⟩, rfl, ⟨k1, k2, k3⟩⟩
theorem w_VSet {m : Nat} {ls : List Leaf} (h : WT Try.prog (m + 3) 90 ls) : ∃ v : VSet, ls = encVSet v ∧ v.ok := by
  have key : ∀ {f0 f1 : Field}, Try.prog.underlying 90 = some (.struct #[f0, f1]) → Try.prog.cellsOf 90 = 4 → f0.offset = 0 → f1.offset = 1 → Try.prog.cellsOf f0.type = 1 → Try.prog.cellsOf f1.type = 3 →
      ∃ x0 x1 x2 x3, ls = [x0, x1, x2, x3] ∧ WT Try.prog (m + 2) f0.type [x0] ∧ WT Try.prog (m + 2) f1.type [x1, x2, x3] := by
    intro f0 f1 hu hc o0 o1 s0 s1
    obtain ⟨hl, hf⟩ := wt_struct hu h
    rw [hc] at hl
    match ls, hl with
    | [x0, x1, x2, x3], _ =>
      have a0 := hf f0 (by simp)
      rw [o0, s0] at a0
      have a1 := hf f1 (by simp)
      rw [o1, s1] at a1
      exact ⟨x0, x1, x2, x3, rfl, a0, a1⟩
  obtain ⟨x0, x1, x2, x3, rfl, h0, h1⟩ := key Try.underlying90 (by kernel_rfl) rfl rfl (by kernel_rfl) (by kernel_rfl)
  obtain ⟨v0, e0, k0⟩ := wt_string Try.underlying9 h0
  cases e0
  obtain ⟨⟨c1k, c1n, c1t⟩, e1, k1⟩ := w_Val h1
  cases e1
  exact ⟨⟨v0, ⟨c1k, c1n, c1t⟩⟩, rfl, ⟨k0, k1⟩⟩
theorem w_VSets {m : Nat} {ls : List Leaf} (h : WT Try.prog (m + 4) 22 ls) : ∃ l : List VSet, ls = [.imm 4 (l.map encVSet)] ∧ l.length ≤ maxLen ∧ ∀ x ∈ l, x.ok := by
  obtain ⟨rows, e, hl, hr⟩ := wt_slice Try.underlying22 h
  rw [show Try.prog.cellsOf 90 = 4 by kernel_rfl] at e
  obtain ⟨l, rfl, hok⟩ := rows_of (enc := encVSet) (ok := VSet.ok) fun r hrm => w_VSet (hr r hrm).2
  exact ⟨l, e, by simpa using hl, hok⟩
theorem w_VLink {m : Nat} {ls : List Leaf} (h : WT Try.prog (m + 2) 31 ls) : ∃ v : VLink, ls = encVLink v ∧ v.ok := by
  have key : ∀ {f0 f1 f2 f3 : Field}, Try.prog.underlying 31 = some (.struct #[f0, f1, f2, f3]) → Try.prog.cellsOf 31 = 4 → f0.offset = 0 → f1.offset = 1 → f2.offset = 2 → f3.offset = 3 → Try.prog.cellsOf f0.type = 1 → Try.prog.cellsOf f1.type = 1 → Try.prog.cellsOf f2.type = 1 → Try.prog.cellsOf f3.type = 1 →
      ∃ x0 x1 x2 x3, ls = [x0, x1, x2, x3] ∧ WT Try.prog (m + 1) f0.type [x0] ∧ WT Try.prog (m + 1) f1.type [x1] ∧ WT Try.prog (m + 1) f2.type [x2] ∧ WT Try.prog (m + 1) f3.type [x3] := by
    intro f0 f1 f2 f3 hu hc o0 o1 o2 o3 s0 s1 s2 s3
    obtain ⟨hl, hf⟩ := wt_struct hu h
    rw [hc] at hl
    match ls, hl with
    | [x0, x1, x2, x3], _ =>
      have a0 := hf f0 (by simp)
      rw [o0, s0] at a0
      have a1 := hf f1 (by simp)
      rw [o1, s1] at a1
      have a2 := hf f2 (by simp)
      rw [o2, s2] at a2
      have a3 := hf f3 (by simp)
      rw [o3, s3] at a3
      exact ⟨x0, x1, x2, x3, rfl, a0, a1, a2, a3⟩
  obtain ⟨x0, x1, x2, x3, rfl, h0, h1, h2, h3⟩ := key Try.underlying31 (by kernel_rfl) rfl rfl rfl rfl (by kernel_rfl) (by kernel_rfl) (by kernel_rfl) (by kernel_rfl)
  obtain ⟨v0, e0, k0⟩ := wt_string Try.underlying9 h0
  cases e0
  obtain ⟨v1, e1, k1⟩ := wt_string Try.underlying9 h1
  cases e1
  obtain ⟨v2, e2, k2⟩ := wt_string Try.underlying9 h2
  cases e2
  obtain ⟨v3, e3, _⟩ := wt_int Try.underlying3 h3
  cases e3
  exact ⟨⟨v0, v1, v2, v3⟩, rfl, ⟨k0, k1, k2⟩⟩
theorem w_VAct {m : Nat} {ls : List Leaf} (h : WT Try.prog (m + 5) 33 ls) : ∃ v : VAct, ls = encVAct v ∧ v.ok := by
  have key : ∀ {f0 f1 f2 f3 f4 f5 f6 : Field}, Try.prog.underlying 33 = some (.struct #[f0, f1, f2, f3, f4, f5, f6]) → Try.prog.cellsOf 33 = 19 → f0.offset = 0 → f1.offset = 1 → f2.offset = 2 → f3.offset = 3 → f4.offset = 4 → f5.offset = 5 → f6.offset = 15 → Try.prog.cellsOf f0.type = 1 → Try.prog.cellsOf f1.type = 1 → Try.prog.cellsOf f2.type = 1 → Try.prog.cellsOf f3.type = 1 → Try.prog.cellsOf f4.type = 1 → Try.prog.cellsOf f5.type = 10 → Try.prog.cellsOf f6.type = 4 →
      ∃ x0 x1 x2 x3 x4 x5 x6 x7 x8 x9 x10 x11 x12 x13 x14 x15 x16 x17 x18, ls = [x0, x1, x2, x3, x4, x5, x6, x7, x8, x9, x10, x11, x12, x13, x14, x15, x16, x17, x18] ∧ WT Try.prog (m + 4) f0.type [x0] ∧ WT Try.prog (m + 4) f1.type [x1] ∧ WT Try.prog (m + 4) f2.type [x2] ∧ WT Try.prog (m + 4) f3.type [x3] ∧ WT Try.prog (m + 4) f4.type [x4] ∧ WT Try.prog (m + 4) f5.type [x5, x6, x7, x8, x9, x10, x11, x12, x13, x14] ∧ WT Try.prog (m + 4) f6.type [x15, x16, x17, x18] := by
    intro f0 f1 f2 f3 f4 f5 f6 hu hc o0 o1 o2 o3 o4 o5 o6 s0 s1 s2 s3 s4 s5 s6
    obtain ⟨hl, hf⟩ := wt_struct hu h
    rw [hc] at hl
    match ls, hl with
    | [x0, x1, x2, x3, x4, x5, x6, x7, x8, x9, x10, x11, x12, x13, x14, x15, x16, x17, x18], _ =>
      have a0 := hf f0 (by simp)
      rw [o0, s0] at a0
      have a1 := hf f1 (by simp)
      rw [o1, s1] at a1
      have a2 := hf f2 (by simp)
      rw [o2, s2] at a2
      have a3 := hf f3 (by simp)
      rw [o3, s3] at a3
      have a4 := hf f4 (by simp)
      rw [o4, s4] at a4
      have a5 := hf f5 (by simp)
      rw [o5, s5] at a5
      have a6 := hf f6 (by simp)
      rw [o6, s6] at a6
      exact ⟨x0, x1, x2, x3, x4, x5, x6, x7, x8, x9, x10, x11, x12, x13, x14, x15, x16, x17, x18, rfl, a0, a1, a2, a3, a4, a5, a6⟩
  obtain ⟨x0, x1, x2, x3, x4, x5, x6, x7, x8, x9, x10, x11, x12, x13, x14, x15, x16, x17, x18, rfl, h0, h1, h2, h3, h4, h5, h6⟩ := key Try.underlying33 (by kernel_rfl) rfl rfl rfl rfl rfl rfl rfl (by kernel_rfl) (by kernel_rfl) (by kernel_rfl) (by kernel_rfl) (by kernel_rfl) (by kernel_rfl) (by kernel_rfl)
  obtain ⟨v0, e0, _⟩ := wt_int Try.underlying3 h0
  cases e0
  obtain ⟨v1, e1, k1⟩ := wt_string Try.underlying9 h1
  cases e1
  obtain ⟨v2, e2, _⟩ := wt_int Try.underlying3 h2
  cases e2
  obtain ⟨v3, e3, k3⟩ := w_VSets h3
  cases e3
  obtain ⟨v4, e4, k4⟩ := w_Cols h4
  cases e4
  obtain ⟨⟨c5kind, c5name, c5new, ⟨c5col_name, c5col_kind, c5col_need, c5col_once, ⟨c5col_d_k, c5col_d_n, c5col_d_t⟩⟩⟩, e5, k5⟩ := w_Change h5
  cases e5
  obtain ⟨⟨c6src, c6col, c6dst, c6how⟩, e6, k6⟩ := w_VLink h6
  cases e6
  exact ⟨⟨v0, v1, v2, v3, v4, ⟨c5kind, c5name, c5new, ⟨c5col_name, c5col_kind, c5col_need, c5col_once, ⟨c5col_d_k, c5col_d_n, c5col_d_t⟩⟩⟩, ⟨c6src, c6col, c6dst, c6how⟩⟩, rfl, ⟨k1, k3, k4, k5, k6⟩⟩
end Go.Vl
