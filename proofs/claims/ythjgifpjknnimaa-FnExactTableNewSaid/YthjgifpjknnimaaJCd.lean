/- Contracts: a thing is like itself. Printed by our own gends.py. Contracts: how great things are, texts counted too; copies that may be written; marks, and marks that are held. Parts printed by genmk.py. -/
import Derived.Test.YthjgifpjknnimaaJCa
import Derived.Test.YthjgifpjknnimaaWi
import Derived.Test.YthjgifpjknnimaaJCb
import Derived.Test.YthjgifpjknnimaaJCc
set_option linter.unusedSimpArgs false
set_option linter.unusedVariables false

namespace Go.Vl
open Go Go.RowKit Go.Proofs
set_option maxRecDepth 100000
set_option linter.unusedSimpArgs false
set_option linter.unusedVariables false
set_option maxHeartbeats 2000000
theorem e_Val (v : Val) (hv : v.ok) : CallsV Try.prog 73 [.agg (encVal v), .agg (encVal v)] [] (pureQ (bS true)) := by
  obtain ⟨k, n, t⟩ := v
  simp only [Val.ok] at hv
  refine pure_walk hTb Try.func73 rfl rfl Try.ntmps73 (by simp) ?_
  (conv => whnf); repeat' (first | (refine And.intro ?_ ?_ <;> ((try intro h) <;> (try simp only [Bool.not_true, Bool.not_false] at h) <;> first | exact absurd h Bool.false_ne_true | exact absurd h.symm Bool.false_ne_true | conv => whnf)) | (refine Need.mk ?_; kernel_rfl) | (refine Need.mk ⟨rfl, ?_⟩; decide))
  all_goals first
    | rfl
    | (clear hv; simp_all [bS]; done)
theorem e_Vals (l : List Val) (hv : l.length ≤ maxLen ∧ ∀ x ∈ l, x.ok) : CallsV Try.prog 80 [valsI l, valsI l] [] (pureQ (bS true)) := by
  have hu := hv.1
  refine pure_walk hTb Try.func80 rfl rfl Try.ntmps80 (by simp) ?_
  (conv => whnf); repeat' (first | (refine And.intro ?_ ?_ <;> ((try intro h) <;> (try simp only [Bool.not_true, Bool.not_false] at h) <;> first | exact absurd h Bool.false_ne_true | exact absurd h.symm Bool.false_ne_true | conv => whnf)) | (refine Need.mk ?_; kernel_rfl) | (refine Need.mk ⟨rfl, ?_⟩; decide))
  · simp at h
  refine VL.loopI hTb (fun i => i ≤ l.length) (fun i => ⟨[(0, valsI l), (1, valsI l), (5, iS i)], [], []⟩) (fun i => l.length - i) 0 (Nat.zero_le _)
    (wk_to [] rfl rfl rfl ⟨rfl, rfl, rfl, trivial⟩ trivial) (fun i hi => ?_)
  (conv => whnf)
  refine And.intro (fun h2 => ?_) (fun h2 => ?_)
  · have hlt : i < l.length := by simpa using h2
    have hrow := rowVal hlt
    have hc := e_Val l[i] (hv.2 _ (List.getElem_mem hlt))
    generalize hci : l[i] = ci at hrow hc
    obtain ⟨k, n, t⟩ := ci
    (conv => whnf); repeat' (first
    | (refine And.intro ?_ ?_ <;> ((try intro h) <;> (try simp only [Bool.not_true, Bool.not_false, decide_eq_true_eq, decide_eq_false_iff_not, Int.not_lt, Int.not_le, gt_iff_lt, ge_iff_le] at h) <;> first | exact absurd h Bool.false_ne_true | exact absurd h.symm Bool.false_ne_true | conv => whnf))
    | (refine VL.drawS hTb hMix (by kernel_rfl) (by kernel_rfl) (by kernel_rfl) ?_; conv => whnf)
    | (refine Need.mk ?_; kernel_rfl) | (refine Need.mk ⟨rfl, ?_⟩; decide)
    | (refine VR.op hTb rfl rfl (o_index_imm hTb rfl rfl rfl rfl rfl rfl rfl (by omega) (hrow)) rfl ?_; conv => whnf)
    | (refine DT.op hTb rfl (o_index_imm hTb rfl rfl rfl rfl rfl rfl rfl (by omega) (hrow)) rfl ?_; conv => whnf)
    | (refine VR.pure hTb rfl rfl (o_purN (hc) rfl rfl rfl ⟨rfl, rfl, rfl, rfl⟩ rfl) ?_; conv => whnf)
    | (refine DT.pure hTb rfl (o_purN (hc) rfl rfl rfl ⟨rfl, rfl, rfl, rfl⟩ rfl) ?_; conv => whnf))
    exact ⟨i + 1, hlt, by omega, wk_to [] rfl rfl rfl ⟨rfl, rfl, congrArg (fun x => Slot.one (.g (.int .i64 x))) (wrap64' (by omega)), trivial⟩ trivial⟩
  · (conv => whnf)
    rfl
theorem e_Col (v : Col) (hv : v.ok) : CallsV Try.prog 48 [.agg (encCol v), .agg (encCol v)] [] (pureQ (bS true)) := by
  obtain ⟨name, kind, need, once, ⟨d_k, d_n, d_t⟩⟩ := v
  simp only [Col.ok] at hv
  refine pure_walk hTb Try.func48 rfl rfl Try.ntmps48 (by simp) ?_
  (conv => whnf); repeat' (first
    | (refine And.intro ?_ ?_ <;> ((try intro h) <;> (try simp only [Bool.not_true, Bool.not_false, decide_eq_true_eq, decide_eq_false_iff_not, Int.not_lt, Int.not_le, gt_iff_lt, ge_iff_le] at h) <;> first | exact absurd h Bool.false_ne_true | exact absurd h.symm Bool.false_ne_true | conv => whnf))
    | (refine VL.drawS hTb hMix (by kernel_rfl) (by kernel_rfl) (by kernel_rfl) ?_; conv => whnf)
    | (refine Need.mk ?_; kernel_rfl) | (refine Need.mk ⟨rfl, ?_⟩; decide)
    | (refine VR.pure hTb rfl rfl (o_purN (e_Val ⟨_, _, _⟩ (hv.2)) rfl rfl rfl ⟨rfl, rfl, rfl, rfl⟩ rfl) ?_; conv => whnf)
    | (refine DT.pure hTb rfl (o_purN (e_Val ⟨_, _, _⟩ (hv.2)) rfl rfl rfl ⟨rfl, rfl, rfl, rfl⟩ rfl) ?_; conv => whnf))
  all_goals first
    | rfl
    | (clear hv; simp_all [bS]; done)
theorem e_Cols (l : List Col) (hv : l.length ≤ maxLen ∧ ∀ x ∈ l, x.ok) : CallsV Try.prog 15 [colsI l, colsI l] [] (pureQ (bS true)) := by
  have hu := hv.1
  refine pure_walk hTb Try.func15 rfl rfl Try.ntmps15 (by simp) ?_
  (conv => whnf); repeat' (first | (refine And.intro ?_ ?_ <;> ((try intro h) <;> (try simp only [Bool.not_true, Bool.not_false] at h) <;> first | exact absurd h Bool.false_ne_true | exact absurd h.symm Bool.false_ne_true | conv => whnf)) | (refine Need.mk ?_; kernel_rfl) | (refine Need.mk ⟨rfl, ?_⟩; decide))
  · simp at h
  refine VL.loopI hTb (fun i => i ≤ l.length) (fun i => ⟨[(0, colsI l), (1, colsI l), (5, iS i)], [], []⟩) (fun i => l.length - i) 0 (Nat.zero_le _)
    (wk_to [] rfl rfl rfl ⟨rfl, rfl, rfl, trivial⟩ trivial) (fun i hi => ?_)
  (conv => whnf)
  refine And.intro (fun h2 => ?_) (fun h2 => ?_)
  · have hlt : i < l.length := by simpa using h2
    have hrow := rowCol hlt
    have hc := e_Col l[i] (hv.2 _ (List.getElem_mem hlt))
    generalize hci : l[i] = ci at hrow hc
    obtain ⟨name, kind, need, once, ⟨d_k, d_n, d_t⟩⟩ := ci
    (conv => whnf); repeat' (first
    | (refine And.intro ?_ ?_ <;> ((try intro h) <;> (try simp only [Bool.not_true, Bool.not_false, decide_eq_true_eq, decide_eq_false_iff_not, Int.not_lt, Int.not_le, gt_iff_lt, ge_iff_le] at h) <;> first | exact absurd h Bool.false_ne_true | exact absurd h.symm Bool.false_ne_true | conv => whnf))
    | (refine VL.drawS hTb hMix (by kernel_rfl) (by kernel_rfl) (by kernel_rfl) ?_; conv => whnf)
    | (refine Need.mk ?_; kernel_rfl) | (refine Need.mk ⟨rfl, ?_⟩; decide)
    | (refine VR.op hTb rfl rfl (o_index_imm hTb rfl rfl rfl rfl rfl rfl rfl (by omega) (hrow)) rfl ?_; conv => whnf)
    | (refine DT.op hTb rfl (o_index_imm hTb rfl rfl rfl rfl rfl rfl rfl (by omega) (hrow)) rfl ?_; conv => whnf)
    | (refine VR.pure hTb rfl rfl (o_purN (hc) rfl rfl rfl ⟨rfl, rfl, rfl, rfl⟩ rfl) ?_; conv => whnf)
    | (refine DT.pure hTb rfl (o_purN (hc) rfl rfl rfl ⟨rfl, rfl, rfl, rfl⟩ rfl) ?_; conv => whnf))
    exact ⟨i + 1, hlt, by omega, wk_to [] rfl rfl rfl ⟨rfl, rfl, congrArg (fun x => Slot.one (.g (.int .i64 x))) (wrap64' (by omega)), trivial⟩ trivial⟩
  · (conv => whnf)
    rfl
theorem e_Change (v : Change) (hv : v.ok) : CallsV Try.prog 39 [.agg (encChange v), .agg (encChange v)] [] (pureQ (bS true)) := by
  obtain ⟨kind, name, new, ⟨col_name, col_kind, col_need, col_once, ⟨col_d_k, col_d_n, col_d_t⟩⟩⟩ := v
  simp only [Change.ok] at hv
  refine pure_walk hTb Try.func39 rfl rfl Try.ntmps39 (by simp) ?_
  (conv => whnf); repeat' (first
    | (refine And.intro ?_ ?_ <;> ((try intro h) <;> (try simp only [Bool.not_true, Bool.not_false, decide_eq_true_eq, decide_eq_false_iff_not, Int.not_lt, Int.not_le, gt_iff_lt, ge_iff_le] at h) <;> first | exact absurd h Bool.false_ne_true | exact absurd h.symm Bool.false_ne_true | conv => whnf))
    | (refine VL.drawS hTb hMix (by kernel_rfl) (by kernel_rfl) (by kernel_rfl) ?_; conv => whnf)
    | (refine Need.mk ?_; kernel_rfl) | (refine Need.mk ⟨rfl, ?_⟩; decide)
    | (refine VR.pure hTb rfl rfl (o_purN (e_Col ⟨_, _, _, _, ⟨_, _, _⟩⟩ (hv.2.2)) rfl rfl rfl ⟨rfl, rfl, rfl, rfl⟩ rfl) ?_; conv => whnf)
    | (refine DT.pure hTb rfl (o_purN (e_Col ⟨_, _, _, _, ⟨_, _, _⟩⟩ (hv.2.2)) rfl rfl rfl ⟨rfl, rfl, rfl, rfl⟩ rfl) ?_; conv => whnf))
  all_goals first
    | rfl
    | (clear hv; simp_all [bS]; done)
theorem e_Changes (l : List Change) (hv : l.length ≤ maxLen ∧ ∀ x ∈ l, x.ok) : CallsV Try.prog 46 [changesI l, changesI l] [] (pureQ (bS true)) := by
  have hu := hv.1
  refine pure_walk hTb Try.func46 rfl rfl Try.ntmps46 (by simp) ?_
  (conv => whnf); repeat' (first | (refine And.intro ?_ ?_ <;> ((try intro h) <;> (try simp only [Bool.not_true, Bool.not_false] at h) <;> first | exact absurd h Bool.false_ne_true | exact absurd h.symm Bool.false_ne_true | conv => whnf)) | (refine Need.mk ?_; kernel_rfl) | (refine Need.mk ⟨rfl, ?_⟩; decide))
  · simp at h
  refine VL.loopI hTb (fun i => i ≤ l.length) (fun i => ⟨[(0, changesI l), (1, changesI l), (5, iS i)], [], []⟩) (fun i => l.length - i) 0 (Nat.zero_le _)
    (wk_to [] rfl rfl rfl ⟨rfl, rfl, rfl, trivial⟩ trivial) (fun i hi => ?_)
  (conv => whnf)
  refine And.intro (fun h2 => ?_) (fun h2 => ?_)
  · have hlt : i < l.length := by simpa using h2
    have hrow := rowChange hlt
    have hc := e_Change l[i] (hv.2 _ (List.getElem_mem hlt))
    generalize hci : l[i] = ci at hrow hc
    obtain ⟨kind, name, new, ⟨col_name, col_kind, col_need, col_once, ⟨col_d_k, col_d_n, col_d_t⟩⟩⟩ := ci
    (conv => whnf); repeat' (first
    | (refine And.intro ?_ ?_ <;> ((try intro h) <;> (try simp only [Bool.not_true, Bool.not_false, decide_eq_true_eq, decide_eq_false_iff_not, Int.not_lt, Int.not_le, gt_iff_lt, ge_iff_le] at h) <;> first | exact absurd h Bool.false_ne_true | exact absurd h.symm Bool.false_ne_true | conv => whnf))
    | (refine VL.drawS hTb hMix (by kernel_rfl) (by kernel_rfl) (by kernel_rfl) ?_; conv => whnf)
    | (refine Need.mk ?_; kernel_rfl) | (refine Need.mk ⟨rfl, ?_⟩; decide)
    | (refine VR.op hTb rfl rfl (o_index_imm hTb rfl rfl rfl rfl rfl rfl rfl (by omega) (hrow)) rfl ?_; conv => whnf)
    | (refine DT.op hTb rfl (o_index_imm hTb rfl rfl rfl rfl rfl rfl rfl (by omega) (hrow)) rfl ?_; conv => whnf)
    | (refine VR.pure hTb rfl rfl (o_purN (hc) rfl rfl rfl ⟨rfl, rfl, rfl, rfl⟩ rfl) ?_; conv => whnf)
    | (refine DT.pure hTb rfl (o_purN (hc) rfl rfl rfl ⟨rfl, rfl, rfl, rfl⟩ rfl) ?_; conv => whnf))
    exact ⟨i + 1, hlt, by omega, wk_to [] rfl rfl rfl ⟨rfl, rfl, congrArg (fun x => Slot.one (.g (.int .i64 x))) (wrap64' (by omega)), trivial⟩ trivial⟩
  · (conv => whnf)
    rfl
theorem e_VRow (v : VRow) (hv : v.ok) : CallsV Try.prog 72 [.agg (encVRow v), .agg (encVRow v)] [] (pureQ (bS true)) := by
  obtain ⟨id, ver, vals⟩ := v
  simp only [VRow.ok] at hv
  refine pure_walk hTb Try.func72 rfl rfl Try.ntmps72 (by simp) ?_
  (conv => whnf); repeat' (first
    | (refine And.intro ?_ ?_ <;> ((try intro h) <;> (try simp only [Bool.not_true, Bool.not_false, decide_eq_true_eq, decide_eq_false_iff_not, Int.not_lt, Int.not_le, gt_iff_lt, ge_iff_le] at h) <;> first | exact absurd h Bool.false_ne_true | exact absurd h.symm Bool.false_ne_true | conv => whnf))
    | (refine VL.drawS hTb hMix (by kernel_rfl) (by kernel_rfl) (by kernel_rfl) ?_; conv => whnf)
    | (refine Need.mk ?_; kernel_rfl) | (refine Need.mk ⟨rfl, ?_⟩; decide)
    | (refine VR.pure hTb rfl rfl (o_purN (e_Vals _ (hv)) rfl rfl rfl ⟨rfl, rfl, rfl, rfl⟩ rfl) ?_; conv => whnf)
    | (refine DT.pure hTb rfl (o_purN (e_Vals _ (hv)) rfl rfl rfl ⟨rfl, rfl, rfl, rfl⟩ rfl) ?_; conv => whnf))
  all_goals first
    | rfl
    | (clear hv; simp_all [bS]; done)
theorem e_VRows (l : List VRow) (hv : l.length ≤ maxLen ∧ ∀ x ∈ l, x.ok) : CallsV Try.prog 47 [vrowsI l, vrowsI l] [] (pureQ (bS true)) := by
  have hu := hv.1
  refine pure_walk hTb Try.func47 rfl rfl Try.ntmps47 (by simp) ?_
  (conv => whnf); repeat' (first | (refine And.intro ?_ ?_ <;> ((try intro h) <;> (try simp only [Bool.not_true, Bool.not_false] at h) <;> first | exact absurd h Bool.false_ne_true | exact absurd h.symm Bool.false_ne_true | conv => whnf)) | (refine Need.mk ?_; kernel_rfl) | (refine Need.mk ⟨rfl, ?_⟩; decide))
  · simp at h
  refine VL.loopI hTb (fun i => i ≤ l.length) (fun i => ⟨[(0, vrowsI l), (1, vrowsI l), (5, iS i)], [], []⟩) (fun i => l.length - i) 0 (Nat.zero_le _)
    (wk_to [] rfl rfl rfl ⟨rfl, rfl, rfl, trivial⟩ trivial) (fun i hi => ?_)
  (conv => whnf)
  refine And.intro (fun h2 => ?_) (fun h2 => ?_)
  · have hlt : i < l.length := by simpa using h2
    have hrow := rowVRow hlt
    have hc := e_VRow l[i] (hv.2 _ (List.getElem_mem hlt))
    generalize hci : l[i] = ci at hrow hc
    obtain ⟨id, ver, vals⟩ := ci
    (conv => whnf); repeat' (first
    | (refine And.intro ?_ ?_ <;> ((try intro h) <;> (try simp only [Bool.not_true, Bool.not_false, decide_eq_true_eq, decide_eq_false_iff_not, Int.not_lt, Int.not_le, gt_iff_lt, ge_iff_le] at h) <;> first | exact absurd h Bool.false_ne_true | exact absurd h.symm Bool.false_ne_true | conv => whnf))
    | (refine VL.drawS hTb hMix (by kernel_rfl) (by kernel_rfl) (by kernel_rfl) ?_; conv => whnf)
    | (refine Need.mk ?_; kernel_rfl) | (refine Need.mk ⟨rfl, ?_⟩; decide)
    | (refine VR.op hTb rfl rfl (o_index_imm hTb rfl rfl rfl rfl rfl rfl rfl (by omega) (hrow)) rfl ?_; conv => whnf)
    | (refine DT.op hTb rfl (o_index_imm hTb rfl rfl rfl rfl rfl rfl rfl (by omega) (hrow)) rfl ?_; conv => whnf)
    | (refine VR.pure hTb rfl rfl (o_purN (hc) rfl rfl rfl ⟨rfl, rfl, rfl, rfl⟩ rfl) ?_; conv => whnf)
    | (refine DT.pure hTb rfl (o_purN (hc) rfl rfl rfl ⟨rfl, rfl, rfl, rfl⟩ rfl) ?_; conv => whnf))
    exact ⟨i + 1, hlt, by omega, wk_to [] rfl rfl rfl ⟨rfl, rfl, congrArg (fun x => Slot.one (.g (.int .i64 x))) (wrap64' (by omega)), trivial⟩ trivial⟩
  · (conv => whnf)
    rfl
theorem e_VTable (v : VTable) (hv : v.ok) : CallsV Try.prog 14 [.agg (encVTable v), .agg (encVTable v)] [] (pureQ (bS true)) := by
  obtain ⟨first, changes, rows, next⟩ := v
  simp only [VTable.ok] at hv
  refine pure_walk hTb Try.func14 rfl rfl Try.ntmps14 (by simp) ?_
  (conv => whnf); repeat' (first
    | (refine And.intro ?_ ?_ <;> ((try intro h) <;> (try simp only [Bool.not_true, Bool.not_false, decide_eq_true_eq, decide_eq_false_iff_not, Int.not_lt, Int.not_le, gt_iff_lt, ge_iff_le] at h) <;> first | exact absurd h Bool.false_ne_true | exact absurd h.symm Bool.false_ne_true | conv => whnf))
    | (refine VL.drawS hTb hMix (by kernel_rfl) (by kernel_rfl) (by kernel_rfl) ?_; conv => whnf)
    | (refine Need.mk ?_; kernel_rfl) | (refine Need.mk ⟨rfl, ?_⟩; decide)
    | (refine VR.pure hTb rfl rfl (o_purN (e_Cols _ (hv.1)) rfl rfl rfl ⟨rfl, rfl, rfl, rfl⟩ rfl) ?_; conv => whnf)
    | (refine DT.pure hTb rfl (o_purN (e_Cols _ (hv.1)) rfl rfl rfl ⟨rfl, rfl, rfl, rfl⟩ rfl) ?_; conv => whnf)
    | (refine VR.pure hTb rfl rfl (o_purN (e_Changes _ (hv.2.1)) rfl rfl rfl ⟨rfl, rfl, rfl, rfl⟩ rfl) ?_; conv => whnf)
    | (refine DT.pure hTb rfl (o_purN (e_Changes _ (hv.2.1)) rfl rfl rfl ⟨rfl, rfl, rfl, rfl⟩ rfl) ?_; conv => whnf)
    | (refine VR.pure hTb rfl rfl (o_purN (e_VRows _ (hv.2.2)) rfl rfl rfl ⟨rfl, rfl, rfl, rfl⟩ rfl) ?_; conv => whnf)
    | (refine DT.pure hTb rfl (o_purN (e_VRows _ (hv.2.2)) rfl rfl rfl ⟨rfl, rfl, rfl, rfl⟩ rfl) ?_; conv => whnf))
  all_goals first
    | rfl
    | (clear hv; simp_all [bS]; done)
end Go.Vl

namespace Go.Vl
open Go Go.RowKit Go.Proofs
set_option maxRecDepth 100000
set_option linter.unusedSimpArgs false
set_option linter.unusedVariables false
set_option maxHeartbeats 4000000
theorem y_Val (v : Val) (hv : v.ok) (n : Int) (h0 : 0 ≤ n) (h1 : n ≤ 1048576) : CallsV Try.prog 66 [.agg (encVal v), iS n] [] (relQ (fun y : Int => y ≤ n ∧ (0 ≤ y → v.md)) iS (fun _ => []) (fun _ => [])) := by
  obtain ⟨k, n, t⟩ := v
  simp only [Val.ok] at hv
  refine funF_walk hTb Try.func66 rfl rfl Try.ntmps66 (by simp) (by simp) ?_
  (conv => whnf); repeat' (first | (refine And.intro ?_ ?_ <;> ((try intro h) <;> (try simp only [Bool.not_true, Bool.not_false] at h) <;> first | exact absurd h Bool.false_ne_true | exact absurd h.symm Bool.false_ne_true | conv => whnf)) | (refine Need.mk ?_; kernel_rfl) | (refine Need.mk ⟨rfl, ?_⟩; decide))
  all_goals refine endR [] _ rfl rfl rfl rfl rfl (LeS.refl _) rfl rfl ⟨by (try simp only [decide_eq_false_iff_not, decide_eq_true_eq, IntKind.wrap_i64] at *); (try simp only [Int.not_lt] at *); (try unfold maxLen at *); omega, fun hp => ?_⟩
  all_goals first
    | (show t.size ≤ 1048576; (try simp only [decide_eq_false_iff_not, decide_eq_true_eq, IntKind.wrap_i64] at *); (try simp only [Int.not_lt] at *); (try unfold maxLen at *); omega)
    | (exfalso; revert hp; simp; done)
theorem y_Col (v : Col) (hv : v.ok) (n : Int) (h0 : 0 ≤ n) (h1 : n ≤ 1048576) : CallsV Try.prog 41 [.agg (encCol v), iS n] [] (relQ (fun y : Int => y ≤ n ∧ (0 ≤ y → v.md)) iS (fun _ => []) (fun _ => [])) := by
  obtain ⟨name, kind, need, once, ⟨d_k, d_n, d_t⟩⟩ := v
  simp only [Col.ok] at hv
  refine funF_walk hTb Try.func41 rfl rfl Try.ntmps41 (by simp) (by simp) ?_
  (conv => whnf); repeat' (first
    | (refine And.intro ?_ ?_ <;> ((try intro h) <;> (try simp only [Bool.not_true, Bool.not_false, decide_eq_true_eq, decide_eq_false_iff_not, Int.not_lt, Int.not_le, gt_iff_lt, ge_iff_le] at h) <;> first | exact absurd h Bool.false_ne_true | exact absurd h.symm Bool.false_ne_true | conv => whnf))
    | (refine VL.drawS hTb hMix (by kernel_rfl) (by kernel_rfl) (by kernel_rfl) ?_; conv => whnf)
    | (refine Need.mk ?_; kernel_rfl) | (refine Need.mk ⟨rfl, ?_⟩; decide)
    | (refine VR.rel hTb rfl rfl (o_relN (y_Val ⟨_, _, _⟩ (hv.2) _ (by (try simp only [decide_eq_false_iff_not, decide_eq_true_eq, IntKind.wrap_i64] at *); (try simp only [Int.not_lt] at *); (try unfold maxLen at *); omega) (by (try simp only [decide_eq_false_iff_not, decide_eq_true_eq, IntKind.wrap_i64] at *); (try simp only [Int.not_lt] at *); (try unfold maxLen at *); omega)) false [] (fun _ _ => ⟨by simp, fun h => by cases h⟩) rfl rfl rfl rfl rfl ⟨rfl, rfl, rfl, rfl⟩ rfl rfl) ?_; rintro yq_d hq_d; (try simp only at hq_d); conv => whnf)
    | (refine DT.rel hTb rfl (o_relN (y_Val ⟨_, _, _⟩ (hv.2) _ (by (try simp only [decide_eq_false_iff_not, decide_eq_true_eq, IntKind.wrap_i64] at *); (try simp only [Int.not_lt] at *); (try unfold maxLen at *); omega) (by (try simp only [decide_eq_false_iff_not, decide_eq_true_eq, IntKind.wrap_i64] at *); (try simp only [Int.not_lt] at *); (try unfold maxLen at *); omega)) false [] (fun _ _ => ⟨by simp, fun h => by cases h⟩) rfl rfl rfl rfl rfl ⟨rfl, rfl, rfl, rfl⟩ rfl rfl) [] (by kernel_rfl) (by kernel_rfl) ?_; rintro yq_d hq_d; (try simp only at hq_d); refine And.intro rfl (And.intro rfl ?_); conv => whnf))
  all_goals refine endR [] _ rfl rfl rfl rfl rfl (LeS.refl _) rfl rfl ⟨by (try simp only [decide_eq_false_iff_not, decide_eq_true_eq, IntKind.wrap_i64] at *); (try simp only [Int.not_lt] at *); (try unfold maxLen at *); omega, fun hp => ?_⟩
  all_goals first
    | (refine ⟨?_, hq_d.2 ?_⟩ <;> ((try simp only [decide_eq_false_iff_not, decide_eq_true_eq, IntKind.wrap_i64] at *); (try simp only [Int.not_lt] at *); (try unfold maxLen at *); omega))
    | (exfalso; revert hp; simp; done)
theorem u_Cols (l : List Col) (hv : l.length ≤ 1048576 ∧ ∀ x ∈ l, x.sm) : CallsV Try.prog 12 [colsI l] [] (funQ (.one (.own 0 0 l.length)) [] [.arr 40 7 (l.map encCol)]) := by
  have hl := hv.1
  refine funF_walk hTb Try.func12 rfl rfl Try.ntmps12 (by simp) (by simp) ?_
  (conv => whnf); repeat' (first | (refine And.intro ?_ ?_ <;> ((try intro h) <;> (try simp only [Bool.not_true, Bool.not_false] at h) <;> first | exact absurd h Bool.false_ne_true | exact absurd h.symm Bool.false_ne_true | conv => whnf)) | (refine Need.mk ?_; kernel_rfl) | (refine Need.mk ⟨rfl, ?_⟩; decide))
  refine VR.op hTb rfl rfl (o_make (q := 107) hTb rfl rfl rfl rfl rfl rfl (by decide) (by show 64 * _ ≤ _; simp; omega) (by unfold maxLen; simp; omega) rfl (by omega)) rfl ?_
  (conv => whnf); repeat' (first | (refine And.intro ?_ ?_ <;> ((try intro h) <;> (try simp only [Bool.not_true, Bool.not_false] at h) <;> first | exact absurd h Bool.false_ne_true | exact absurd h.symm Bool.false_ne_true | conv => whnf)) | (refine Need.mk ?_; kernel_rfl) | (refine Need.mk ⟨rfl, ?_⟩; decide))
  refine VL.loopI hTb (fun i => i ≤ l.length) (fun i => ⟨[(0, colsI l), (3, .one (.own 107 0 (l.map encCol).length)), (4, iS i)], [(107, .arr 40 7 (trG encCol [.g (.string ⟨#[]⟩), .g (.int .i64 0), .g (.bool false), .g (.bool false), .g (.int .i64 0), .g (.int .i64 0), .g (.string ⟨#[]⟩)] l i))], []⟩) (fun i => l.length - i) 0 (Nat.zero_le _)
    (wk_to [(107, 107)] rfl rfl rfl ⟨rfl, rfl, rfl, trivial⟩ ⟨rfl, ⟨_, rfl, ?_⟩, trivial⟩) (fun i hi => ?_)
  · rw [trG_zero, ← List.length_map (f := encCol)]; rfl
  (conv => whnf)
  refine And.intro (fun h2 => ?_) (fun h2 => ?_)
  · have hlt : i < l.length := by simpa using h2
    have hrow := rowCol hlt
    have hz := trG_at (enc := encCol) (z := [.g (.string ⟨#[]⟩), .g (.int .i64 0), .g (.bool false), .g (.bool false), .g (.int .i64 0), .g (.int .i64 0), .g (.string ⟨#[]⟩)]) hlt
    have hc := t_Col l[i] (hv.2 _ (List.getElem_mem hlt))
    generalize hci : l[i] = ci at hrow hc
    obtain ⟨name, kind, need, once, ⟨d_k, d_n, d_t⟩⟩ := ci
    (conv => whnf); repeat' (first
    | (refine And.intro ?_ ?_ <;> ((try intro h) <;> (try simp only [Bool.not_true, Bool.not_false, decide_eq_true_eq, decide_eq_false_iff_not, Int.not_lt, Int.not_le, gt_iff_lt, ge_iff_le] at h) <;> first | exact absurd h Bool.false_ne_true | exact absurd h.symm Bool.false_ne_true | conv => whnf))
    | (refine VL.drawS hTb hMix (by kernel_rfl) (by kernel_rfl) (by kernel_rfl) ?_; conv => whnf)
    | (refine Need.mk ?_; kernel_rfl) | (refine Need.mk ⟨rfl, ?_⟩; decide)
    | (refine VR.op hTb rfl rfl (o_index_imm hTb rfl rfl rfl rfl rfl rfl rfl (by omega) (hrow)) rfl ?_; conv => whnf)
    | (refine DT.op hTb rfl (o_index_imm hTb rfl rfl rfl rfl rfl rfl rfl (by omega) (hrow)) rfl ?_; conv => whnf)
    | (refine VR.pure hTb rfl rfl (o_purF (hc) rfl rfl rfl ⟨rfl, rfl, rfl, rfl⟩ rfl) ?_; conv => whnf)
    | (refine DT.pure hTb rfl (o_purF (hc) rfl rfl rfl ⟨rfl, rfl, rfl, rfl⟩ rfl) ?_; conv => whnf)
    | (refine Need.mk ?_; exact ⟨rfl, by omega, by first | (simp; done) | (simp; omega)⟩)
    | (refine VR.op hTb rfl rfl (o_store_elm hTb rfl rfl rfl rfl rfl (hz) rfl rfl rfl ⟨rfl, by decide⟩) rfl ?_; conv => whnf)
    | (refine DT.op hTb rfl (o_store_elm hTb rfl rfl rfl rfl rfl (hz) rfl rfl rfl ⟨rfl, by decide⟩) rfl ?_; conv => whnf))
    refine ⟨i + 1, hlt, by omega, wk_to [(107, 107)] rfl rfl rfl ⟨rfl, rfl, congrArg (fun x => Slot.one (.g (.int .i64 x))) (wrap64' (by unfold maxLen; omega)), trivial⟩ ⟨rfl, ⟨_, rfl, ?_⟩, trivial⟩⟩
    show Ob.arr _ 7 ((trG encCol _ l i).set (0 + ((i : Nat) : Int).toNat) (encCol ⟨name, kind, need, once, ⟨d_k, d_n, d_t⟩⟩)) = _
    rw [Int.toNat_natCast, Nat.zero_add, ← hci, trG_set hlt]
  · (conv => whnf)
    have : i = l.length := by simp at h2; omega
    subst this
    exact endW [107] rfl rfl rfl rfl rfl (LeS.of_eq (congrArg (fun n => Slot.one (.own 0 0 n)) (by simp))) rfl (congrArg (fun r => [Ob.arr 40 7 r]) trG_all)

-- texts of marks
def markT (k : Nat) : ByteArray := ⟨#[109]⟩ ++ decB k
theorem c_markText (n : Nat) (h1 : 1 ≤ n) (hn : (n : Int) ≤ 9223372036854775807) : CallsV Try.prog 49 [iS n] [] (pureQ (strS (markT n))) := by
  refine pure_walk hTb Try.func49 rfl rfl Try.ntmps49 (by simp) ?_
  have h0 : n ≠ 0 := by omega
  unfold markT
  (conv => whnf); repeat' (first
    | (refine And.intro ?_ ?_ <;> ((try intro h) <;> (try simp only [Bool.not_true, Bool.not_false, decide_eq_true_eq, decide_eq_false_iff_not, Int.not_lt, Int.not_le, gt_iff_lt, ge_iff_le] at h) <;> first | exact absurd h Bool.false_ne_true | exact absurd h.symm Bool.false_ne_true | conv => whnf))
    | (refine VL.drawS hTb hMix (by kernel_rfl) (by kernel_rfl) (by kernel_rfl) ?_; conv => whnf)
    | (refine Need.mk ?_; kernel_rfl) | (refine Need.mk ⟨rfl, ?_⟩; decide)
    | ((exfalso; omega)))
  refine VL.loopI hTb (α := Nat × ByteArray) (fun x => x.1 ≤ n ∧ (if x.1 = 0 then x.2 else decB x.1 ++ x.2) = decB n) (fun x => ⟨[(0, iS x.1), (3, strS x.2)], [], []⟩) (fun x => x.1) (n, ⟨#[]⟩) ⟨Nat.le_refl _, by simp only; rw [if_neg h0]; exact ByteArray.ext (by simp)⟩
    (wk_to [] rfl rfl rfl ⟨rfl, rfl, trivial⟩ trivial) (fun x hx => ?_)
  obtain ⟨m, out⟩ := x
  obtain ⟨hm, he⟩ := hx
  simp only at hm he
  have h2 := Lib.nDigits_le20 n (by omega)
  have ho : out.size ≤ 20 := by
    have h1 := congrArg ByteArray.size he
    rw [decB_size] at h1
    split at h1
    · omega
    · rw [ByteArray.size_append] at h1; omega
  (conv => whnf); repeat' (first
    | (refine And.intro ?_ ?_ <;> ((try intro h) <;> (try simp only [Bool.not_true, Bool.not_false, decide_eq_true_eq, decide_eq_false_iff_not, Int.not_lt, Int.not_le, gt_iff_lt, ge_iff_le] at h) <;> first | exact absurd h Bool.false_ne_true | exact absurd h.symm Bool.false_ne_true | conv => whnf))
    | (refine VL.drawS hTb hMix (by kernel_rfl) (by kernel_rfl) (by kernel_rfl) ?_; conv => whnf)
    | (refine Need.mk ?_; kernel_rfl) | (refine Need.mk ⟨rfl, ?_⟩; decide)
    | (refine Need.mk ?_; (rw [bsOf_size]; simp only [List.length_cons, List.length_nil]; omega))
    | (refine Need.mk ?_; (show 1 + out.size ≤ maxLen; unfold maxLen; omega))
    | ((refine VR.op hTb rfl rfl (o_conv_bytes (ns := [_]) hTb rfl rfl rfl rfl rfl rfl rfl rfl rfl (by simp)) rfl ?_; conv => whnf)))
  · have hm0 : 0 < m := by omega
    rw [if_neg (by omega)] at he
    have e1 : (m : Int).tmod 10 = ((m % 10 : Nat) : Int) := rfl
    have e0 : (m : Int).tdiv 10 = ((m / 10 : Nat) : Int) := rfl
    have e2 : IntKind.i64.wrap ((m : Int).tdiv 10) = ((m / 10 : Nat) : Int) := by rw [e0, IntKind.wrap_i64]; omega
    have e3 := bl_one (m % 10) (by omega)
    rw [← e1] at e3
    refine ⟨(m / 10, bsOf [IntKind.u8.wrap (IntKind.i64.wrap (48 + (m : Int).tmod 10))] ++ out), ⟨by omega, ?_⟩, by show m / 10 < m; omega, wk_to [] rfl rfl rfl ⟨congrArg (fun x => Slot.one (.g (.int .i64 x))) e2, rfl, trivial⟩ trivial⟩
    show (if m / 10 = 0 then (_ ++ out) else decB (m / 10) ++ (_ ++ out)) = decB n
    by_cases h10 : m < 10
    · rw [if_pos (by omega), e3, ← he, decB_end h10, show m % 10 = m by omega]
    · rw [if_neg (by omega), e3, ← ByteArray.append_assoc, ← decB_step h10, he]
  · have hm0 : m = 0 := by omega
    rw [if_pos hm0] at he
    exact congrArg (fun x => strS (⟨#[109]⟩ ++ x)) he
theorem w3 (k : Nat) : (k : Int).tmod 3 = ((k % 3 : Nat) : Int) := rfl
def mkCol (k : Nat) : Col := ⟨markT k, ((k + 1 : Nat) : Int), ((k + 2 : Nat) : Int).tmod 3 == 0, ((k + 3 : Nat) : Int).tmod 3 == 0, ⟨((k + 4 : Nat) : Int), ((k + 5 : Nat) : Int), markT (k + 6)⟩⟩
def mkCols (n k : Nat) : List Col := (List.range n).map fun i => mkCol (k + 7 * i)
theorem mkCols_len (n k : Nat) : (mkCols n k).length = n := by simp [mkCols]
theorem gset {α : Type} {l : List α} {i : Nat} {x y : α} (h : l[i]? = some x) : (l.set i y)[i]? = some y := by
  rw [List.getElem?_set_self]
  cases Nat.lt_or_ge i l.length with
  | inl h => exact h
  | inr h2 => rw [List.getElem?_eq_none h2] at h; cases h
theorem mk_step {α : Type} (f : Nat → α) {l : List α} {i : Nat} (h : i < l.length) : ((List.range i).map f ++ l.drop i).set i (f i) = (List.range (i + 1)).map f ++ l.drop (i + 1) := by
  rw [List.set_append_right _ _ (by simp), List.length_map, List.length_range, Nat.sub_self, List.drop_eq_getElem_cons h, List.set_cons_zero, List.range_succ]
  simp
theorem mk_at {α : Type} (f : Nat → α) {l : List α} {i : Nat} (h : i < l.length) : ((List.range i).map f ++ l.drop i)[i]? = some l[i] := by
  rw [List.getElem?_append_right (by simp)]; simp [h]
theorem c_markCols (l : List Col) (k : Nat) (hl : l.length ≤ 3000000) (hk1 : 1 ≤ k) (hk : k ≤ 1000000000) : CallsV Try.prog 16 [.one (.own 0 0 l.length), iS k] [.arr 40 7 (l.map encCol)]
    (funQ (iS ((k + 7 * l.length : Nat) : Int)) [some (.arr 40 7 ((mkCols l.length k).map encCol))] []) := by
  refine funF_walk hTb Try.func16 rfl rfl Try.ntmps16 (by simp) (by simp) ?_
  (conv => whnf); repeat' (first | (refine And.intro ?_ ?_ <;> ((try intro h) <;> (try simp only [Bool.not_true, Bool.not_false] at h) <;> first | exact absurd h Bool.false_ne_true | exact absurd h.symm Bool.false_ne_true | conv => whnf)) | (refine Need.mk ?_; kernel_rfl) | (refine Need.mk ⟨rfl, ?_⟩; decide))
  refine VL.loopI hTb (fun i => i ≤ l.length) (fun i => ⟨[(0, .one (.own 0 0 l.length)), (1, iS ((k + 7 * i : Nat) : Int)), (5, iS i)], [(0, .arr 40 7 (((List.range i).map (fun i => mkCol (k + 7 * i)) ++ l.drop i).map encCol))], []⟩) (fun i => l.length - i) 0 (Nat.zero_le _)
    (wk_to [(0, 0)] rfl rfl rfl ⟨rfl, rfl, rfl, trivial⟩ ⟨rfl, ⟨_, rfl, rfl⟩, trivial⟩) (fun i hi => ?_)
  (conv => whnf)
  refine And.intro (fun h2 => ?_) (fun h2 => ?_)
  · have hlt : i < l.length := by simpa using h2
    have hmk := mk_step (fun i => mkCol (k + 7 * i)) hlt
    have hat := mk_at (fun i => mkCol (k + 7 * i)) hlt
    have hlen : ((List.range i).map (fun i => mkCol (k + 7 * i)) ++ l.drop i).length = l.length := by simp; omega
    generalize (List.range i).map (fun i => mkCol (k + 7 * i)) ++ l.drop i = L at hmk hat hlen
    generalize l[i] = ci at hat
    obtain ⟨xn, xk, x1, x2, ⟨x3, x4, x5⟩⟩ := ci
    obtain ⟨K, hK⟩ : ∃ K, k + 7 * i = K := ⟨_, rfl⟩
    have e7 : k + 7 * (i + 1) = K + 7 := by omega
    rw [hK] at hmk
    have w : ∀ a : Nat, a ≤ K + 6 → IntKind.i64.wrap ((a : Int) + 1) = ((a + 1 : Nat) : Int) := fun a ha => by rw [IntKind.wrap_i64]; omega
    have w1 := w K (by omega)
    have w2 := w (K + 1) (by omega)
    have w3 := w (K + 1 + 1) (by omega)
    have w4 := w (K + 1 + 1 + 1) (by omega)
    have w5 := w (K + 1 + 1 + 1 + 1) (by omega)
    have w6 := w (K + 1 + 1 + 1 + 1 + 1) (by omega)
    have w7 := w (K + 1 + 1 + 1 + 1 + 1 + 1) (by omega)
    have hat : L[0 + ((i : Nat) : Int).toNat]? = some ⟨xn, xk, x1, x2, ⟨x3, x4, x5⟩⟩ := by rw [Int.toNat_natCast, Nat.zero_add]; exact hat
    have cM := c_markText K (by omega) (by omega)
    have cN := c_markText (K + 1 + 1 + 1 + 1 + 1 + 1) (by omega) (by omega)
    rw [← w6, ← w5, ← w4, ← w3, ← w2, ← w1] at cN
    rw [hK]
    (conv => whnf); repeat' (first
    | (refine And.intro ?_ ?_ <;> ((try intro h) <;> (try simp only [Bool.not_true, Bool.not_false, decide_eq_true_eq, decide_eq_false_iff_not, Int.not_lt, Int.not_le, gt_iff_lt, ge_iff_le] at h) <;> first | exact absurd h Bool.false_ne_true | exact absurd h.symm Bool.false_ne_true | conv => whnf))
    | (refine VL.drawS hTb hMix (by kernel_rfl) (by kernel_rfl) (by kernel_rfl) ?_; conv => whnf)
    | (refine Need.mk ?_; kernel_rfl) | (refine Need.mk ⟨rfl, ?_⟩; decide)
    | (refine VR.pure hTb rfl rfl (o_purN (cM) rfl rfl rfl ⟨rfl, rfl, rfl, rfl⟩ rfl) ?_; conv => whnf)
    | (refine DT.pure hTb rfl (o_purN (cM) rfl rfl rfl ⟨rfl, rfl, rfl, rfl⟩ rfl) ?_; conv => whnf)
    | (refine VR.pure hTb rfl rfl (o_purN (cN) rfl rfl rfl ⟨rfl, rfl, rfl, rfl⟩ rfl) ?_; conv => whnf)
    | (refine DT.pure hTb rfl (o_purN (cN) rfl rfl rfl ⟨rfl, rfl, rfl, rfl⟩ rfl) ?_; conv => whnf)
    | (refine Need.mk ?_; exact ⟨rfl, by omega, by omega⟩)
    | (refine VR.op hTb rfl rfl (o_storeM hTb rfl rfl rfl rfl rfl (hat) rfl rfl rfl ⟨rfl, by decide⟩ (c' := ⟨_, _, _, _, ⟨_, _, _⟩⟩) rfl) rfl ?_; conv => whnf)
    | (refine DT.op hTb rfl (o_storeM hTb rfl rfl rfl rfl rfl (hat) rfl rfl rfl ⟨rfl, by decide⟩ (c' := ⟨_, _, _, _, ⟨_, _, _⟩⟩) rfl) rfl ?_; conv => whnf)
    | (refine VR.op hTb rfl rfl (o_storeM hTb rfl rfl rfl rfl rfl (gset (hat)) rfl rfl rfl ⟨rfl, by decide⟩ (c' := ⟨_, _, _, _, ⟨_, _, _⟩⟩) rfl) rfl ?_; conv => whnf)
    | (refine DT.op hTb rfl (o_storeM hTb rfl rfl rfl rfl rfl (gset (hat)) rfl rfl rfl ⟨rfl, by decide⟩ (c' := ⟨_, _, _, _, ⟨_, _, _⟩⟩) rfl) rfl ?_; conv => whnf)
    | (refine VR.op hTb rfl rfl (o_storeM hTb rfl rfl rfl rfl rfl (gset (gset (hat))) rfl rfl rfl ⟨rfl, by decide⟩ (c' := ⟨_, _, _, _, ⟨_, _, _⟩⟩) rfl) rfl ?_; conv => whnf)
    | (refine DT.op hTb rfl (o_storeM hTb rfl rfl rfl rfl rfl (gset (gset (hat))) rfl rfl rfl ⟨rfl, by decide⟩ (c' := ⟨_, _, _, _, ⟨_, _, _⟩⟩) rfl) rfl ?_; conv => whnf)
    | (refine VR.op hTb rfl rfl (o_storeM hTb rfl rfl rfl rfl rfl (gset (gset (gset (hat)))) rfl rfl rfl ⟨rfl, by decide⟩ (c' := ⟨_, _, _, _, ⟨_, _, _⟩⟩) rfl) rfl ?_; conv => whnf)
    | (refine DT.op hTb rfl (o_storeM hTb rfl rfl rfl rfl rfl (gset (gset (gset (hat)))) rfl rfl rfl ⟨rfl, by decide⟩ (c' := ⟨_, _, _, _, ⟨_, _, _⟩⟩) rfl) rfl ?_; conv => whnf)
    | (refine VR.op hTb rfl rfl (o_storeM hTb rfl rfl rfl rfl rfl (gset (gset (gset (gset (hat))))) rfl rfl rfl ⟨rfl, by decide⟩ (c' := ⟨_, _, _, _, ⟨_, _, _⟩⟩) rfl) rfl ?_; conv => whnf)
    | (refine DT.op hTb rfl (o_storeM hTb rfl rfl rfl rfl rfl (gset (gset (gset (gset (hat))))) rfl rfl rfl ⟨rfl, by decide⟩ (c' := ⟨_, _, _, _, ⟨_, _, _⟩⟩) rfl) rfl ?_; conv => whnf)
    | (refine VR.op hTb rfl rfl (o_storeM hTb rfl rfl rfl rfl rfl (gset (gset (gset (gset (gset (hat)))))) rfl rfl rfl ⟨rfl, by decide⟩ (c' := ⟨_, _, _, _, ⟨_, _, _⟩⟩) rfl) rfl ?_; conv => whnf)
    | (refine DT.op hTb rfl (o_storeM hTb rfl rfl rfl rfl rfl (gset (gset (gset (gset (gset (hat)))))) rfl rfl rfl ⟨rfl, by decide⟩ (c' := ⟨_, _, _, _, ⟨_, _, _⟩⟩) rfl) rfl ?_; conv => whnf)
    | (refine VR.op hTb rfl rfl (o_storeM hTb rfl rfl rfl rfl rfl (gset (gset (gset (gset (gset (gset (hat))))))) rfl rfl rfl ⟨rfl, by decide⟩ (c' := ⟨_, _, _, _, ⟨_, _, _⟩⟩) rfl) rfl ?_; conv => whnf)
    | (refine DT.op hTb rfl (o_storeM hTb rfl rfl rfl rfl rfl (gset (gset (gset (gset (gset (gset (hat))))))) rfl rfl rfl ⟨rfl, by decide⟩ (c' := ⟨_, _, _, _, ⟨_, _, _⟩⟩) rfl) rfl ?_; conv => whnf))
    refine ⟨i + 1, hlt, by omega, wk_to [(0, 0)] rfl rfl rfl ⟨rfl, congrArg (fun x => Slot.one (.g (.int .i64 x))) (by rw [w1, w2, w3, w4, w5, w6, w7, e7]), congrArg (fun x => Slot.one (.g (.int .i64 x))) (wrap64' (by unfold maxLen; omega)), trivial⟩ ⟨rfl, ⟨_, rfl, ?_⟩, trivial⟩⟩
    refine congrArg (fun r : List Col => Ob.arr 40 7 (r.map encCol)) ?_
    rw [← hmk]
    simp only [List.set_set, Int.toNat_natCast, Nat.zero_add, w1, w2, w3, w4, w5, w6]
    rfl
  · have hie : i = l.length := by simp at h2; omega
    subst hie
    (conv => whnf)
    exact endW [] rfl rfl rfl rfl rfl (LeS.refl _) (congrArg (fun r : List Col => [some (Ob.arr 40 7 (r.map encCol))]) (by simp [mkCols])) rfl
theorem c_heldCols (n k : Nat) (hl : n ≤ 3000000) (hk1 : 1 ≤ k) (hk : k ≤ 1000000000) : CallsV Try.prog 52 [colsI (mkCols n k), iS k] [] (pureQ (iS ((k + 7 * n : Nat) : Int))) := by
  have hlen := mkCols_len n k
  refine pure_walk hTb Try.func52 rfl rfl Try.ntmps52 (by simp) ?_
  (conv => whnf); repeat' (first | (refine And.intro ?_ ?_ <;> ((try intro h) <;> (try simp only [Bool.not_true, Bool.not_false] at h) <;> first | exact absurd h Bool.false_ne_true | exact absurd h.symm Bool.false_ne_true | conv => whnf)) | (refine Need.mk ?_; kernel_rfl) | (refine Need.mk ⟨rfl, ?_⟩; decide))
  refine VL.loopI hTb (fun i => i ≤ n) (fun i => ⟨[(0, colsI (mkCols n k)), (1, iS ((k + 7 * i : Nat) : Int)), (5, iS i)], [], []⟩) (fun i => n - i) 0 (Nat.zero_le _)
    (wk_to [] rfl rfl rfl ⟨rfl, rfl, rfl, trivial⟩ trivial) (fun i hi => ?_)
  (conv => whnf)
  refine And.intro (fun h2 => ?_) (fun h2 => ?_)
  · have hlt : i < n := by simp [hlen] at h2; omega
    obtain ⟨K, hK⟩ : ∃ K, k + 7 * i = K := ⟨_, rfl⟩
    have e7 : k + 7 * (i + 1) = K + 7 := by omega
    have w : ∀ a : Nat, a ≤ K + 6 → IntKind.i64.wrap ((a : Int) + 1) = ((a + 1 : Nat) : Int) := fun a ha => by rw [IntKind.wrap_i64]; omega
    have w1 := w (K) (by omega)
    have w2 := w (K + 1) (by omega)
    have w3 := w (K + 1 + 1) (by omega)
    have w4 := w (K + 1 + 1 + 1) (by omega)
    have w5 := w (K + 1 + 1 + 1 + 1) (by omega)
    have w6 := w (K + 1 + 1 + 1 + 1 + 1) (by omega)
    have w7 := w (K + 1 + 1 + 1 + 1 + 1 + 1) (by omega)
    have hrow : ((mkCols n k).map encCol)[((i : Nat) : Int).toNat]? = some [.g (.string (markT (K))), .g (.int .i64 (IntKind.i64.wrap (((K : Nat) : Int) + 1))), .g (.bool ((IntKind.i64.wrap ((IntKind.i64.wrap (((K : Nat) : Int) + 1)) + 1)).tmod 3 == 0)), .g (.bool ((IntKind.i64.wrap ((IntKind.i64.wrap ((IntKind.i64.wrap (((K : Nat) : Int) + 1)) + 1)) + 1)).tmod 3 == 0)), .g (.int .i64 (IntKind.i64.wrap ((IntKind.i64.wrap ((IntKind.i64.wrap ((IntKind.i64.wrap (((K : Nat) : Int) + 1)) + 1)) + 1)) + 1))), .g (.int .i64 (IntKind.i64.wrap ((IntKind.i64.wrap ((IntKind.i64.wrap ((IntKind.i64.wrap ((IntKind.i64.wrap (((K : Nat) : Int) + 1)) + 1)) + 1)) + 1)) + 1))), .g (.string (markT (K + 1 + 1 + 1 + 1 + 1 + 1)))] := by
      rw [Int.toNat_natCast, List.getElem?_map, List.getElem?_eq_getElem (by rw [hlen]; exact hlt)]
      simp only [mkCols, List.getElem_map, List.getElem_range, hK, w1, w2, w3, w4, w5, w6]
      rfl
    have c0 := c_markText (K) (by omega) (by omega)
    have c6 := c_markText (K + 1 + 1 + 1 + 1 + 1 + 1) (by omega) (by omega)
    rw [← w6, ← w5, ← w4, ← w3, ← w2, ← w1] at c6
    have hl2 : i < (mkCols n k).length := by omega
    rw [hK]
    (conv => whnf); repeat' (first
    | (refine absurd h ?_; (simp; done))
    | (refine And.intro ?_ ?_ <;> ((try intro h) <;> (try simp only [Bool.not_true, Bool.not_false, decide_eq_true_eq, decide_eq_false_iff_not, Int.not_lt, Int.not_le, gt_iff_lt, ge_iff_le] at h) <;> first | exact absurd h Bool.false_ne_true | exact absurd h.symm Bool.false_ne_true | conv => whnf))
    | (refine VL.drawS hTb hMix (by kernel_rfl) (by kernel_rfl) (by kernel_rfl) ?_; conv => whnf)
    | (refine Need.mk ?_; kernel_rfl) | (refine Need.mk ⟨rfl, ?_⟩; decide)
    | (refine VR.op hTb rfl rfl (o_index_imm hTb rfl rfl rfl rfl rfl rfl rfl (by omega) (hrow)) rfl ?_; conv => whnf)
    | (refine DT.op hTb rfl (o_index_imm hTb rfl rfl rfl rfl rfl rfl rfl (by omega) (hrow)) rfl ?_; conv => whnf)
    | (refine VR.pure hTb rfl rfl (o_purN (c0) rfl rfl rfl ⟨rfl, rfl, rfl, rfl⟩ rfl) ?_; conv => whnf)
    | (refine DT.pure hTb rfl (o_purN (c0) rfl rfl rfl ⟨rfl, rfl, rfl, rfl⟩ rfl) ?_; conv => whnf)
    | (refine VR.pure hTb rfl rfl (o_purN (c6) rfl rfl rfl ⟨rfl, rfl, rfl, rfl⟩ rfl) ?_; conv => whnf)
    | (refine DT.pure hTb rfl (o_purN (c6) rfl rfl rfl ⟨rfl, rfl, rfl, rfl⟩ rfl) ?_; conv => whnf))
    all_goals first
      | exact ⟨i + 1, hlt, by omega, wk_to [] rfl rfl rfl ⟨rfl, congrArg (fun x => Slot.one (.g (.int .i64 x))) (by rw [w1, w2, w3, w4, w5, w6, w7, e7]), congrArg (fun x => Slot.one (.g (.int .i64 x))) (wrap64' (by unfold maxLen; omega)), trivial⟩ trivial⟩
      | trace_state
  · have hie : i = n := by simp [hlen] at h2; omega
    subst hie
    (conv => whnf)
    rfl
end Go.Vl
