/- Contracts: how great things are, texts counted too; copies that may be written; marks, and marks that are held. Parts printed by genmk.py. Laws: columns and rows behind changes: the program's are the reference's; what it gives back is its own. -/
import Derived.Test.YtdijjjgplhbkkaaGreatDoorJDf
import Derived.Test.YtdijjjgplhbkkaaGreatDoorJDh
import Derived.Test.YtdijjjgplhbkkaaGreatDoorJDi
import Derived.Test.YtdijjjgplhbkkaaGreatDoorJDc
import Derived.Test.YtdijjjgplhbkkaaGreatDoorJDg
set_option linter.unusedSimpArgs false
set_option linter.unusedVariables false

namespace Go.Vl
open Go Go.RowKit Go.Proofs
set_option maxRecDepth 100000
set_option linter.unusedSimpArgs false
set_option linter.unusedVariables false
set_option maxHeartbeats 4000000
theorem y_Val (v : Val) (hv : v.ok) (n : Int) (h0 : 0 ≤ n) (h1 : n ≤ 1048576) : CallsV Tryz.prog 237 [.agg (encVal v), iS n] [] (relQ (fun y : Int => y ≤ n ∧ (0 ≤ y → v.md)) iS (fun _ => []) (fun _ => [])) := by
  obtain ⟨k, n, t⟩ := v
  simp only [Val.ok] at hv
  refine funF_walk hTb Tryz.func237 rfl rfl Tryz.ntmps237 (by simp) (by simp) ?_
  (conv => whnf); repeat' (first | (refine And.intro ?_ ?_ <;> ((try intro h) <;> (try simp only [Bool.not_true, Bool.not_false] at h) <;> first | exact absurd h Bool.false_ne_true | exact absurd h.symm Bool.false_ne_true | conv => whnf)) | (refine Need.mk ?_; kernel_rfl) | (refine Need.mk ⟨rfl, ?_⟩; decide))
  all_goals refine endR [] _ rfl rfl rfl rfl rfl (LeS.refl _) rfl rfl ⟨by (try simp only [decide_eq_false_iff_not, decide_eq_true_eq, IntKind.wrap_i64] at *); (try simp only [Int.not_lt] at *); (try unfold maxLen at *); omega, fun hp => ?_⟩
  all_goals first
    | (show t.size ≤ 1048576; (try simp only [decide_eq_false_iff_not, decide_eq_true_eq, IntKind.wrap_i64] at *); (try simp only [Int.not_lt] at *); (try unfold maxLen at *); omega)
    | (exfalso; revert hp; simp; done)
theorem y_Col (v : Col) (hv : v.ok) (n : Int) (h0 : 0 ≤ n) (h1 : n ≤ 1048576) : CallsV Tryz.prog 225 [.agg (encCol v), iS n] [] (relQ (fun y : Int => y ≤ n ∧ (0 ≤ y → v.md)) iS (fun _ => []) (fun _ => [])) := by
  obtain ⟨name, kind, need, once, ⟨d_k, d_n, d_t⟩⟩ := v
  simp only [Col.ok] at hv
  refine funF_walk hTb Tryz.func225 rfl rfl Tryz.ntmps225 (by simp) (by simp) ?_
  (conv => whnf); repeat' (first
    | (refine And.intro ?_ ?_ <;> ((try intro h) <;> (try simp only [Bool.not_true, Bool.not_false, decide_eq_true_eq, decide_eq_false_iff_not, Int.not_lt, Int.not_le, gt_iff_lt, ge_iff_le] at h) <;> first | exact absurd h Bool.false_ne_true | exact absurd h.symm Bool.false_ne_true | conv => whnf))
    | (refine VL.drawS hTb hMix (by kernel_rfl) (by kernel_rfl) (by kernel_rfl) ?_; conv => whnf)
    | (refine Need.mk ?_; kernel_rfl) | (refine Need.mk ⟨rfl, ?_⟩; decide)
    | (refine VR.rel hTb rfl rfl (o_relN (y_Val ⟨_, _, _⟩ (hv.2) _ (by (try simp only [decide_eq_false_iff_not, decide_eq_true_eq, IntKind.wrap_i64] at *); (try simp only [Int.not_lt] at *); (try unfold maxLen at *); omega) (by (try simp only [decide_eq_false_iff_not, decide_eq_true_eq, IntKind.wrap_i64] at *); (try simp only [Int.not_lt] at *); (try unfold maxLen at *); omega)) false [] (fun _ _ => ⟨by simp, fun h => by cases h⟩) rfl rfl rfl rfl rfl ⟨rfl, rfl, rfl, rfl⟩ rfl rfl) ?_; rintro yq_d hq_d; (try simp only at hq_d); conv => whnf)
    | (refine DT.rel hTb rfl (o_relN (y_Val ⟨_, _, _⟩ (hv.2) _ (by (try simp only [decide_eq_false_iff_not, decide_eq_true_eq, IntKind.wrap_i64] at *); (try simp only [Int.not_lt] at *); (try unfold maxLen at *); omega) (by (try simp only [decide_eq_false_iff_not, decide_eq_true_eq, IntKind.wrap_i64] at *); (try simp only [Int.not_lt] at *); (try unfold maxLen at *); omega)) false [] (fun _ _ => ⟨by simp, fun h => by cases h⟩) rfl rfl rfl rfl rfl ⟨rfl, rfl, rfl, rfl⟩ rfl rfl) [] (by kernel_rfl) (by kernel_rfl) ?_; rintro yq_d hq_d; (try simp only at hq_d); refine And.intro rfl (And.intro rfl ?_); conv => whnf))
  all_goals refine endR [] _ rfl rfl rfl rfl rfl (LeS.refl _) rfl rfl ⟨by (try simp only [decide_eq_false_iff_not, decide_eq_true_eq, IntKind.wrap_i64] at *); (try simp only [Int.not_lt] at *); (try unfold maxLen at *); omega, fun hp => ?_⟩
  all_goals first
    | (refine ⟨?_, hq_d.2 ?_⟩ <;> ((try simp only [decide_eq_false_iff_not, decide_eq_true_eq, IntKind.wrap_i64] at *); (try simp only [Int.not_lt] at *); (try unfold maxLen at *); omega))
    | (exfalso; revert hp; simp; done)
theorem y_Change (v : Change) (hv : v.ok) (n : Int) (h0 : 0 ≤ n) (h1 : n ≤ 1048576) : CallsV Tryz.prog 226 [.agg (encChange v), iS n] [] (relQ (fun y : Int => y ≤ n ∧ (0 ≤ y → v.md)) iS (fun _ => []) (fun _ => [])) := by
  obtain ⟨kind, name, new, ⟨col_name, col_kind, col_need, col_once, ⟨col_d_k, col_d_n, col_d_t⟩⟩⟩ := v
  simp only [Change.ok] at hv
  refine funF_walk hTb Tryz.func226 rfl rfl Tryz.ntmps226 (by simp) (by simp) ?_
  (conv => whnf); repeat' (first
    | (refine And.intro ?_ ?_ <;> ((try intro h) <;> (try simp only [Bool.not_true, Bool.not_false, decide_eq_true_eq, decide_eq_false_iff_not, Int.not_lt, Int.not_le, gt_iff_lt, ge_iff_le] at h) <;> first | exact absurd h Bool.false_ne_true | exact absurd h.symm Bool.false_ne_true | conv => whnf))
    | (refine VL.drawS hTb hMix (by kernel_rfl) (by kernel_rfl) (by kernel_rfl) ?_; conv => whnf)
    | (refine Need.mk ?_; kernel_rfl) | (refine Need.mk ⟨rfl, ?_⟩; decide)
    | (refine VR.rel hTb rfl rfl (o_relN (y_Col ⟨_, _, _, _, ⟨_, _, _⟩⟩ (hv.2.2) _ (by (try simp only [decide_eq_false_iff_not, decide_eq_true_eq, IntKind.wrap_i64] at *); (try simp only [Int.not_lt] at *); (try unfold maxLen at *); omega) (by (try simp only [decide_eq_false_iff_not, decide_eq_true_eq, IntKind.wrap_i64] at *); (try simp only [Int.not_lt] at *); (try unfold maxLen at *); omega)) false [] (fun _ _ => ⟨by simp, fun h => by cases h⟩) rfl rfl rfl rfl rfl ⟨rfl, rfl, rfl, rfl⟩ rfl rfl) ?_; rintro yq_col hq_col; (try simp only at hq_col); conv => whnf)
    | (refine DT.rel hTb rfl (o_relN (y_Col ⟨_, _, _, _, ⟨_, _, _⟩⟩ (hv.2.2) _ (by (try simp only [decide_eq_false_iff_not, decide_eq_true_eq, IntKind.wrap_i64] at *); (try simp only [Int.not_lt] at *); (try unfold maxLen at *); omega) (by (try simp only [decide_eq_false_iff_not, decide_eq_true_eq, IntKind.wrap_i64] at *); (try simp only [Int.not_lt] at *); (try unfold maxLen at *); omega)) false [] (fun _ _ => ⟨by simp, fun h => by cases h⟩) rfl rfl rfl rfl rfl ⟨rfl, rfl, rfl, rfl⟩ rfl rfl) [] (by kernel_rfl) (by kernel_rfl) ?_; rintro yq_col hq_col; (try simp only at hq_col); refine And.intro rfl (And.intro rfl ?_); conv => whnf))
  all_goals refine endR [] _ rfl rfl rfl rfl rfl (LeS.refl _) rfl rfl ⟨by (try simp only [decide_eq_false_iff_not, decide_eq_true_eq, IntKind.wrap_i64] at *); (try simp only [Int.not_lt] at *); (try unfold maxLen at *); omega, fun hp => ?_⟩
  all_goals first
    | (refine ⟨?_, ?_, hq_col.2 ?_⟩ <;> ((try simp only [decide_eq_false_iff_not, decide_eq_true_eq, IntKind.wrap_i64] at *); (try simp only [Int.not_lt] at *); (try unfold maxLen at *); omega))
    | (exfalso; revert hp; simp; done)
theorem u_Vals (l : List Val) (hv : l.length ≤ 1048576 ∧ ∀ x ∈ l, x.sm) : CallsV Tryz.prog 240 [valsI l] [] (funQ (.one (.own 0 0 l.length)) [] [.arr 37 3 (l.map encVal)]) := by
  have hl := hv.1
  refine funF_walk hTb Tryz.func240 rfl rfl Tryz.ntmps240 (by simp) (by simp) ?_
  (conv => whnf); repeat' (first | (refine And.intro ?_ ?_ <;> ((try intro h) <;> (try simp only [Bool.not_true, Bool.not_false] at h) <;> first | exact absurd h Bool.false_ne_true | exact absurd h.symm Bool.false_ne_true | conv => whnf)) | (refine Need.mk ?_; kernel_rfl) | (refine Need.mk ⟨rfl, ?_⟩; decide))
  refine VR.op hTb rfl rfl (o_make (q := 107) hTb rfl rfl rfl rfl rfl rfl (by decide) (by show 32 * _ ≤ _; simp; omega) (by unfold maxLen; simp; omega) rfl (by omega)) rfl ?_
  (conv => whnf); repeat' (first | (refine And.intro ?_ ?_ <;> ((try intro h) <;> (try simp only [Bool.not_true, Bool.not_false] at h) <;> first | exact absurd h Bool.false_ne_true | exact absurd h.symm Bool.false_ne_true | conv => whnf)) | (refine Need.mk ?_; kernel_rfl) | (refine Need.mk ⟨rfl, ?_⟩; decide))
  refine VL.loopI hTb (fun i => i ≤ l.length) (fun i => ⟨[(0, valsI l), (3, .one (.own 107 0 (l.map encVal).length)), (4, iS i)], [(107, .arr 37 3 (trG encVal [.g (.int .i64 0), .g (.int .i64 0), .g (.string ⟨#[]⟩)] l i))], []⟩) (fun i => l.length - i) 0 (Nat.zero_le _)
    (wk_to [(107, 107)] rfl rfl rfl ⟨rfl, rfl, rfl, trivial⟩ ⟨rfl, ⟨_, rfl, ?_⟩, trivial⟩) (fun i hi => ?_)
  · rw [trG_zero, ← List.length_map (f := encVal)]; rfl
  (conv => whnf)
  refine And.intro (fun h2 => ?_) (fun h2 => ?_)
  · have hlt : i < l.length := by simpa using h2
    have hrow := rowVal hlt
    have hz := trG_at (enc := encVal) (z := [.g (.int .i64 0), .g (.int .i64 0), .g (.string ⟨#[]⟩)]) hlt
    have hc := t_Val l[i] (hv.2 _ (List.getElem_mem hlt))
    generalize hci : l[i] = ci at hrow hc
    obtain ⟨k, n, t⟩ := ci
    (conv => whnf); repeat' (first
    | (refine And.intro ?_ ?_ <;> ((try intro h) <;> (try simp only [Bool.not_true, Bool.not_false, decide_eq_true_eq, decide_eq_false_iff_not, Int.not_lt, Int.not_le, gt_iff_lt, ge_iff_le] at h) <;> first | exact absurd h Bool.false_ne_true | exact absurd h.symm Bool.false_ne_true | conv => whnf))
    | (refine VL.drawS hTb hMix (by kernel_rfl) (by kernel_rfl) (by kernel_rfl) ?_; conv => whnf)
    | (refine Need.mk ?_; kernel_rfl) | (refine Need.mk ⟨rfl, ?_⟩; decide)
    | (refine VR.op hTb rfl rfl (o_index_imm hTb rfl rfl rfl rfl rfl rfl rfl (by omega) (hrow)) rfl ?_; conv => whnf)
    | (refine DT.op hTb rfl (o_index_imm hTb rfl rfl rfl rfl rfl rfl rfl (by omega) (hrow)) rfl ?_; conv => whnf)
    | (refine VR.pure hTb rfl rfl (o_purF (hc) rfl rfl rfl ⟨rfl, rfl, rfl, rfl⟩ rfl) ?_; conv => whnf)
    | (refine DT.pure hTb rfl (o_purF (hc) rfl rfl rfl ⟨rfl, rfl, rfl, rfl⟩ rfl) ?_; conv => whnf)
    | (refine Need.mk ?_; exact ⟨rfl, by omega, by first | (simp; done) | (simp; omega)⟩)
    | (refine VR.op hTb rfl rfl (o_store_elm hTb rfl rfl rfl rfl rfl (hz) rfl rfl rfl ⟨rfl, by decide⟩) rfl ?_; conv => whnf)
    | (refine DT.op hTb rfl (o_store_elm hTb rfl rfl rfl rfl rfl (hz) rfl rfl rfl ⟨rfl, by decide⟩) rfl ?_; conv => whnf))
    refine ⟨i + 1, hlt, by omega, wk_to [(107, 107)] rfl rfl rfl ⟨rfl, rfl, congrArg (fun x => Slot.one (.g (.int .i64 x))) (wrap64' (by unfold maxLen; omega)), trivial⟩ ⟨rfl, ⟨_, rfl, ?_⟩, trivial⟩⟩
    show Ob.arr _ 3 ((trG encVal _ l i).set (0 + ((i : Nat) : Int).toNat) (encVal ⟨k, n, t⟩)) = _
    rw [Int.toNat_natCast, Nat.zero_add, ← hci, trG_set hlt]
  · (conv => whnf)
    have : i = l.length := by simp at h2; omega
    subst this
    exact endW [107] rfl rfl rfl rfl rfl (LeS.of_eq (congrArg (fun n => Slot.one (.own 0 0 n)) (by simp))) rfl (congrArg (fun r => [Ob.arr 37 3 r]) trG_all)
theorem u_Cols (l : List Col) (hv : l.length ≤ 1048576 ∧ ∀ x ∈ l, x.sm) : CallsV Tryz.prog 214 [colsI l] [] (funQ (.one (.own 0 0 l.length)) [] [.arr 39 7 (l.map encCol)]) := by
  have hl := hv.1
  refine funF_walk hTb Tryz.func214 rfl rfl Tryz.ntmps214 (by simp) (by simp) ?_
  (conv => whnf); repeat' (first | (refine And.intro ?_ ?_ <;> ((try intro h) <;> (try simp only [Bool.not_true, Bool.not_false] at h) <;> first | exact absurd h Bool.false_ne_true | exact absurd h.symm Bool.false_ne_true | conv => whnf)) | (refine Need.mk ?_; kernel_rfl) | (refine Need.mk ⟨rfl, ?_⟩; decide))
  refine VR.op hTb rfl rfl (o_make (q := 107) hTb rfl rfl rfl rfl rfl rfl (by decide) (by show 64 * _ ≤ _; simp; omega) (by unfold maxLen; simp; omega) rfl (by omega)) rfl ?_
  (conv => whnf); repeat' (first | (refine And.intro ?_ ?_ <;> ((try intro h) <;> (try simp only [Bool.not_true, Bool.not_false] at h) <;> first | exact absurd h Bool.false_ne_true | exact absurd h.symm Bool.false_ne_true | conv => whnf)) | (refine Need.mk ?_; kernel_rfl) | (refine Need.mk ⟨rfl, ?_⟩; decide))
  refine VL.loopI hTb (fun i => i ≤ l.length) (fun i => ⟨[(0, colsI l), (3, .one (.own 107 0 (l.map encCol).length)), (4, iS i)], [(107, .arr 39 7 (trG encCol [.g (.string ⟨#[]⟩), .g (.int .i64 0), .g (.bool false), .g (.bool false), .g (.int .i64 0), .g (.int .i64 0), .g (.string ⟨#[]⟩)] l i))], []⟩) (fun i => l.length - i) 0 (Nat.zero_le _)
    (wk_to [(107, 107)] rfl rfl rfl ⟨rfl, rfl, rfl, trivial⟩ ⟨rfl, ⟨_, rfl, ?_⟩, trivial⟩) (fun i hi => ?_)
  · rw [trG_zero, ← List.length_map (f := encCol)]; rfl
  (conv => whnf)
  refine And.intro (fun h2 => ?_) (fun h2 => ?_)
  · have hlt : i < l.length := by simpa using h2
    have hrow := rowCol hlt
    have hz := trG_at (enc := encCol) (z := [.g (.string ⟨#[]⟩), .g (.int .i64 0), .g (.bool false), .g (.bool false), .g (.int .i64 0), .g (.int .i64 0), .g (.string ⟨#[]⟩)]) hlt
    have hc := t_Col l[i] (hv.2 _ (List.getElem_mem hlt))
    generalize hci : l[i] = ci at hrow hc
    obtain ⟨name, kind, need, once, ⟨d_k, d_n, d_t⟩⟩ := ci
    (conv => whnf); repeat' (first
    | (refine And.intro ?_ ?_ <;> ((try intro h) <;> (try simp only [Bool.not_true, Bool.not_false, decide_eq_true_eq, decide_eq_false_iff_not, Int.not_lt, Int.not_le, gt_iff_lt, ge_iff_le] at h) <;> first | exact absurd h Bool.false_ne_true | exact absurd h.symm Bool.false_ne_true | conv => whnf))
    | (refine VL.drawS hTb hMix (by kernel_rfl) (by kernel_rfl) (by kernel_rfl) ?_; conv => whnf)
    | (refine Need.mk ?_; kernel_rfl) | (refine Need.mk ⟨rfl, ?_⟩; decide)
    | (refine VR.op hTb rfl rfl (o_index_imm hTb rfl rfl rfl rfl rfl rfl rfl (by omega) (hrow)) rfl ?_; conv => whnf)
    | (refine DT.op hTb rfl (o_index_imm hTb rfl rfl rfl rfl rfl rfl rfl (by omega) (hrow)) rfl ?_; conv => whnf)
    | (refine VR.pure hTb rfl rfl (o_purF (hc) rfl rfl rfl ⟨rfl, rfl, rfl, rfl⟩ rfl) ?_; conv => whnf)
    | (refine DT.pure hTb rfl (o_purF (hc) rfl rfl rfl ⟨rfl, rfl, rfl, rfl⟩ rfl) ?_; conv => whnf)
    | (refine Need.mk ?_; exact ⟨rfl, by omega, by first | (simp; done) | (simp; omega)⟩)
    | (refine VR.op hTb rfl rfl (o_store_elm hTb rfl rfl rfl rfl rfl (hz) rfl rfl rfl ⟨rfl, by decide⟩) rfl ?_; conv => whnf)
    | (refine DT.op hTb rfl (o_store_elm hTb rfl rfl rfl rfl rfl (hz) rfl rfl rfl ⟨rfl, by decide⟩) rfl ?_; conv => whnf))
    refine ⟨i + 1, hlt, by omega, wk_to [(107, 107)] rfl rfl rfl ⟨rfl, rfl, congrArg (fun x => Slot.one (.g (.int .i64 x))) (wrap64' (by unfold maxLen; omega)), trivial⟩ ⟨rfl, ⟨_, rfl, ?_⟩, trivial⟩⟩
    show Ob.arr _ 7 ((trG encCol _ l i).set (0 + ((i : Nat) : Int).toNat) (encCol ⟨name, kind, need, once, ⟨d_k, d_n, d_t⟩⟩)) = _
    rw [Int.toNat_natCast, Nat.zero_add, ← hci, trG_set hlt]
  · (conv => whnf)
    have : i = l.length := by simp at h2; omega
    subst this
    exact endW [107] rfl rfl rfl rfl rfl (LeS.of_eq (congrArg (fun n => Slot.one (.own 0 0 n)) (by simp))) rfl (congrArg (fun r => [Ob.arr 39 7 r]) trG_all)
theorem u_Changes (l : List Change) (hv : l.length ≤ 1048576 ∧ ∀ x ∈ l, x.sm) : CallsV Tryz.prog 215 [changesI l] [] (funQ (.one (.own 0 0 l.length)) [] [.arr 105 10 (l.map encChange)]) := by
  have hl := hv.1
  refine funF_walk hTb Tryz.func215 rfl rfl Tryz.ntmps215 (by simp) (by simp) ?_
  (conv => whnf); repeat' (first | (refine And.intro ?_ ?_ <;> ((try intro h) <;> (try simp only [Bool.not_true, Bool.not_false] at h) <;> first | exact absurd h Bool.false_ne_true | exact absurd h.symm Bool.false_ne_true | conv => whnf)) | (refine Need.mk ?_; kernel_rfl) | (refine Need.mk ⟨rfl, ?_⟩; decide))
  refine VR.op hTb rfl rfl (o_make (q := 107) hTb rfl rfl rfl rfl rfl rfl (by decide) (by show 104 * _ ≤ _; simp; omega) (by unfold maxLen; simp; omega) rfl (by omega)) rfl ?_
  (conv => whnf); repeat' (first | (refine And.intro ?_ ?_ <;> ((try intro h) <;> (try simp only [Bool.not_true, Bool.not_false] at h) <;> first | exact absurd h Bool.false_ne_true | exact absurd h.symm Bool.false_ne_true | conv => whnf)) | (refine Need.mk ?_; kernel_rfl) | (refine Need.mk ⟨rfl, ?_⟩; decide))
  refine VL.loopI hTb (fun i => i ≤ l.length) (fun i => ⟨[(0, changesI l), (3, .one (.own 107 0 (l.map encChange).length)), (4, iS i)], [(107, .arr 105 10 (trG encChange [.g (.int .i64 0), .g (.string ⟨#[]⟩), .g (.string ⟨#[]⟩), .g (.string ⟨#[]⟩), .g (.int .i64 0), .g (.bool false), .g (.bool false), .g (.int .i64 0), .g (.int .i64 0), .g (.string ⟨#[]⟩)] l i))], []⟩) (fun i => l.length - i) 0 (Nat.zero_le _)
    (wk_to [(107, 107)] rfl rfl rfl ⟨rfl, rfl, rfl, trivial⟩ ⟨rfl, ⟨_, rfl, ?_⟩, trivial⟩) (fun i hi => ?_)
  · rw [trG_zero, ← List.length_map (f := encChange)]; rfl
  (conv => whnf)
  refine And.intro (fun h2 => ?_) (fun h2 => ?_)
  · have hlt : i < l.length := by simpa using h2
    have hrow := rowChange hlt
    have hz := trG_at (enc := encChange) (z := [.g (.int .i64 0), .g (.string ⟨#[]⟩), .g (.string ⟨#[]⟩), .g (.string ⟨#[]⟩), .g (.int .i64 0), .g (.bool false), .g (.bool false), .g (.int .i64 0), .g (.int .i64 0), .g (.string ⟨#[]⟩)]) hlt
    have hc := t_Change l[i] (hv.2 _ (List.getElem_mem hlt))
    generalize hci : l[i] = ci at hrow hc
    obtain ⟨kind, name, new, ⟨col_name, col_kind, col_need, col_once, ⟨col_d_k, col_d_n, col_d_t⟩⟩⟩ := ci
    (conv => whnf); repeat' (first
    | (refine And.intro ?_ ?_ <;> ((try intro h) <;> (try simp only [Bool.not_true, Bool.not_false, decide_eq_true_eq, decide_eq_false_iff_not, Int.not_lt, Int.not_le, gt_iff_lt, ge_iff_le] at h) <;> first | exact absurd h Bool.false_ne_true | exact absurd h.symm Bool.false_ne_true | conv => whnf))
    | (refine VL.drawS hTb hMix (by kernel_rfl) (by kernel_rfl) (by kernel_rfl) ?_; conv => whnf)
    | (refine Need.mk ?_; kernel_rfl) | (refine Need.mk ⟨rfl, ?_⟩; decide)
    | (refine VR.op hTb rfl rfl (o_index_imm hTb rfl rfl rfl rfl rfl rfl rfl (by omega) (hrow)) rfl ?_; conv => whnf)
    | (refine DT.op hTb rfl (o_index_imm hTb rfl rfl rfl rfl rfl rfl rfl (by omega) (hrow)) rfl ?_; conv => whnf)
    | (refine VR.pure hTb rfl rfl (o_purF (hc) rfl rfl rfl ⟨rfl, rfl, rfl, rfl⟩ rfl) ?_; conv => whnf)
    | (refine DT.pure hTb rfl (o_purF (hc) rfl rfl rfl ⟨rfl, rfl, rfl, rfl⟩ rfl) ?_; conv => whnf)
    | (refine Need.mk ?_; exact ⟨rfl, by omega, by first | (simp; done) | (simp; omega)⟩)
    | (refine VR.op hTb rfl rfl (o_store_elm hTb rfl rfl rfl rfl rfl (hz) rfl rfl rfl ⟨rfl, by decide⟩) rfl ?_; conv => whnf)
    | (refine DT.op hTb rfl (o_store_elm hTb rfl rfl rfl rfl rfl (hz) rfl rfl rfl ⟨rfl, by decide⟩) rfl ?_; conv => whnf))
    refine ⟨i + 1, hlt, by omega, wk_to [(107, 107)] rfl rfl rfl ⟨rfl, rfl, congrArg (fun x => Slot.one (.g (.int .i64 x))) (wrap64' (by unfold maxLen; omega)), trivial⟩ ⟨rfl, ⟨_, rfl, ?_⟩, trivial⟩⟩
    show Ob.arr _ 10 ((trG encChange _ l i).set (0 + ((i : Nat) : Int).toNat) (encChange ⟨kind, name, new, ⟨col_name, col_kind, col_need, col_once, ⟨col_d_k, col_d_n, col_d_t⟩⟩⟩)) = _
    rw [Int.toNat_natCast, Nat.zero_add, ← hci, trG_set hlt]
  · (conv => whnf)
    have : i = l.length := by simp at h2; omega
    subst this
    exact endW [107] rfl rfl rfl rfl rfl (LeS.of_eq (congrArg (fun n => Slot.one (.own 0 0 n)) (by simp))) rfl (congrArg (fun r => [Ob.arr 105 10 r]) trG_all)

-- texts of marks
def markT (k : Nat) : ByteArray := ⟨#[109]⟩ ++ decB k
theorem c_markText (n : Nat) (h1 : 1 ≤ n) (hn : (n : Int) ≤ 9223372036854775807) : CallsV Tryz.prog 110 [iS n] [] (pureQ (strS (markT n))) := by
  refine pure_walk hTb Tryz.func110 rfl rfl Tryz.ntmps110 (by simp) ?_
  have h0 : n ≠ 0 := by omega
  unfold markT
  (conv => whnf); repeat' (first
    | (refine And.intro ?_ ?_ <;> ((try intro h) <;> (try simp only [Bool.not_true, Bool.not_false, decide_eq_true_eq, decide_eq_false_iff_not, Int.not_lt, Int.not_le, gt_iff_lt, ge_iff_le] at h) <;> first | exact absurd h Bool.false_ne_true | exact absurd h.symm Bool.false_ne_true | conv => whnf))
    | (refine VL.drawS hTb hMix (by kernel_rfl) (by kernel_rfl) (by kernel_rfl) ?_; conv => whnf)
    | (refine Need.mk ?_; kernel_rfl) | (refine Need.mk ⟨rfl, ?_⟩; decide)
    | ((exfalso; omega)))
  refine VL.loopI hTb (α := Nat × ByteArray) (fun x => x.1 ≤ n ∧ (if x.1 = 0 then x.2 else decB x.1 ++ x.2) = decB n) (fun x => ⟨[(0, iS x.1), (3, strS x.2)], [], []⟩) (fun x => x.1) (n, ⟨#[]⟩) ⟨Nat.le_refl _, by simp only; rw [if_neg h0]; exact ByteArray.ext (by simp)⟩
    (wk_to [] rfl rfl rfl ⟨rfl, rfl, trivial⟩ trivial) (fun x hx => ?_)
  obtain ⟨m, out⟩ := x
  obtain ⟨hm, he⟩ := hx
  simp only at hm he
  have h2 := Lib.nDigits_le20 n (by omega)
  have ho : out.size ≤ 20 := by
    have h1 := congrArg ByteArray.size he
    rw [decB_size] at h1
    split at h1
    · omega
    · rw [ByteArray.size_append] at h1; omega
  (conv => whnf); repeat' (first
    | (refine And.intro ?_ ?_ <;> ((try intro h) <;> (try simp only [Bool.not_true, Bool.not_false, decide_eq_true_eq, decide_eq_false_iff_not, Int.not_lt, Int.not_le, gt_iff_lt, ge_iff_le] at h) <;> first | exact absurd h Bool.false_ne_true | exact absurd h.symm Bool.false_ne_true | conv => whnf))
    | (refine VL.drawS hTb hMix (by kernel_rfl) (by kernel_rfl) (by kernel_rfl) ?_; conv => whnf)
    | (refine Need.mk ?_; kernel_rfl) | (refine Need.mk ⟨rfl, ?_⟩; decide)
    | (refine Need.mk ?_; (rw [bsOf_size]; simp only [List.length_cons, List.length_nil]; omega))
    | (refine Need.mk ?_; (show 1 + out.size ≤ maxLen; unfold maxLen; omega))
    | ((refine VR.op hTb rfl rfl (o_conv_bytes (ns := [_]) hTb rfl rfl rfl rfl rfl rfl rfl rfl rfl (by simp)) rfl ?_; conv => whnf)))
  · have hm0 : 0 < m := by omega
    rw [if_neg (by omega)] at he
    have e1 : (m : Int).tmod 10 = ((m % 10 : Nat) : Int) := rfl
    have e0 : (m : Int).tdiv 10 = ((m / 10 : Nat) : Int) := rfl
    have e2 : IntKind.i64.wrap ((m : Int).tdiv 10) = ((m / 10 : Nat) : Int) := by rw [e0, IntKind.wrap_i64]; omega
    have e3 := bl_one (m % 10) (by omega)
    rw [← e1] at e3
    refine ⟨(m / 10, bsOf [IntKind.u8.wrap (IntKind.i64.wrap (48 + (m : Int).tmod 10))] ++ out), ⟨by omega, ?_⟩, by show m / 10 < m; omega, wk_to [] rfl rfl rfl ⟨congrArg (fun x => Slot.one (.g (.int .i64 x))) e2, rfl, trivial⟩ trivial⟩
    show (if m / 10 = 0 then (_ ++ out) else decB (m / 10) ++ (_ ++ out)) = decB n
    by_cases h10 : m < 10
    · rw [if_pos (by omega), e3, ← he, decB_end h10, show m % 10 = m by omega]
    · rw [if_neg (by omega), e3, ← ByteArray.append_assoc, ← decB_step h10, he]
  · have hm0 : m = 0 := by omega
    rw [if_pos hm0] at he
    exact congrArg (fun x => strS (⟨#[109]⟩ ++ x)) he
theorem w3 (k : Nat) : (k : Int).tmod 3 = ((k % 3 : Nat) : Int) := rfl
def mkVal (k : Nat) : Val := ⟨k, ((k + 1 : Nat) : Int), markT (k + 2)⟩
def mkCol (k : Nat) : Col := ⟨markT k, ((k + 1 : Nat) : Int), ((k + 2 : Nat) : Int).tmod 3 == 0, ((k + 3 : Nat) : Int).tmod 3 == 0, ⟨((k + 4 : Nat) : Int), ((k + 5 : Nat) : Int), markT (k + 6)⟩⟩
def mkCols (n k : Nat) : List Col := (List.range n).map fun i => mkCol (k + 7 * i)
def mkVals (n k : Nat) : List Val := (List.range n).map fun i => mkVal (k + 3 * i)
theorem mkCols_len (n k : Nat) : (mkCols n k).length = n := by simp [mkCols]
theorem gset {α : Type} {l : List α} {i : Nat} {x y : α} (h : l[i]? = some x) : (l.set i y)[i]? = some y := by
  rw [List.getElem?_set_self]
  cases Nat.lt_or_ge i l.length with
  | inl h => exact h
  | inr h2 => rw [List.getElem?_eq_none h2] at h; cases h
theorem mk_step {α : Type} (f : Nat → α) {l : List α} {i : Nat} (h : i < l.length) : ((List.range i).map f ++ l.drop i).set i (f i) = (List.range (i + 1)).map f ++ l.drop (i + 1) := by
  rw [List.set_append_right _ _ (by simp), List.length_map, List.length_range, Nat.sub_self, List.drop_eq_getElem_cons h, List.set_cons_zero, List.range_succ]
  simp
theorem mk_at {α : Type} (f : Nat → α) {l : List α} {i : Nat} (h : i < l.length) : ((List.range i).map f ++ l.drop i)[i]? = some l[i] := by
  rw [List.getElem?_append_right (by simp)]; simp [h]
theorem c_markCols (l : List Col) (k : Nat) (hl : l.length ≤ 3000000) (hk1 : 1 ≤ k) (hk : k ≤ 1000000000) : CallsV Tryz.prog 168 [.one (.own 0 0 l.length), iS k] [.arr 39 7 (l.map encCol)]
    (funQ (iS ((k + 7 * l.length : Nat) : Int)) [some (.arr 39 7 ((mkCols l.length k).map encCol))] []) := by
  refine funF_walk hTb Tryz.func168 rfl rfl Tryz.ntmps168 (by simp) (by simp) ?_
  (conv => whnf); repeat' (first | (refine And.intro ?_ ?_ <;> ((try intro h) <;> (try simp only [Bool.not_true, Bool.not_false] at h) <;> first | exact absurd h Bool.false_ne_true | exact absurd h.symm Bool.false_ne_true | conv => whnf)) | (refine Need.mk ?_; kernel_rfl) | (refine Need.mk ⟨rfl, ?_⟩; decide))
  refine VL.loopI hTb (fun i => i ≤ l.length) (fun i => ⟨[(0, .one (.own 0 0 l.length)), (1, iS ((k + 7 * i : Nat) : Int)), (5, iS i)], [(0, .arr 39 7 (((List.range i).map (fun i => mkCol (k + 7 * i)) ++ l.drop i).map encCol))], []⟩) (fun i => l.length - i) 0 (Nat.zero_le _)
    (wk_to [(0, 0)] rfl rfl rfl ⟨rfl, rfl, rfl, trivial⟩ ⟨rfl, ⟨_, rfl, rfl⟩, trivial⟩) (fun i hi => ?_)
  (conv => whnf)
  refine And.intro (fun h2 => ?_) (fun h2 => ?_)
  · have hlt : i < l.length := by simpa using h2
    have hmk := mk_step (fun i => mkCol (k + 7 * i)) hlt
    have hat := mk_at (fun i => mkCol (k + 7 * i)) hlt
    have hlen : ((List.range i).map (fun i => mkCol (k + 7 * i)) ++ l.drop i).length = l.length := by simp; omega
    generalize (List.range i).map (fun i => mkCol (k + 7 * i)) ++ l.drop i = L at hmk hat hlen
    generalize l[i] = ci at hat
    obtain ⟨xn, xk, x1, x2, ⟨x3, x4, x5⟩⟩ := ci
    obtain ⟨K, hK⟩ : ∃ K, k + 7 * i = K := ⟨_, rfl⟩
    have e7 : k + 7 * (i + 1) = K + 7 := by omega
    rw [hK] at hmk
    have w : ∀ a : Nat, a ≤ K + 6 → IntKind.i64.wrap ((a : Int) + 1) = ((a + 1 : Nat) : Int) := fun a ha => by rw [IntKind.wrap_i64]; omega
    have w1 := w K (by omega)
    have w2 := w (K + 1) (by omega)
    have w3 := w (K + 1 + 1) (by omega)
    have w4 := w (K + 1 + 1 + 1) (by omega)
    have w5 := w (K + 1 + 1 + 1 + 1) (by omega)
    have w6 := w (K + 1 + 1 + 1 + 1 + 1) (by omega)
    have w7 := w (K + 1 + 1 + 1 + 1 + 1 + 1) (by omega)
    have hat : L[0 + ((i : Nat) : Int).toNat]? = some ⟨xn, xk, x1, x2, ⟨x3, x4, x5⟩⟩ := by rw [Int.toNat_natCast, Nat.zero_add]; exact hat
    have cM := c_markText K (by omega) (by omega)
    have cN := c_markText (K + 1 + 1 + 1 + 1 + 1 + 1) (by omega) (by omega)
    rw [← w6, ← w5, ← w4, ← w3, ← w2, ← w1] at cN
    rw [hK]
    (conv => whnf); repeat' (first
    | (refine And.intro ?_ ?_ <;> ((try intro h) <;> (try simp only [Bool.not_true, Bool.not_false, decide_eq_true_eq, decide_eq_false_iff_not, Int.not_lt, Int.not_le, gt_iff_lt, ge_iff_le] at h) <;> first | exact absurd h Bool.false_ne_true | exact absurd h.symm Bool.false_ne_true | conv => whnf))
    | (refine VL.drawS hTb hMix (by kernel_rfl) (by kernel_rfl) (by kernel_rfl) ?_; conv => whnf)
    | (refine Need.mk ?_; kernel_rfl) | (refine Need.mk ⟨rfl, ?_⟩; decide)
    | (refine VR.pure hTb rfl rfl (o_purN (cM) rfl rfl rfl ⟨rfl, rfl, rfl, rfl⟩ rfl) ?_; conv => whnf)
    | (refine DT.pure hTb rfl (o_purN (cM) rfl rfl rfl ⟨rfl, rfl, rfl, rfl⟩ rfl) ?_; conv => whnf)
    | (refine VR.pure hTb rfl rfl (o_purN (cN) rfl rfl rfl ⟨rfl, rfl, rfl, rfl⟩ rfl) ?_; conv => whnf)
    | (refine DT.pure hTb rfl (o_purN (cN) rfl rfl rfl ⟨rfl, rfl, rfl, rfl⟩ rfl) ?_; conv => whnf)
    | (refine Need.mk ?_; exact ⟨rfl, by omega, by omega⟩)
    | (refine VR.op hTb rfl rfl (o_storeM hTb rfl rfl rfl rfl rfl (hat) rfl rfl rfl ⟨rfl, by decide⟩ (c' := ⟨_, _, _, _, ⟨_, _, _⟩⟩) rfl) rfl ?_; conv => whnf)
    | (refine DT.op hTb rfl (o_storeM hTb rfl rfl rfl rfl rfl (hat) rfl rfl rfl ⟨rfl, by decide⟩ (c' := ⟨_, _, _, _, ⟨_, _, _⟩⟩) rfl) rfl ?_; conv => whnf)
    | (refine VR.op hTb rfl rfl (o_storeM hTb rfl rfl rfl rfl rfl (gset (hat)) rfl rfl rfl ⟨rfl, by decide⟩ (c' := ⟨_, _, _, _, ⟨_, _, _⟩⟩) rfl) rfl ?_; conv => whnf)
    | (refine DT.op hTb rfl (o_storeM hTb rfl rfl rfl rfl rfl (gset (hat)) rfl rfl rfl ⟨rfl, by decide⟩ (c' := ⟨_, _, _, _, ⟨_, _, _⟩⟩) rfl) rfl ?_; conv => whnf)
    | (refine VR.op hTb rfl rfl (o_storeM hTb rfl rfl rfl rfl rfl (gset (gset (hat))) rfl rfl rfl ⟨rfl, by decide⟩ (c' := ⟨_, _, _, _, ⟨_, _, _⟩⟩) rfl) rfl ?_; conv => whnf)
    | (refine DT.op hTb rfl (o_storeM hTb rfl rfl rfl rfl rfl (gset (gset (hat))) rfl rfl rfl ⟨rfl, by decide⟩ (c' := ⟨_, _, _, _, ⟨_, _, _⟩⟩) rfl) rfl ?_; conv => whnf)
    | (refine VR.op hTb rfl rfl (o_storeM hTb rfl rfl rfl rfl rfl (gset (gset (gset (hat)))) rfl rfl rfl ⟨rfl, by decide⟩ (c' := ⟨_, _, _, _, ⟨_, _, _⟩⟩) rfl) rfl ?_; conv => whnf)
    | (refine DT.op hTb rfl (o_storeM hTb rfl rfl rfl rfl rfl (gset (gset (gset (hat)))) rfl rfl rfl ⟨rfl, by decide⟩ (c' := ⟨_, _, _, _, ⟨_, _, _⟩⟩) rfl) rfl ?_; conv => whnf)
    | (refine VR.op hTb rfl rfl (o_storeM hTb rfl rfl rfl rfl rfl (gset (gset (gset (gset (hat))))) rfl rfl rfl ⟨rfl, by decide⟩ (c' := ⟨_, _, _, _, ⟨_, _, _⟩⟩) rfl) rfl ?_; conv => whnf)
    | (refine DT.op hTb rfl (o_storeM hTb rfl rfl rfl rfl rfl (gset (gset (gset (gset (hat))))) rfl rfl rfl ⟨rfl, by decide⟩ (c' := ⟨_, _, _, _, ⟨_, _, _⟩⟩) rfl) rfl ?_; conv => whnf)
    | (refine VR.op hTb rfl rfl (o_storeM hTb rfl rfl rfl rfl rfl (gset (gset (gset (gset (gset (hat)))))) rfl rfl rfl ⟨rfl, by decide⟩ (c' := ⟨_, _, _, _, ⟨_, _, _⟩⟩) rfl) rfl ?_; conv => whnf)
    | (refine DT.op hTb rfl (o_storeM hTb rfl rfl rfl rfl rfl (gset (gset (gset (gset (gset (hat)))))) rfl rfl rfl ⟨rfl, by decide⟩ (c' := ⟨_, _, _, _, ⟨_, _, _⟩⟩) rfl) rfl ?_; conv => whnf)
    | (refine VR.op hTb rfl rfl (o_storeM hTb rfl rfl rfl rfl rfl (gset (gset (gset (gset (gset (gset (hat))))))) rfl rfl rfl ⟨rfl, by decide⟩ (c' := ⟨_, _, _, _, ⟨_, _, _⟩⟩) rfl) rfl ?_; conv => whnf)
    | (refine DT.op hTb rfl (o_storeM hTb rfl rfl rfl rfl rfl (gset (gset (gset (gset (gset (gset (hat))))))) rfl rfl rfl ⟨rfl, by decide⟩ (c' := ⟨_, _, _, _, ⟨_, _, _⟩⟩) rfl) rfl ?_; conv => whnf))
    refine ⟨i + 1, hlt, by omega, wk_to [(0, 0)] rfl rfl rfl ⟨rfl, congrArg (fun x => Slot.one (.g (.int .i64 x))) (by rw [w1, w2, w3, w4, w5, w6, w7, e7]), congrArg (fun x => Slot.one (.g (.int .i64 x))) (wrap64' (by unfold maxLen; omega)), trivial⟩ ⟨rfl, ⟨_, rfl, ?_⟩, trivial⟩⟩
    refine congrArg (fun r : List Col => Ob.arr 39 7 (r.map encCol)) ?_
    rw [← hmk]
    simp only [List.set_set, Int.toNat_natCast, Nat.zero_add, w1, w2, w3, w4, w5, w6]
    rfl
  · have hie : i = l.length := by simp at h2; omega
    subst hie
    (conv => whnf)
    exact endW [] rfl rfl rfl rfl rfl (LeS.refl _) (congrArg (fun r : List Col => [some (Ob.arr 39 7 (r.map encCol))]) (by simp [mkCols])) rfl
def mkChange (k : Nat) : Change := ⟨((k : Nat) : Int), markT (k + 1), markT (k + 2), ⟨markT (k + 3), (((k + 4) : Nat) : Int), (((k + 5) : Nat) : Int).tmod 3 == 0, (((k + 6) : Nat) : Int).tmod 3 == 0, ⟨(((k + 7) : Nat) : Int), (((k + 8) : Nat) : Int), markT (k + 9)⟩⟩⟩
def mkChanges (n k : Nat) : List Change := (List.range n).map fun i => mkChange (k + 10 * i)
theorem mkChanges_len (n k : Nat) : (mkChanges n k).length = n := by simp [mkChanges]
theorem c_markVals (l : List Val) (k : Nat) (hl : l.length ≤ 3000000) (hk1 : 1 ≤ k) (hk : k ≤ 1000000000) : CallsV Tryz.prog 196 [.one (.own 0 0 l.length), iS k] [.arr 37 3 (l.map encVal)]
    (funQ (iS ((k + 3 * l.length : Nat) : Int)) [some (.arr 37 3 ((mkVals l.length k).map encVal))] []) := by
  refine funF_walk hTb Tryz.func196 rfl rfl Tryz.ntmps196 (by simp) (by simp) ?_
  (conv => whnf); repeat' (first | (refine And.intro ?_ ?_ <;> ((try intro h) <;> (try simp only [Bool.not_true, Bool.not_false] at h) <;> first | exact absurd h Bool.false_ne_true | exact absurd h.symm Bool.false_ne_true | conv => whnf)) | (refine Need.mk ?_; kernel_rfl) | (refine Need.mk ⟨rfl, ?_⟩; decide))
  refine VL.loopI hTb (fun i => i ≤ l.length) (fun i => ⟨[(0, .one (.own 0 0 l.length)), (1, iS ((k + 3 * i : Nat) : Int)), (5, iS i)], [(0, .arr 37 3 (((List.range i).map (fun i => mkVal (k + 3 * i)) ++ l.drop i).map encVal))], []⟩) (fun i => l.length - i) 0 (Nat.zero_le _)
    (wk_to [(0, 0)] rfl rfl rfl ⟨rfl, rfl, rfl, trivial⟩ ⟨rfl, ⟨_, rfl, rfl⟩, trivial⟩) (fun i hi => ?_)
  (conv => whnf)
  refine And.intro (fun h2 => ?_) (fun h2 => ?_)
  · have hlt : i < l.length := by simpa using h2
    have hmk := mk_step (fun i => mkVal (k + 3 * i)) hlt
    have hat := mk_at (fun i => mkVal (k + 3 * i)) hlt
    have hlen : ((List.range i).map (fun i => mkVal (k + 3 * i)) ++ l.drop i).length = l.length := by simp; omega
    generalize (List.range i).map (fun i => mkVal (k + 3 * i)) ++ l.drop i = L at hmk hat hlen
    generalize l[i] = ci at hat
    obtain ⟨x0, x1, x2⟩ := ci
    obtain ⟨K, hK⟩ : ∃ K, k + 3 * i = K := ⟨_, rfl⟩
    have e7 : k + 3 * (i + 1) = K + 3 := by omega
    rw [hK] at hmk
    have w : ∀ a : Nat, a ≤ K + 2 → IntKind.i64.wrap ((a : Int) + 1) = ((a + 1 : Nat) : Int) := fun a ha => by rw [IntKind.wrap_i64]; omega
    have w1 := w (K) (by omega)
    have w2 := w (K + 1) (by omega)
    have w3 := w (K + 1 + 1) (by omega)
    have hat : L[0 + ((i : Nat) : Int).toNat]? = some ⟨x0, x1, x2⟩ := by rw [Int.toNat_natCast, Nat.zero_add]; exact hat
    have c2 := c_markText (K + 1 + 1) (by omega) (by omega)
    rw [← w2, ← w1] at c2
    rw [hK]
    (conv => whnf); repeat' (first
    | (refine And.intro ?_ ?_ <;> ((try intro h) <;> (try simp only [Bool.not_true, Bool.not_false, decide_eq_true_eq, decide_eq_false_iff_not, Int.not_lt, Int.not_le, gt_iff_lt, ge_iff_le] at h) <;> first | exact absurd h Bool.false_ne_true | exact absurd h.symm Bool.false_ne_true | conv => whnf))
    | (refine VL.drawS hTb hMix (by kernel_rfl) (by kernel_rfl) (by kernel_rfl) ?_; conv => whnf)
    | (refine Need.mk ?_; kernel_rfl) | (refine Need.mk ⟨rfl, ?_⟩; decide)
    | (refine VR.pure hTb rfl rfl (o_purN (c2) rfl rfl rfl ⟨rfl, rfl, rfl, rfl⟩ rfl) ?_; conv => whnf)
    | (refine DT.pure hTb rfl (o_purN (c2) rfl rfl rfl ⟨rfl, rfl, rfl, rfl⟩ rfl) ?_; conv => whnf)
    | (refine Need.mk ?_; exact ⟨rfl, by omega, by omega⟩)
    | (refine VR.op hTb rfl rfl (o_storeM hTb rfl rfl rfl rfl rfl (hat) rfl rfl rfl ⟨rfl, by decide⟩ (c' := ⟨_, _, _⟩) rfl) rfl ?_; conv => whnf)
    | (refine DT.op hTb rfl (o_storeM hTb rfl rfl rfl rfl rfl (hat) rfl rfl rfl ⟨rfl, by decide⟩ (c' := ⟨_, _, _⟩) rfl) rfl ?_; conv => whnf)
    | (refine VR.op hTb rfl rfl (o_storeM hTb rfl rfl rfl rfl rfl (gset (hat)) rfl rfl rfl ⟨rfl, by decide⟩ (c' := ⟨_, _, _⟩) rfl) rfl ?_; conv => whnf)
    | (refine DT.op hTb rfl (o_storeM hTb rfl rfl rfl rfl rfl (gset (hat)) rfl rfl rfl ⟨rfl, by decide⟩ (c' := ⟨_, _, _⟩) rfl) rfl ?_; conv => whnf)
    | (refine VR.op hTb rfl rfl (o_storeM hTb rfl rfl rfl rfl rfl (gset (gset (hat))) rfl rfl rfl ⟨rfl, by decide⟩ (c' := ⟨_, _, _⟩) rfl) rfl ?_; conv => whnf)
    | (refine DT.op hTb rfl (o_storeM hTb rfl rfl rfl rfl rfl (gset (gset (hat))) rfl rfl rfl ⟨rfl, by decide⟩ (c' := ⟨_, _, _⟩) rfl) rfl ?_; conv => whnf))
    refine ⟨i + 1, hlt, by omega, wk_to [(0, 0)] rfl rfl rfl ⟨rfl, congrArg (fun x => Slot.one (.g (.int .i64 x))) (by rw [w1, w2, w3, e7]), congrArg (fun x => Slot.one (.g (.int .i64 x))) (wrap64' (by unfold maxLen; omega)), trivial⟩ ⟨rfl, ⟨_, rfl, ?_⟩, trivial⟩⟩
    refine congrArg (fun r : List Val => Ob.arr 37 3 (r.map encVal)) ?_
    rw [← hmk]
    simp only [List.set_set, Int.toNat_natCast, Nat.zero_add, w1, w2]
    rfl
  · have hie : i = l.length := by simp at h2; omega
    subst hie
    (conv => whnf)
    exact endW [] rfl rfl rfl rfl rfl (LeS.refl _) (congrArg (fun r : List Val => [some (Ob.arr 37 3 (r.map encVal))]) (by simp [mkVals])) rfl
theorem c_markChanges (l : List Change) (k : Nat) (hl : l.length ≤ 3000000) (hk1 : 1 ≤ k) (hk : k ≤ 1000000000) : CallsV Tryz.prog 169 [.one (.own 0 0 l.length), iS k] [.arr 105 10 (l.map encChange)]
    (funQ (iS ((k + 10 * l.length : Nat) : Int)) [some (.arr 105 10 ((mkChanges l.length k).map encChange))] []) := by
  refine funF_walk hTb Tryz.func169 rfl rfl Tryz.ntmps169 (by simp) (by simp) ?_
  (conv => whnf); repeat' (first | (refine And.intro ?_ ?_ <;> ((try intro h) <;> (try simp only [Bool.not_true, Bool.not_false] at h) <;> first | exact absurd h Bool.false_ne_true | exact absurd h.symm Bool.false_ne_true | conv => whnf)) | (refine Need.mk ?_; kernel_rfl) | (refine Need.mk ⟨rfl, ?_⟩; decide))
  refine VL.loopI hTb (fun i => i ≤ l.length) (fun i => ⟨[(0, .one (.own 0 0 l.length)), (1, iS ((k + 10 * i : Nat) : Int)), (5, iS i)], [(0, .arr 105 10 (((List.range i).map (fun i => mkChange (k + 10 * i)) ++ l.drop i).map encChange))], []⟩) (fun i => l.length - i) 0 (Nat.zero_le _)
    (wk_to [(0, 0)] rfl rfl rfl ⟨rfl, rfl, rfl, trivial⟩ ⟨rfl, ⟨_, rfl, rfl⟩, trivial⟩) (fun i hi => ?_)
  (conv => whnf)
  refine And.intro (fun h2 => ?_) (fun h2 => ?_)
  · have hlt : i < l.length := by simpa using h2
    have hmk := mk_step (fun i => mkChange (k + 10 * i)) hlt
    have hat := mk_at (fun i => mkChange (k + 10 * i)) hlt
    have hlen : ((List.range i).map (fun i => mkChange (k + 10 * i)) ++ l.drop i).length = l.length := by simp; omega
    generalize (List.range i).map (fun i => mkChange (k + 10 * i)) ++ l.drop i = L at hmk hat hlen
    generalize l[i] = ci at hat
    obtain ⟨x0, x1, x2, ⟨x3, x4, x5, x6, ⟨x7, x8, x9⟩⟩⟩ := ci
    obtain ⟨K, hK⟩ : ∃ K, k + 10 * i = K := ⟨_, rfl⟩
    have e7 : k + 10 * (i + 1) = K + 10 := by omega
    rw [hK] at hmk
    have w : ∀ a : Nat, a ≤ K + 9 → IntKind.i64.wrap ((a : Int) + 1) = ((a + 1 : Nat) : Int) := fun a ha => by rw [IntKind.wrap_i64]; omega
    have w1 := w (K) (by omega)
    have w2 := w (K + 1) (by omega)
    have w3 := w (K + 1 + 1) (by omega)
    have w4 := w (K + 1 + 1 + 1) (by omega)
    have w5 := w (K + 1 + 1 + 1 + 1) (by omega)
    have w6 := w (K + 1 + 1 + 1 + 1 + 1) (by omega)
    have w7 := w (K + 1 + 1 + 1 + 1 + 1 + 1) (by omega)
    have w8 := w (K + 1 + 1 + 1 + 1 + 1 + 1 + 1) (by omega)
    have w9 := w (K + 1 + 1 + 1 + 1 + 1 + 1 + 1 + 1) (by omega)
    have w10 := w (K + 1 + 1 + 1 + 1 + 1 + 1 + 1 + 1 + 1) (by omega)
    have hat : L[0 + ((i : Nat) : Int).toNat]? = some ⟨x0, x1, x2, ⟨x3, x4, x5, x6, ⟨x7, x8, x9⟩⟩⟩ := by rw [Int.toNat_natCast, Nat.zero_add]; exact hat
    have c1 := c_markText (K + 1) (by omega) (by omega)
    rw [← w1] at c1
    have c2 := c_markText (K + 1 + 1) (by omega) (by omega)
    rw [← w2, ← w1] at c2
    have c3 := c_markText (K + 1 + 1 + 1) (by omega) (by omega)
    rw [← w3, ← w2, ← w1] at c3
    have c9 := c_markText (K + 1 + 1 + 1 + 1 + 1 + 1 + 1 + 1 + 1) (by omega) (by omega)
    rw [← w9, ← w8, ← w7, ← w6, ← w5, ← w4, ← w3, ← w2, ← w1] at c9
    rw [hK]
    (conv => whnf); repeat' (first
    | (refine And.intro ?_ ?_ <;> ((try intro h) <;> (try simp only [Bool.not_true, Bool.not_false, decide_eq_true_eq, decide_eq_false_iff_not, Int.not_lt, Int.not_le, gt_iff_lt, ge_iff_le] at h) <;> first | exact absurd h Bool.false_ne_true | exact absurd h.symm Bool.false_ne_true | conv => whnf))
    | (refine VL.drawS hTb hMix (by kernel_rfl) (by kernel_rfl) (by kernel_rfl) ?_; conv => whnf)
    | (refine Need.mk ?_; kernel_rfl) | (refine Need.mk ⟨rfl, ?_⟩; decide)
    | (refine VR.pure hTb rfl rfl (o_purN (c1) rfl rfl rfl ⟨rfl, rfl, rfl, rfl⟩ rfl) ?_; conv => whnf)
    | (refine DT.pure hTb rfl (o_purN (c1) rfl rfl rfl ⟨rfl, rfl, rfl, rfl⟩ rfl) ?_; conv => whnf)
    | (refine VR.pure hTb rfl rfl (o_purN (c2) rfl rfl rfl ⟨rfl, rfl, rfl, rfl⟩ rfl) ?_; conv => whnf)
    | (refine DT.pure hTb rfl (o_purN (c2) rfl rfl rfl ⟨rfl, rfl, rfl, rfl⟩ rfl) ?_; conv => whnf)
    | (refine VR.pure hTb rfl rfl (o_purN (c3) rfl rfl rfl ⟨rfl, rfl, rfl, rfl⟩ rfl) ?_; conv => whnf)
    | (refine DT.pure hTb rfl (o_purN (c3) rfl rfl rfl ⟨rfl, rfl, rfl, rfl⟩ rfl) ?_; conv => whnf)
    | (refine VR.pure hTb rfl rfl (o_purN (c9) rfl rfl rfl ⟨rfl, rfl, rfl, rfl⟩ rfl) ?_; conv => whnf)
    | (refine DT.pure hTb rfl (o_purN (c9) rfl rfl rfl ⟨rfl, rfl, rfl, rfl⟩ rfl) ?_; conv => whnf)
    | (refine Need.mk ?_; exact ⟨rfl, by omega, by omega⟩)
    | (refine VR.op hTb rfl rfl (o_storeM hTb rfl rfl rfl rfl rfl (hat) rfl rfl rfl ⟨rfl, by decide⟩ (c' := ⟨_, _, _, ⟨_, _, _, _, ⟨_, _, _⟩⟩⟩) rfl) rfl ?_; conv => whnf)
    | (refine DT.op hTb rfl (o_storeM hTb rfl rfl rfl rfl rfl (hat) rfl rfl rfl ⟨rfl, by decide⟩ (c' := ⟨_, _, _, ⟨_, _, _, _, ⟨_, _, _⟩⟩⟩) rfl) rfl ?_; conv => whnf)
    | (refine VR.op hTb rfl rfl (o_storeM hTb rfl rfl rfl rfl rfl (gset (hat)) rfl rfl rfl ⟨rfl, by decide⟩ (c' := ⟨_, _, _, ⟨_, _, _, _, ⟨_, _, _⟩⟩⟩) rfl) rfl ?_; conv => whnf)
    | (refine DT.op hTb rfl (o_storeM hTb rfl rfl rfl rfl rfl (gset (hat)) rfl rfl rfl ⟨rfl, by decide⟩ (c' := ⟨_, _, _, ⟨_, _, _, _, ⟨_, _, _⟩⟩⟩) rfl) rfl ?_; conv => whnf)
    | (refine VR.op hTb rfl rfl (o_storeM hTb rfl rfl rfl rfl rfl (gset (gset (hat))) rfl rfl rfl ⟨rfl, by decide⟩ (c' := ⟨_, _, _, ⟨_, _, _, _, ⟨_, _, _⟩⟩⟩) rfl) rfl ?_; conv => whnf)
    | (refine DT.op hTb rfl (o_storeM hTb rfl rfl rfl rfl rfl (gset (gset (hat))) rfl rfl rfl ⟨rfl, by decide⟩ (c' := ⟨_, _, _, ⟨_, _, _, _, ⟨_, _, _⟩⟩⟩) rfl) rfl ?_; conv => whnf)
    | (refine VR.op hTb rfl rfl (o_storeM hTb rfl rfl rfl rfl rfl (gset (gset (gset (hat)))) rfl rfl rfl ⟨rfl, by decide⟩ (c' := ⟨_, _, _, ⟨_, _, _, _, ⟨_, _, _⟩⟩⟩) rfl) rfl ?_; conv => whnf)
    | (refine DT.op hTb rfl (o_storeM hTb rfl rfl rfl rfl rfl (gset (gset (gset (hat)))) rfl rfl rfl ⟨rfl, by decide⟩ (c' := ⟨_, _, _, ⟨_, _, _, _, ⟨_, _, _⟩⟩⟩) rfl) rfl ?_; conv => whnf)
    | (refine VR.op hTb rfl rfl (o_storeM hTb rfl rfl rfl rfl rfl (gset (gset (gset (gset (hat))))) rfl rfl rfl ⟨rfl, by decide⟩ (c' := ⟨_, _, _, ⟨_, _, _, _, ⟨_, _, _⟩⟩⟩) rfl) rfl ?_; conv => whnf)
    | (refine DT.op hTb rfl (o_storeM hTb rfl rfl rfl rfl rfl (gset (gset (gset (gset (hat))))) rfl rfl rfl ⟨rfl, by decide⟩ (c' := ⟨_, _, _, ⟨_, _, _, _, ⟨_, _, _⟩⟩⟩) rfl) rfl ?_; conv => whnf)
    | (refine VR.op hTb rfl rfl (o_storeM hTb rfl rfl rfl rfl rfl (gset (gset (gset (gset (gset (hat)))))) rfl rfl rfl ⟨rfl, by decide⟩ (c' := ⟨_, _, _, ⟨_, _, _, _, ⟨_, _, _⟩⟩⟩) rfl) rfl ?_; conv => whnf)
    | (refine DT.op hTb rfl (o_storeM hTb rfl rfl rfl rfl rfl (gset (gset (gset (gset (gset (hat)))))) rfl rfl rfl ⟨rfl, by decide⟩ (c' := ⟨_, _, _, ⟨_, _, _, _, ⟨_, _, _⟩⟩⟩) rfl) rfl ?_; conv => whnf)
    | (refine VR.op hTb rfl rfl (o_storeM hTb rfl rfl rfl rfl rfl (gset (gset (gset (gset (gset (gset (hat))))))) rfl rfl rfl ⟨rfl, by decide⟩ (c' := ⟨_, _, _, ⟨_, _, _, _, ⟨_, _, _⟩⟩⟩) rfl) rfl ?_; conv => whnf)
    | (refine DT.op hTb rfl (o_storeM hTb rfl rfl rfl rfl rfl (gset (gset (gset (gset (gset (gset (hat))))))) rfl rfl rfl ⟨rfl, by decide⟩ (c' := ⟨_, _, _, ⟨_, _, _, _, ⟨_, _, _⟩⟩⟩) rfl) rfl ?_; conv => whnf)
    | (refine VR.op hTb rfl rfl (o_storeM hTb rfl rfl rfl rfl rfl (gset (gset (gset (gset (gset (gset (gset (hat)))))))) rfl rfl rfl ⟨rfl, by decide⟩ (c' := ⟨_, _, _, ⟨_, _, _, _, ⟨_, _, _⟩⟩⟩) rfl) rfl ?_; conv => whnf)
    | (refine DT.op hTb rfl (o_storeM hTb rfl rfl rfl rfl rfl (gset (gset (gset (gset (gset (gset (gset (hat)))))))) rfl rfl rfl ⟨rfl, by decide⟩ (c' := ⟨_, _, _, ⟨_, _, _, _, ⟨_, _, _⟩⟩⟩) rfl) rfl ?_; conv => whnf)
    | (refine VR.op hTb rfl rfl (o_storeM hTb rfl rfl rfl rfl rfl (gset (gset (gset (gset (gset (gset (gset (gset (hat))))))))) rfl rfl rfl ⟨rfl, by decide⟩ (c' := ⟨_, _, _, ⟨_, _, _, _, ⟨_, _, _⟩⟩⟩) rfl) rfl ?_; conv => whnf)
    | (refine DT.op hTb rfl (o_storeM hTb rfl rfl rfl rfl rfl (gset (gset (gset (gset (gset (gset (gset (gset (hat))))))))) rfl rfl rfl ⟨rfl, by decide⟩ (c' := ⟨_, _, _, ⟨_, _, _, _, ⟨_, _, _⟩⟩⟩) rfl) rfl ?_; conv => whnf)
    | (refine VR.op hTb rfl rfl (o_storeM hTb rfl rfl rfl rfl rfl (gset (gset (gset (gset (gset (gset (gset (gset (gset (hat)))))))))) rfl rfl rfl ⟨rfl, by decide⟩ (c' := ⟨_, _, _, ⟨_, _, _, _, ⟨_, _, _⟩⟩⟩) rfl) rfl ?_; conv => whnf)
    | (refine DT.op hTb rfl (o_storeM hTb rfl rfl rfl rfl rfl (gset (gset (gset (gset (gset (gset (gset (gset (gset (hat)))))))))) rfl rfl rfl ⟨rfl, by decide⟩ (c' := ⟨_, _, _, ⟨_, _, _, _, ⟨_, _, _⟩⟩⟩) rfl) rfl ?_; conv => whnf))
    refine ⟨i + 1, hlt, by omega, wk_to [(0, 0)] rfl rfl rfl ⟨rfl, congrArg (fun x => Slot.one (.g (.int .i64 x))) (by rw [w1, w2, w3, w4, w5, w6, w7, w8, w9, w10, e7]), congrArg (fun x => Slot.one (.g (.int .i64 x))) (wrap64' (by unfold maxLen; omega)), trivial⟩ ⟨rfl, ⟨_, rfl, ?_⟩, trivial⟩⟩
    refine congrArg (fun r : List Change => Ob.arr 105 10 (r.map encChange)) ?_
    rw [← hmk]
    simp only [List.set_set, Int.toNat_natCast, Nat.zero_add, w1, w2, w3, w4, w5, w6, w7, w8, w9]
    rfl
  · have hie : i = l.length := by simp at h2; omega
    subst hie
    (conv => whnf)
    exact endW [] rfl rfl rfl rfl rfl (LeS.refl _) (congrArg (fun r : List Change => [some (Ob.arr 105 10 (r.map encChange))]) (by simp [mkChanges])) rfl
end Go.Vl

namespace Go.Vl
open Go Go.RowKit Go.Proofs
set_option maxRecDepth 100000
set_option linter.unusedSimpArgs false
set_option linter.unusedVariables false
set_option maxHeartbeats 8000000

theorem two_sl {a b c d : Slot} (h1 : a = b) (h2 : c = d) : [a, c] = [b, d] := by rw [h1, h2]
theorem lmax {n : Nat} (h : n ≤ 3000000) : n ≤ maxLen := by unfold maxLen; omega

theorem y_ColsN (l : List Col) (hl : l.length ≤ maxLen) (hv : ∀ x ∈ l, x.ok) (n : Int) (h0 : 0 ≤ n) (h1 : n ≤ 1048576) : CallsV Tryz.prog 211 [colsI l, iS n] [] (relQ (fun y : Int => y ≤ n ∧ (0 ≤ y → y + l.length ≤ n ∧ ∀ x ∈ l, x.md)) iS (fun _ => []) (fun _ => [])) := by
  refine funF_walk hTb Tryz.func211 rfl rfl Tryz.ntmps211 (by simp) (by simp) ?_
  have e1 : IntKind.i64.wrap (n - ((l.map encCol).length : Int)) = n - l.length := by rw [List.length_map]; exact wsub h0 h1 hl
  (conv => whnf); repeat' (first | (refine And.intro ?_ ?_ <;> ((try intro h) <;> (try simp only [Bool.not_true, Bool.not_false] at h) <;> first | exact absurd h Bool.false_ne_true | exact absurd h.symm Bool.false_ne_true | conv => whnf)) | (refine Need.mk ?_; kernel_rfl) | (refine Need.mk ⟨rfl, ?_⟩; decide))
  · rw [e1] at h
    refine endR [] _ rfl rfl rfl rfl rfl (LeS.refl _) rfl rfl ⟨by omega, fun hp => by omega⟩
  rw [e1] at h ⊢
  have h2 : (l.length : Int) ≤ n := by simp at h; omega
  refine VL.loopI hTb (fun (x : Nat × Int) => x.1 ≤ l.length ∧ 0 ≤ x.2 ∧ x.2 ≤ n - l.length ∧ ∀ j (hj : j < l.length), j < x.1 → (l[j]).md) (fun x => ⟨[(0, colsI l), (5, iS x.1), (1, iS x.2)], [], []⟩) (fun x => l.length - x.1) (0, n - l.length) ⟨Nat.zero_le _, by simp only; omega, by simp only; omega, fun j _ hj => absurd hj (Nat.not_lt_zero _)⟩
    (wk_to [] rfl rfl rfl ⟨rfl, rfl, rfl, trivial⟩ trivial) (fun x hx => ?_)
  obtain ⟨i, y0⟩ := x
  obtain ⟨hi, k0, k1, hs⟩ := hx
  simp only at hi k0 k1 hs
  (conv => whnf)
  refine And.intro (fun h3 => ?_) (fun h3 => ?_)
  · have hlt : i < l.length := by simpa using h3
    have hrow := rowCol hlt
    have hc := y_Col l[i] (hv _ (List.getElem_mem hlt)) y0 k0 (by omega)
    generalize hci : l[i] = ci at hrow hc
    obtain ⟨name, kind, need, once, ⟨d_k, d_n, d_t⟩⟩ := ci
    (conv => whnf); repeat' (first
    | (refine And.intro ?_ ?_ <;> ((try intro h) <;> (try simp only [Bool.not_true, Bool.not_false, decide_eq_true_eq, decide_eq_false_iff_not, Int.not_lt, Int.not_le, gt_iff_lt, ge_iff_le] at h) <;> first | exact absurd h Bool.false_ne_true | exact absurd h.symm Bool.false_ne_true | conv => whnf))
    | (refine VL.drawS hTb hMix (by kernel_rfl) (by kernel_rfl) (by kernel_rfl) ?_; conv => whnf)
    | (refine Need.mk ?_; kernel_rfl) | (refine Need.mk ⟨rfl, ?_⟩; decide)
    | (refine VR.op hTb rfl rfl (o_index_imm hTb rfl rfl rfl rfl rfl rfl rfl (by omega) (hrow)) rfl ?_; conv => whnf)
    | (refine DT.op hTb rfl (o_index_imm hTb rfl rfl rfl rfl rfl rfl rfl (by omega) (hrow)) rfl ?_; conv => whnf)
    | (refine VR.rel hTb rfl rfl (o_relN (hc) false [] (fun _ _ => ⟨by simp, fun h => by cases h⟩) rfl rfl rfl rfl rfl ⟨rfl, rfl, rfl, rfl⟩ rfl rfl) ?_; rintro y1 hy1; (try simp only at hy1); conv => whnf)
    | (refine DT.rel hTb rfl (o_relN (hc) false [] (fun _ _ => ⟨by simp, fun h => by cases h⟩) rfl rfl rfl rfl rfl ⟨rfl, rfl, rfl, rfl⟩ rfl rfl) [] (by kernel_rfl) (by kernel_rfl) ?_; rintro y1 hy1; (try simp only at hy1); refine And.intro rfl (And.intro rfl ?_); conv => whnf))
    · refine endR [] _ rfl rfl rfl rfl rfl (LeS.refl _) rfl rfl ⟨by omega, fun hp => by omega⟩
    · have h4 : 0 ≤ y1 := by first | omega | (simp at h; omega)
      refine ⟨(i + 1, y1), ⟨hlt, h4, by simp only; omega, fun j hj hj2 => ?_⟩, by show l.length - (i + 1) < l.length - i; omega, wk_to [] rfl rfl rfl ⟨rfl, congrArg (fun x => Slot.one (.g (.int .i64 x))) (wrap64' (by unfold maxLen; omega)), rfl, trivial⟩ trivial⟩
      by_cases hji : j = i
      · subst hji; rw [hci]; exact hy1.2 h4
      · exact hs j hj (by omega)
  · (conv => whnf)
    have hie : i = l.length := by simp at h3; omega
    subst hie
    refine endR [] _ rfl rfl rfl rfl rfl (LeS.refl _) rfl rfl ⟨by omega, fun hp => ⟨by omega, fun x hx => ?_⟩⟩
    obtain ⟨j, hj, rfl⟩ := List.getElem_of_mem hx
    exact hs j hj hj

theorem Change.md.ok {c : Change} (h : c.md) : c.ok := ⟨by have := h.1; unfold maxLen; omega, by have := h.2.1; unfold maxLen; omega, by have := h.2.2.1; unfold maxLen; omega, by have := h.2.2.2; show c.col.d.t.size ≤ maxLen; unfold maxLen; omega⟩
end Go.Vl
