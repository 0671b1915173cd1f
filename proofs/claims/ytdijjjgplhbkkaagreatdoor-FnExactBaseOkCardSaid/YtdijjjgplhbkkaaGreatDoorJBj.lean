/- Contracts: how great things are, texts counted too; copies that may be written; marks, and marks that are held. Parts printed by genmk.py. Laws: columns and rows behind changes: the program's are the reference's; what it gives back is its own. -/
import Derived.Test.YtdijjjgplhbkkaaGreatDoorJBf
import Derived.Test.YtdijjjgplhbkkaaGreatDoorJBh
import Derived.Test.YtdijjjgplhbkkaaGreatDoorJBi
import Derived.Test.YtdijjjgplhbkkaaGreatDoorJBc
import Derived.Test.YtdijjjgplhbkkaaGreatDoorJBg
set_option linter.unusedSimpArgs false
set_option linter.unusedVariables false

namespace Go.Vl
open Go Go.RowKit Go.Proofs
set_option maxRecDepth 100000
set_option linter.unusedSimpArgs false
set_option linter.unusedVariables false
set_option maxHeartbeats 4000000
theorem y_Val (v : Val) (hv : v.ok) (n : Int) (h0 : 0 ≤ n) (h1 : n ≤ 1048576) : CallsV Tryz.prog 237 [.agg (encVal v), iS n] [] (relQ (fun y : Int => y ≤ n ∧ (0 ≤ y → v.md)) iS (fun _ => []) (fun _ => [])) := by
  obtain ⟨k, n, t⟩ := v
  simp only [Val.ok] at hv
  refine funF_walk hTb Tryz.func237 rfl rfl Tryz.ntmps237 (by simp) (by simp) ?_
  (conv => whnf); repeat' (first | (refine And.intro ?_ ?_ <;> ((try intro h) <;> (try simp only [Bool.not_true, Bool.not_false] at h) <;> first | exact absurd h Bool.false_ne_true | exact absurd h.symm Bool.false_ne_true | conv => whnf)) | (refine Need.mk ?_; kernel_rfl) | (refine Need.mk ⟨rfl, ?_⟩; decide))
  all_goals refine endR [] _ rfl rfl rfl rfl rfl (LeS.refl _) rfl rfl ⟨by (try simp only [decide_eq_false_iff_not, decide_eq_true_eq, IntKind.wrap_i64] at *); (try simp only [Int.not_lt] at *); (try unfold maxLen at *); omega, fun hp => ?_⟩
  all_goals first
    | (show t.size ≤ 1048576; (try simp only [decide_eq_false_iff_not, decide_eq_true_eq, IntKind.wrap_i64] at *); (try simp only [Int.not_lt] at *); (try unfold maxLen at *); omega)
    | (exfalso; revert hp; simp; done)
theorem y_Col (v : Col) (hv : v.ok) (n : Int) (h0 : 0 ≤ n) (h1 : n ≤ 1048576) : CallsV Tryz.prog 225 [.agg (encCol v), iS n] [] (relQ (fun y : Int => y ≤ n ∧ (0 ≤ y → v.md)) iS (fun _ => []) (fun _ => [])) := by
  obtain ⟨name, kind, need, once, ⟨d_k, d_n, d_t⟩⟩ := v
  simp only [Col.ok] at hv
  refine funF_walk hTb Tryz.func225 rfl rfl Tryz.ntmps225 (by simp) (by simp) ?_
  (conv => whnf); repeat' (first
    | (refine And.intro ?_ ?_ <;> ((try intro h) <;> (try simp only [Bool.not_true, Bool.not_false, decide_eq_true_eq, decide_eq_false_iff_not, Int.not_lt, Int.not_le, gt_iff_lt, ge_iff_le] at h) <;> first | exact absurd h Bool.false_ne_true | exact absurd h.symm Bool.false_ne_true | conv => whnf))
    | (refine VL.drawS hTb hMix (by kernel_rfl) (by kernel_rfl) (by kernel_rfl) ?_; conv => whnf)
    | (refine Need.mk ?_; kernel_rfl) | (refine Need.mk ⟨rfl, ?_⟩; decide)
    | (refine VR.rel hTb rfl rfl (o_relN (y_Val ⟨_, _, _⟩ (hv.2) _ (by (try simp only [decide_eq_false_iff_not, decide_eq_true_eq, IntKind.wrap_i64] at *); (try simp only [Int.not_lt] at *); (try unfold maxLen at *); omega) (by (try simp only [decide_eq_false_iff_not, decide_eq_true_eq, IntKind.wrap_i64] at *); (try simp only [Int.not_lt] at *); (try unfold maxLen at *); omega)) false [] (fun _ _ => ⟨by simp, fun h => by cases h⟩) rfl rfl rfl rfl rfl ⟨rfl, rfl, rfl, rfl⟩ rfl rfl) ?_; rintro yq_d hq_d; (try simp only at hq_d); conv => whnf)
    | (refine DT.rel hTb rfl (o_relN (y_Val ⟨_, _, _⟩ (hv.2) _ (by (try simp only [decide_eq_false_iff_not, decide_eq_true_eq, IntKind.wrap_i64] at *); (try simp only [Int.not_lt] at *); (try unfold maxLen at *); omega) (by (try simp only [decide_eq_false_iff_not, decide_eq_true_eq, IntKind.wrap_i64] at *); (try simp only [Int.not_lt] at *); (try unfold maxLen at *); omega)) false [] (fun _ _ => ⟨by simp, fun h => by cases h⟩) rfl rfl rfl rfl rfl ⟨rfl, rfl, rfl, rfl⟩ rfl rfl) [] (by kernel_rfl) (by kernel_rfl) ?_; rintro yq_d hq_d; (try simp only at hq_d); refine And.intro rfl (And.intro rfl ?_); conv => whnf))
  all_goals refine endR [] _ rfl rfl rfl rfl rfl (LeS.refl _) rfl rfl ⟨by (try simp only [decide_eq_false_iff_not, decide_eq_true_eq, IntKind.wrap_i64] at *); (try simp only [Int.not_lt] at *); (try unfold maxLen at *); omega, fun hp => ?_⟩
  all_goals first
    | (refine ⟨?_, hq_d.2 ?_⟩ <;> ((try simp only [decide_eq_false_iff_not, decide_eq_true_eq, IntKind.wrap_i64] at *); (try simp only [Int.not_lt] at *); (try unfold maxLen at *); omega))
    | (exfalso; revert hp; simp; done)
theorem y_Change (v : Change) (hv : v.ok) (n : Int) (h0 : 0 ≤ n) (h1 : n ≤ 1048576) : CallsV Tryz.prog 226 [.agg (encChange v), iS n] [] (relQ (fun y : Int => y ≤ n ∧ (0 ≤ y → v.md)) iS (fun _ => []) (fun _ => [])) := by
  obtain ⟨kind, name, new, ⟨col_name, col_kind, col_need, col_once, ⟨col_d_k, col_d_n, col_d_t⟩⟩⟩ := v
  simp only [Change.ok] at hv
  refine funF_walk hTb Tryz.func226 rfl rfl Tryz.ntmps226 (by simp) (by simp) ?_
  (conv => whnf); repeat' (first
    | (refine And.intro ?_ ?_ <;> ((try intro h) <;> (try simp only [Bool.not_true, Bool.not_false, decide_eq_true_eq, decide_eq_false_iff_not, Int.not_lt, Int.not_le, gt_iff_lt, ge_iff_le] at h) <;> first | exact absurd h Bool.false_ne_true | exact absurd h.symm Bool.false_ne_true | conv => whnf))
    | (refine VL.drawS hTb hMix (by kernel_rfl) (by kernel_rfl) (by kernel_rfl) ?_; conv => whnf)
    | (refine Need.mk ?_; kernel_rfl) | (refine Need.mk ⟨rfl, ?_⟩; decide)
    | (refine VR.rel hTb rfl rfl (o_relN (y_Col ⟨_, _, _, _, ⟨_, _, _⟩⟩ (hv.2.2) _ (by (try simp only [decide_eq_false_iff_not, decide_eq_true_eq, IntKind.wrap_i64] at *); (try simp only [Int.not_lt] at *); (try unfold maxLen at *); omega) (by (try simp only [decide_eq_false_iff_not, decide_eq_true_eq, IntKind.wrap_i64] at *); (try simp only [Int.not_lt] at *); (try unfold maxLen at *); omega)) false [] (fun _ _ => ⟨by simp, fun h => by cases h⟩) rfl rfl rfl rfl rfl ⟨rfl, rfl, rfl, rfl⟩ rfl rfl) ?_; rintro yq_col hq_col; (try simp only at hq_col); conv => whnf)
    | (refine DT.rel hTb rfl (o_relN (y_Col ⟨_, _, _, _, ⟨_, _, _⟩⟩ (hv.2.2) _ (by (try simp only [decide_eq_false_iff_not, decide_eq_true_eq, IntKind.wrap_i64] at *); (try simp only [Int.not_lt] at *); (try unfold maxLen at *); omega) (by (try simp only [decide_eq_false_iff_not, decide_eq_true_eq, IntKind.wrap_i64] at *); (try simp only [Int.not_lt] at *); (try unfold maxLen at *); omega)) false [] (fun _ _ => ⟨by simp, fun h => by cases h⟩) rfl rfl rfl rfl rfl ⟨rfl, rfl, rfl, rfl⟩ rfl rfl) [] (by kernel_rfl) (by kernel_rfl) ?_; rintro yq_col hq_col; (try simp only at hq_col); refine And.intro rfl (And.intro rfl ?_); conv => whnf))
  all_goals refine endR [] _ rfl rfl rfl rfl rfl (LeS.refl _) rfl rfl ⟨by (try simp only [decide_eq_false_iff_not, decide_eq_true_eq, IntKind.wrap_i64] at *); (try simp only [Int.not_lt] at *); (try unfold maxLen at *); omega, fun hp => ?_⟩
  all_goals first
    | (refine ⟨?_, ?_, hq_col.2 ?_⟩ <;> ((try simp only [decide_eq_false_iff_not, decide_eq_true_eq, IntKind.wrap_i64] at *); (try simp only [Int.not_lt] at *); (try unfold maxLen at *); omega))
    | (exfalso; revert hp; simp; done)
-- texts of marks
end Go.Vl

namespace Go.Vl
open Go Go.RowKit Go.Proofs
set_option maxRecDepth 100000
set_option linter.unusedSimpArgs false
set_option linter.unusedVariables false
set_option maxHeartbeats 8000000

theorem lmax {n : Nat} (h : n ≤ 3000000) : n ≤ maxLen := by unfold maxLen; omega

theorem y_ColsN (l : List Col) (hl : l.length ≤ maxLen) (hv : ∀ x ∈ l, x.ok) (n : Int) (h0 : 0 ≤ n) (h1 : n ≤ 1048576) : CallsV Tryz.prog 211 [colsI l, iS n] [] (relQ (fun y : Int => y ≤ n ∧ (0 ≤ y → y + l.length ≤ n ∧ ∀ x ∈ l, x.md)) iS (fun _ => []) (fun _ => [])) := by
  refine funF_walk hTb Tryz.func211 rfl rfl Tryz.ntmps211 (by simp) (by simp) ?_
  have e1 : IntKind.i64.wrap (n - ((l.map encCol).length : Int)) = n - l.length := by rw [List.length_map]; exact wsub h0 h1 hl
  (conv => whnf); repeat' (first | (refine And.intro ?_ ?_ <;> ((try intro h) <;> (try simp only [Bool.not_true, Bool.not_false] at h) <;> first | exact absurd h Bool.false_ne_true | exact absurd h.symm Bool.false_ne_true | conv => whnf)) | (refine Need.mk ?_; kernel_rfl) | (refine Need.mk ⟨rfl, ?_⟩; decide))
  · rw [e1] at h
    refine endR [] _ rfl rfl rfl rfl rfl (LeS.refl _) rfl rfl ⟨by omega, fun hp => by omega⟩
  rw [e1] at h ⊢
  have h2 : (l.length : Int) ≤ n := by simp at h; omega
  refine VL.loopI hTb (fun (x : Nat × Int) => x.1 ≤ l.length ∧ 0 ≤ x.2 ∧ x.2 ≤ n - l.length ∧ ∀ j (hj : j < l.length), j < x.1 → (l[j]).md) (fun x => ⟨[(0, colsI l), (5, iS x.1), (1, iS x.2)], [], []⟩) (fun x => l.length - x.1) (0, n - l.length) ⟨Nat.zero_le _, by simp only; omega, by simp only; omega, fun j _ hj => absurd hj (Nat.not_lt_zero _)⟩
    (wk_to [] rfl rfl rfl ⟨rfl, rfl, rfl, trivial⟩ trivial) (fun x hx => ?_)
  obtain ⟨i, y0⟩ := x
  obtain ⟨hi, k0, k1, hs⟩ := hx
  simp only at hi k0 k1 hs
  (conv => whnf)
  refine And.intro (fun h3 => ?_) (fun h3 => ?_)
  · have hlt : i < l.length := by simpa using h3
    have hrow := rowCol hlt
    have hc := y_Col l[i] (hv _ (List.getElem_mem hlt)) y0 k0 (by omega)
    generalize hci : l[i] = ci at hrow hc
    obtain ⟨name, kind, need, once, ⟨d_k, d_n, d_t⟩⟩ := ci
    (conv => whnf); repeat' (first
    | (refine And.intro ?_ ?_ <;> ((try intro h) <;> (try simp only [Bool.not_true, Bool.not_false, decide_eq_true_eq, decide_eq_false_iff_not, Int.not_lt, Int.not_le, gt_iff_lt, ge_iff_le] at h) <;> first | exact absurd h Bool.false_ne_true | exact absurd h.symm Bool.false_ne_true | conv => whnf))
    | (refine VL.drawS hTb hMix (by kernel_rfl) (by kernel_rfl) (by kernel_rfl) ?_; conv => whnf)
    | (refine Need.mk ?_; kernel_rfl) | (refine Need.mk ⟨rfl, ?_⟩; decide)
    | (refine VR.op hTb rfl rfl (o_index_imm hTb rfl rfl rfl rfl rfl rfl rfl (by omega) (hrow)) rfl ?_; conv => whnf)
    | (refine DT.op hTb rfl (o_index_imm hTb rfl rfl rfl rfl rfl rfl rfl (by omega) (hrow)) rfl ?_; conv => whnf)
    | (refine VR.rel hTb rfl rfl (o_relN (hc) false [] (fun _ _ => ⟨by simp, fun h => by cases h⟩) rfl rfl rfl rfl rfl ⟨rfl, rfl, rfl, rfl⟩ rfl rfl) ?_; rintro y1 hy1; (try simp only at hy1); conv => whnf)
    | (refine DT.rel hTb rfl (o_relN (hc) false [] (fun _ _ => ⟨by simp, fun h => by cases h⟩) rfl rfl rfl rfl rfl ⟨rfl, rfl, rfl, rfl⟩ rfl rfl) [] (by kernel_rfl) (by kernel_rfl) ?_; rintro y1 hy1; (try simp only at hy1); refine And.intro rfl (And.intro rfl ?_); conv => whnf))
    · refine endR [] _ rfl rfl rfl rfl rfl (LeS.refl _) rfl rfl ⟨by omega, fun hp => by omega⟩
    · have h4 : 0 ≤ y1 := by first | omega | (simp at h; omega)
      refine ⟨(i + 1, y1), ⟨hlt, h4, by simp only; omega, fun j hj hj2 => ?_⟩, by show l.length - (i + 1) < l.length - i; omega, wk_to [] rfl rfl rfl ⟨rfl, congrArg (fun x => Slot.one (.g (.int .i64 x))) (wrap64' (by unfold maxLen; omega)), rfl, trivial⟩ trivial⟩
      by_cases hji : j = i
      · subst hji; rw [hci]; exact hy1.2 h4
      · exact hs j hj (by omega)
  · (conv => whnf)
    have hie : i = l.length := by simp at h3; omega
    subst hie
    refine endR [] _ rfl rfl rfl rfl rfl (LeS.refl _) rfl rfl ⟨by omega, fun hp => ⟨by omega, fun x hx => ?_⟩⟩
    obtain ⟨j, hj, rfl⟩ := List.getElem_of_mem hx
    exact hs j hj hj

theorem Change.md.ok {c : Change} (h : c.md) : c.ok := ⟨by have := h.1; unfold maxLen; omega, by have := h.2.1; unfold maxLen; omega, by have := h.2.2.1; unfold maxLen; omega, by have := h.2.2.2; show c.col.d.t.size ≤ maxLen; unfold maxLen; omega⟩
end Go.Vl
