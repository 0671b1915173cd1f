/- Law: a new table: the program's is the reference's; what it gives back is its own. -/
import Derived.Test.YthjgifpjknnimaaJCe
set_option linter.unusedSimpArgs false
set_option linter.unusedVariables false

namespace Go.Vl
open Go Go.RowKit Go.Proofs
set_option maxRecDepth 100000
set_option linter.unusedSimpArgs false
set_option linter.unusedVariables false
set_option maxHeartbeats 8000000

theorem brwNewT (L : List Col) {n : Nat} (hn : L.length = n) (next : Int) : Slot.agg [.imm 7 (((L.map encCol).drop 0).take n), nilG, nilG, .g (.int .i64 next)] = .agg [.imm 7 (L.map encCol), nilG, nilG, .g (.int .i64 next)] := by
  subst hn; rw [fzC]
theorem grNewT (L : List Col) (n : Nat) (next : Int) {E : TypeId} : GrS (.agg [.own 0 0 n, nilG, nilG, .g (.int .i64 next)]) ∧ (∀ ob, some ob ∈ ([] : List (Option Ob)) → GrO ob) ∧ ∀ ob ∈ [Ob.arr E 7 (L.map encCol)], GrO ob := by
  refine ⟨fun l hl => ?_, fun _ h => by simp at h, fun ob h => ?_⟩
  · simp at hl
    rcases hl with rfl | rfl | rfl <;> rfl
  · simp at h
    subst h
    exact grCols L
theorem c_FnExactTableNew (cs : List Col) (la : cs.length ≤ maxLen) (oa : ∀ x ∈ cs, x.ok) : CallsV Try.prog 4 [colsI cs] [] (pureQ (bS true)) := by
  have za := fun n h0 h1 => y_ColsN cs la oa n h0 h1
  refine pure_walk hTb Try.func4 rfl rfl Try.ntmps4 (by simp) ?_
  (conv => whnf); repeat' (first
    | (refine And.intro ?_ ?_ <;> ((try intro h) <;> (try simp only [Bool.not_true, Bool.not_false, decide_eq_true_eq, decide_eq_false_iff_not, Int.not_lt, Int.not_le, gt_iff_lt, ge_iff_le] at h) <;> first | exact absurd h Bool.false_ne_true | exact absurd h.symm Bool.false_ne_true | conv => whnf))
    | (refine VL.drawS hTb hMix (by kernel_rfl) (by kernel_rfl) (by kernel_rfl) ?_; conv => whnf)
    | (refine Need.mk ?_; kernel_rfl) | (refine Need.mk ⟨rfl, ?_⟩; decide)
    | (refine VR.rel hTb rfl rfl (o_relN (za _ (by omega) (by omega)) false [] (fun _ _ => ⟨by simp, fun h => by cases h⟩) rfl rfl rfl rfl rfl ⟨rfl, rfl, rfl, rfl⟩ rfl rfl) ?_; rintro y1 hy1; (try simp only at hy1); conv => whnf)
    | (refine DT.rel hTb rfl (o_relN (za _ (by omega) (by omega)) false [] (fun _ _ => ⟨by simp, fun h => by cases h⟩) rfl rfl rfl rfl rfl ⟨rfl, rfl, rfl, rfl⟩ rfl rfl) [] (by kernel_rfl) (by kernel_rfl) ?_; rintro y1 hy1; (try simp only at hy1); refine And.intro rfl (And.intro rfl ?_); conv => whnf))
  · rfl
  have h1 : 0 ≤ y1 := by first | omega | (simp at h; omega)
  obtain ⟨hn, hm⟩ : y1 + cs.length ≤ 1048576 ∧ mdCols cs := hy1.2 h1
  have c2 := c_specTabNew cs (by omega) oa
  have uC := u_Cols cs ⟨by omega, fun _ _ => trivial⟩
  have tC := t_Cols cs ⟨by omega, fun _ _ => trivial⟩
  have eS := e_Cols cs ⟨lmax (by omega), hm.ok⟩
  have mS := c_markCols cs 1 (by omega) (by omega) (by omega)
  have n1 : ¬ (((1 + 7 * cs.length : Nat) : Int) < 0) := by omega
  unfold tNewT at c2
  cases hk : shapeOk cs with
  | false =>
    have c1 := c_implTabNewNo cs la oa hk
    rw [hk, if_neg (by simp)] at c2
    have eZ := CallsV.le (args' := [nilTab, .agg (encVTable zTab)]) (e_VTable zTab zTab_ok) ⟨⟨.inr ⟨7, rfl, rfl⟩, .inr ⟨10, rfl, rfl⟩, .inr ⟨3, rfl, rfl⟩, .inl rfl, trivial⟩, LeS.refl _, trivial⟩
    have mZ := c_markTab0 1 (by decide)
    have hZ := c_heldTab0 1 (by decide)
    (conv => whnf); repeat' (first
    | (exact absurd h n1)
    | (refine absurd h ?_; (simp; done))
    | (refine And.intro ?_ ?_ <;> ((try intro h) <;> (try simp only [Bool.not_true, Bool.not_false, decide_eq_true_eq, decide_eq_false_iff_not, Int.not_lt, Int.not_le, gt_iff_lt, ge_iff_le] at h) <;> first | exact absurd h Bool.false_ne_true | exact absurd h.symm Bool.false_ne_true | conv => whnf))
    | (refine VL.drawS hTb hMix (by kernel_rfl) (by kernel_rfl) (by kernel_rfl) ?_; conv => whnf)
    | (refine Need.mk ?_; kernel_rfl) | (refine Need.mk ⟨rfl, ?_⟩; decide)
    | (refine VR.fun (o := ⟨some 20, _, _, _, _, _⟩) hTb rfl rfl (o_funN uC false [] (fun h => by cases h) (by simp) rfl rfl rfl rfl rfl ⟨rfl, rfl, rfl, rfl⟩ rfl rfl) ?_; conv => whnf)
    | (refine VR.pure hTb rfl rfl (o_purF (tC) rfl rfl rfl ⟨rfl, rfl, rfl, rfl⟩ rfl) ?_; conv => whnf)
    | (refine DT.pure hTb rfl (o_purF (tC) rfl rfl rfl ⟨rfl, rfl, rfl, rfl⟩ rfl) ?_; conv => whnf)
    | (refine VR.pure hTb rfl rfl (o_purF (c2) rfl rfl rfl ⟨rfl, rfl, rfl, rfl⟩ rfl) ?_; conv => whnf)
    | (refine DT.pure hTb rfl (o_purF (c2) rfl rfl rfl ⟨rfl, rfl, rfl, rfl⟩ rfl) ?_; conv => whnf)
    | (refine VR.pure hTb rfl rfl (o_purN (c1) rfl rfl rfl ⟨rfl, rfl, rfl, rfl⟩ rfl) ?_; conv => whnf)
    | (refine DT.pure hTb rfl (o_purN (c1) rfl rfl rfl ⟨rfl, rfl, rfl, rfl⟩ rfl) ?_; conv => whnf)
    | (refine VR.pure hTb rfl rfl (o_purN (c1) rfl rfl rfl ⟨rfl, rfl, rfl, rfl⟩ (congrArg (fun s => [s]) brw)) ?_; conv => whnf)
    | (refine DT.pure hTb rfl (o_purN (c1) rfl rfl rfl ⟨rfl, rfl, rfl, rfl⟩ (congrArg (fun s => [s]) brw)) ?_; conv => whnf)
    | (refine VR.pure hTb rfl rfl (o_purN (c1) rfl rfl rfl ⟨rfl, rfl, rfl, rfl⟩ (congrArg (fun s => [s]) brw')) ?_; conv => whnf)
    | (refine DT.pure hTb rfl (o_purN (c1) rfl rfl rfl ⟨rfl, rfl, rfl, rfl⟩ (congrArg (fun s => [s]) brw')) ?_; conv => whnf)
    | (refine VR.pure hTb rfl rfl (o_purN (c1) rfl rfl rfl ⟨rfl, rfl, rfl, rfl⟩ (congrArg (fun s => [s]) (brwG (by simp)))) ?_; conv => whnf)
    | (refine DT.pure hTb rfl (o_purN (c1) rfl rfl rfl ⟨rfl, rfl, rfl, rfl⟩ (congrArg (fun s => [s]) (brwG (by simp)))) ?_; conv => whnf)
    | (refine VR.pure hTb rfl rfl (o_purN (eS) rfl rfl rfl ⟨rfl, rfl, rfl, rfl⟩ (congrArg (fun s => [s, _]) brw)) ?_; conv => whnf)
    | (refine DT.pure hTb rfl (o_purN (eS) rfl rfl rfl ⟨rfl, rfl, rfl, rfl⟩ (congrArg (fun s => [s, _]) brw)) ?_; conv => whnf)
    | (refine VR.pure hTb rfl rfl (o_purN (eS) rfl rfl rfl ⟨rfl, rfl, rfl, rfl⟩ (congrArg (fun s => [s, _]) brw')) ?_; conv => whnf)
    | (refine DT.pure hTb rfl (o_purN (eS) rfl rfl rfl ⟨rfl, rfl, rfl, rfl⟩ (congrArg (fun s => [s, _]) brw')) ?_; conv => whnf)
    | (refine VR.pure hTb rfl rfl (o_purN (eS) rfl rfl rfl ⟨rfl, rfl, rfl, rfl⟩ (congrArg (fun s => [s, _]) (brwG (by simp)))) ?_; conv => whnf)
    | (refine DT.pure hTb rfl (o_purN (eS) rfl rfl rfl ⟨rfl, rfl, rfl, rfl⟩ (congrArg (fun s => [s, _]) (brwG (by simp)))) ?_; conv => whnf)
    | (refine VR.pure hTb rfl rfl (o_purN (eZ) rfl rfl rfl ⟨rfl, rfl, rfl, rfl⟩ rfl) ?_; conv => whnf)
    | (refine DT.pure hTb rfl (o_purN (eZ) rfl rfl rfl ⟨rfl, rfl, rfl, rfl⟩ rfl) ?_; conv => whnf)
    | (refine VR.pure hTb rfl rfl (o_purN (mZ) rfl rfl rfl ⟨rfl, rfl, rfl, rfl⟩ rfl) ?_; conv => whnf)
    | (refine DT.pure hTb rfl (o_purN (mZ) rfl rfl rfl ⟨rfl, rfl, rfl, rfl⟩ rfl) ?_; conv => whnf)
    | (refine VR.pure hTb rfl rfl (o_purN (hZ) rfl rfl rfl ⟨rfl, rfl, rfl, rfl⟩ rfl) ?_; conv => whnf)
    | (refine DT.pure hTb rfl (o_purN (hZ) rfl rfl rfl ⟨rfl, rfl, rfl, rfl⟩ rfl) ?_; conv => whnf)
    | (refine VR.fun hTb rfl rfl (o_funN (mS) false [1080] (fun h => by cases h) (by simp) rfl rfl rfl rfl rfl ⟨rfl, rfl, rfl, rfl⟩ rfl rfl) ?_; conv => whnf)
    | (refine DT.fun hTb rfl (o_funN (mS) false [1080] (fun h => by cases h) (by simp) rfl rfl rfl rfl rfl ⟨rfl, rfl, rfl, rfl⟩ rfl rfl) rfl ?_; conv => whnf))
    all_goals first
      | rfl
      | trace_state
  | true =>
    have c1 := c_implTabNewYes cs (by omega) oa hk
    rw [hk, if_pos rfl] at c2
    have hTo : VTable.ok ⟨cs, [], [], 1⟩ := ⟨⟨la, oa⟩, ⟨Nat.zero_le _, fun x hx => by cases hx⟩, ⟨Nat.zero_le _, fun x hx => by cases hx⟩⟩
    have eN := CallsV.le (args' := [.agg [.imm 7 (cs.map encCol), nilG, nilG, .g (.int .i64 1)], .agg (encVTable ⟨cs, [], [], 1⟩)]) (e_VTable _ hTo) ⟨⟨.inl rfl, .inr ⟨10, rfl, rfl⟩, .inr ⟨3, rfl, rfl⟩, .inl rfl, trivial⟩, LeS.refl _, trivial⟩
    have mN := c_markTabC cs 1 1 (by omega) (by omega) (by omega)
    have hN := c_heldTabC cs.length 1 1 (by omega) (by omega) (by omega)
    (conv => whnf); repeat' (first
    | (exact absurd h n1)
    | (refine absurd h ?_; (simp; done))
    | (refine And.intro ?_ ?_ <;> ((try intro h) <;> (try simp only [Bool.not_true, Bool.not_false, decide_eq_true_eq, decide_eq_false_iff_not, Int.not_lt, Int.not_le, gt_iff_lt, ge_iff_le] at h) <;> first | exact absurd h Bool.false_ne_true | exact absurd h.symm Bool.false_ne_true | conv => whnf))
    | (refine VL.drawS hTb hMix (by kernel_rfl) (by kernel_rfl) (by kernel_rfl) ?_; conv => whnf)
    | (refine Need.mk ?_; kernel_rfl) | (refine Need.mk ⟨rfl, ?_⟩; decide)
    | (refine VR.fun (o := ⟨some 20, _, _, _, _, _⟩) hTb rfl rfl (o_funN uC false [] (fun h => by cases h) (by simp) rfl rfl rfl rfl rfl ⟨rfl, rfl, rfl, rfl⟩ rfl rfl) ?_; conv => whnf)
    | (refine VR.pure hTb rfl rfl (o_purF (tC) rfl rfl rfl ⟨rfl, rfl, rfl, rfl⟩ rfl) ?_; conv => whnf)
    | (refine DT.pure hTb rfl (o_purF (tC) rfl rfl rfl ⟨rfl, rfl, rfl, rfl⟩ rfl) ?_; conv => whnf)
    | (refine VR.pure hTb rfl rfl (o_purF (c2) rfl rfl rfl ⟨rfl, rfl, rfl, rfl⟩ rfl) ?_; conv => whnf)
    | (refine DT.pure hTb rfl (o_purF (c2) rfl rfl rfl ⟨rfl, rfl, rfl, rfl⟩ rfl) ?_; conv => whnf)
    | (refine VR.fun hTb rfl rfl (o_funN (c1) false [] (fun h => by cases h) (by simp) rfl rfl rfl rfl rfl ⟨rfl, rfl, rfl, rfl⟩ rfl rfl) ?_; conv => whnf)
    | (refine DT.fun hTb rfl (o_funN (c1) false [] (fun h => by cases h) (by simp) rfl rfl rfl rfl rfl ⟨rfl, rfl, rfl, rfl⟩ rfl rfl) rfl ?_; conv => whnf)
    | (refine VR.fun hTb rfl rfl (o_funN (c1) true [] (fun _ => grNewT _ _ _) (by simp) rfl rfl rfl rfl rfl ⟨rfl, rfl, rfl, rfl⟩ ?_ rfl) ?_; exact congrArg (fun s => [s]) brw; conv => whnf)
    | (refine DT.fun hTb rfl (o_funN (c1) true [] (fun _ => grNewT _ _ _) (by simp) rfl rfl rfl rfl rfl ⟨rfl, rfl, rfl, rfl⟩ ?_ rfl) rfl ?_; exact congrArg (fun s => [s]) brw; conv => whnf)
    | (refine VR.pure hTb rfl rfl (o_purN (eS) rfl rfl rfl ⟨rfl, rfl, rfl, rfl⟩ (congrArg (fun s => [s, _]) brw)) ?_; conv => whnf)
    | (refine DT.pure hTb rfl (o_purN (eS) rfl rfl rfl ⟨rfl, rfl, rfl, rfl⟩ (congrArg (fun s => [s, _]) brw)) ?_; conv => whnf)
    | (refine VR.pure hTb rfl rfl (o_purN (eS) rfl rfl rfl ⟨rfl, rfl, rfl, rfl⟩ (congrArg (fun s => [s, _]) brw')) ?_; conv => whnf)
    | (refine DT.pure hTb rfl (o_purN (eS) rfl rfl rfl ⟨rfl, rfl, rfl, rfl⟩ (congrArg (fun s => [s, _]) brw')) ?_; conv => whnf)
    | (refine VR.pure hTb rfl rfl (o_purN (eS) rfl rfl rfl ⟨rfl, rfl, rfl, rfl⟩ (congrArg (fun s => [s, _]) (brwG (by simp)))) ?_; conv => whnf)
    | (refine DT.pure hTb rfl (o_purN (eS) rfl rfl rfl ⟨rfl, rfl, rfl, rfl⟩ (congrArg (fun s => [s, _]) (brwG (by simp)))) ?_; conv => whnf)
    | (refine VR.pure hTb rfl rfl (o_purN eN rfl rfl rfl ⟨rfl, rfl, rfl, rfl⟩ ?_) ?_; exact congrArg (fun s => [s, _]) (brwNewT cs rfl _); conv => whnf)
    | (refine VR.fun hTb rfl rfl (o_funN (mS) false [1080] (fun h => by cases h) (by simp) rfl rfl rfl rfl rfl ⟨rfl, rfl, rfl, rfl⟩ rfl rfl) ?_; conv => whnf)
    | (refine DT.fun hTb rfl (o_funN (mS) false [1080] (fun h => by cases h) (by simp) rfl rfl rfl rfl rfl ⟨rfl, rfl, rfl, rfl⟩ rfl rfl) rfl ?_; conv => whnf)
    | (refine VR.fun hTb rfl rfl (o_funN (mN) false [1088] (fun h => by cases h) (by simp) rfl rfl rfl rfl rfl ⟨rfl, rfl, rfl, rfl⟩ rfl rfl) ?_; conv => whnf)
    | (refine DT.fun hTb rfl (o_funN (mN) false [1088] (fun h => by cases h) (by simp) rfl rfl rfl rfl rfl ⟨rfl, rfl, rfl, rfl⟩ rfl rfl) rfl ?_; conv => whnf)
    | (refine VR.pure hTb rfl rfl (o_purN hN rfl rfl rfl ⟨rfl, rfl, rfl, rfl⟩ ?_) ?_; exact congrArg (fun s => [s, _]) (brwNewT _ (by simp [mkCols]) _); conv => whnf))
    all_goals first
      | rfl
      | trace_state
end Go.Vl
