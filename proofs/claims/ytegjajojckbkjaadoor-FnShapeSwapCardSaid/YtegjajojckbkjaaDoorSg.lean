/- Contracts: a value as one of another kind. -/
import Derived.Test.YtegjajojckbkjaaDoorSf
namespace Go.Vl
open Go Go.RowKit Go.Proofs
set_option maxRecDepth 100000
set_option linter.unusedSimpArgs false
set_option linter.unusedVariables false
set_option maxHeartbeats 800000

def valAs (v : Val) (kd : Int) : Val := if valOk v = true ∧ (kd = 1 ∨ kd = 2) ∧ v.k ≠ 0 then (if v.k = kd then v else if kd = 2 then ⟨2, 0, bl (Lib.itoa v.n)⟩ else numV v.t) else ⟨0, 0, ⟨#[]⟩⟩
theorem c_implValAs (k n : Int) (t : ByteArray) (kd : Int) (hv : t.size ≤ 281474976710656) : CallsV Tryd.prog 93 [.agg (encVal ⟨k, n, t⟩), iS kd] [] (pureQ (.agg (encVal (valAs ⟨k, n, t⟩ kd)))) := by
  have c1 := c_implValOk ⟨k, n, t⟩ (show t.size ≤ maxLen by unfold maxLen; omega)
  obtain ⟨b, hb⟩ : ∃ b, valOk ⟨k, n, t⟩ = b := ⟨_, rfl⟩
  rw [hb] at c1
  have hr : b = true → -999 ≤ n ∧ n ≤ 999 := fun e => by
    have h := hb.trans e
    unfold valOk at h
    simp only at h
    split at h
    · simp at h; omega
    · split at h
      · simp at h; omega
      · split at h
        · simp at h; omega
        · cases h
  have c2 : b = true → CallsV Tryd.prog 106 [iS n] [] (pureQ (strS (bl (Lib.itoa n)))) := fun e => by
    have := hr e
    exact c_Itoa n (by omega) (by omega)
  have c3 := c_numVal t hv
  obtain ⟨⟨a1, a2, a3⟩, ha⟩ : ∃ x, numV t = x := ⟨_, rfl⟩
  rw [ha] at c3
  refine pure_walk hTb Tryd.func93 rfl rfl Tryd.ntmps93 (by simp) ?_
  cases b <;> (conv => whnf); repeat' (first
    | (refine And.intro ?_ ?_ <;> ((try intro h) <;> (try simp only [Bool.not_true, Bool.not_false, decide_eq_true_eq, decide_eq_false_iff_not, Int.not_lt, Int.not_le, gt_iff_lt, ge_iff_le] at h) <;> first | exact absurd h Bool.false_ne_true | exact absurd h.symm Bool.false_ne_true | conv => whnf))
    | (refine VL.drawS hTb hMix (by kernel_rfl) (by kernel_rfl) (by kernel_rfl) ?_; conv => whnf)
    | (refine Need.mk ?_; kernel_rfl) | (refine Need.mk ⟨rfl, ?_⟩; decide)
    | (refine VR.pure hTb rfl rfl (o_purN (c1) rfl rfl rfl ⟨rfl, rfl, rfl, rfl⟩ rfl) ?_; conv => whnf)
    | (refine DT.pure hTb rfl (o_purN (c1) rfl rfl rfl ⟨rfl, rfl, rfl, rfl⟩ rfl) ?_; conv => whnf)
    | (refine VR.pure hTb rfl rfl (o_purN (c2 rfl) rfl rfl rfl ⟨rfl, rfl, rfl, rfl⟩ rfl) ?_; conv => whnf)
    | (refine DT.pure hTb rfl (o_purN (c2 rfl) rfl rfl rfl ⟨rfl, rfl, rfl, rfl⟩ rfl) ?_; conv => whnf)
    | (refine VR.pure hTb rfl rfl (o_purN (c3) rfl rfl rfl ⟨rfl, rfl, rfl, rfl⟩ rfl) ?_; conv => whnf)
    | (refine DT.pure hTb rfl (o_purN (c3) rfl rfl rfl ⟨rfl, rfl, rfl, rfl⟩ rfl) ?_; conv => whnf)
    | (refine VR.pure hTb rfl rfl (o_purN (c_in _ _ _) rfl rfl rfl ⟨rfl, rfl, rfl, rfl⟩ rfl) ?_; conv => whnf)
    | (refine DT.pure hTb rfl (o_purN (c_in _ _ _) rfl rfl rfl ⟨rfl, rfl, rfl, rfl⟩ rfl) ?_; conv => whnf))
  all_goals (try simp only [Bool.not_eq_true', Bool.not_eq_false', Bool.and_eq_true, Bool.and_eq_false_iff, decide_eq_true_eq, decide_eq_false_iff_not, beq_iff_eq, beq_eq_false_iff_ne, ne_eq] at *)
  all_goals
    show _ = Slot.agg (encVal (if valOk ⟨k, n, t⟩ = true ∧ (kd = 1 ∨ kd = 2) ∧ k ≠ 0 then (if k = kd then ⟨k, n, t⟩ else if kd = 2 then ⟨2, 0, bl (Lib.itoa n)⟩ else numV t) else ⟨0, 0, ⟨#[]⟩⟩))
    (repeat' split) <;> first
      | rfl
      | (exfalso; simp_all; done)
      | (exfalso; omega)
      | (exfalso; simp_all; omega)
      | (rw [ha]; rfl)
theorem numS_eq (o : Option Int) : ∃ x b, numS o = .tup [(false, [.g (.int .i64 x)]), (false, [.g (.bool b)])] ∧ (b = true → o = some x) ∧ (b = false → o = none) := by
  cases o with
  | none => exact ⟨0, false, rfl, (fun e => by cases e), fun _ => rfl⟩
  | some x => exact ⟨x, true, rfl, fun _ => rfl, fun e => by cases e⟩
theorem c_specValAs (k n : Int) (t : ByteArray) (kd : Int) (hv : t.size ≤ maxLen) : CallsV Tryd.prog 98 [.agg (encVal ⟨k, n, t⟩), iS kd] [] (pureQ (.agg (encVal (valAs ⟨k, n, t⟩ kd)))) := by
  have c1 := c_specValOk ⟨k, n, t⟩ hv
  obtain ⟨b, hb⟩ : ∃ b, valOk ⟨k, n, t⟩ = b := ⟨_, rfl⟩
  rw [hb] at c1
  have hr : b = true → -999 ≤ n ∧ n ≤ 999 := fun e => by
    have h := hb.trans e
    unfold valOk at h
    simp only at h
    split at h
    · simp at h; omega
    · split at h
      · simp at h; omega
      · split at h
        · simp at h; omega
        · cases h
  have c2 : b = true → CallsV Tryd.prog 111 [iS n] [] (pureQ (strS (bl (Lib.itoa n)))) := fun e => by
    have := hr e
    exact c_l10Dec n (by omega) (by omega)
  have c3 := c_l10Num t hv
  obtain ⟨x, y, h1, h2, h3⟩ := numS_eq (numOf t.data.toList)
  rw [h1] at c3
  refine pure_walk hTb Tryd.func98 rfl rfl Tryd.ntmps98 (by simp) ?_
  cases b <;> cases y <;> (conv => whnf); repeat' (first
    | (refine And.intro ?_ ?_ <;> ((try intro h) <;> (try simp only [Bool.not_true, Bool.not_false, decide_eq_true_eq, decide_eq_false_iff_not, Int.not_lt, Int.not_le, gt_iff_lt, ge_iff_le] at h) <;> first | exact absurd h Bool.false_ne_true | exact absurd h.symm Bool.false_ne_true | conv => whnf))
    | (refine VL.drawS hTb hMix (by kernel_rfl) (by kernel_rfl) (by kernel_rfl) ?_; conv => whnf)
    | (refine Need.mk ?_; kernel_rfl) | (refine Need.mk ⟨rfl, ?_⟩; decide)
    | (refine VR.pure hTb rfl rfl (o_purN (c1) rfl rfl rfl ⟨rfl, rfl, rfl, rfl⟩ rfl) ?_; conv => whnf)
    | (refine DT.pure hTb rfl (o_purN (c1) rfl rfl rfl ⟨rfl, rfl, rfl, rfl⟩ rfl) ?_; conv => whnf)
    | (refine VR.pure hTb rfl rfl (o_purN (c2 rfl) rfl rfl rfl ⟨rfl, rfl, rfl, rfl⟩ rfl) ?_; conv => whnf)
    | (refine DT.pure hTb rfl (o_purN (c2 rfl) rfl rfl rfl ⟨rfl, rfl, rfl, rfl⟩ rfl) ?_; conv => whnf)
    | (refine VR.pure hTb rfl rfl (o_purN (c3) rfl rfl rfl ⟨rfl, rfl, rfl, rfl⟩ rfl) ?_; conv => whnf)
    | (refine DT.pure hTb rfl (o_purN (c3) rfl rfl rfl ⟨rfl, rfl, rfl, rfl⟩ rfl) ?_; conv => whnf)
    | (refine VR.pure hTb rfl rfl (o_purN (c_l1Num _) rfl rfl rfl ⟨rfl, rfl, rfl, rfl⟩ rfl) ?_; conv => whnf)
    | (refine DT.pure hTb rfl (o_purN (c_l1Num _) rfl rfl rfl ⟨rfl, rfl, rfl, rfl⟩ rfl) ?_; conv => whnf))
  all_goals simp only [beq_iff_eq, beq_eq_false_iff_ne, ne_eq, Bool.and_eq_true, decide_eq_true_eq, Bool.and_eq_false_iff, decide_eq_false_iff_not] at *
  all_goals
    show _ = Slot.agg (encVal (if valOk ⟨k, n, t⟩ = true ∧ (kd = 1 ∨ kd = 2) ∧ k ≠ 0 then (if k = kd then ⟨k, n, t⟩ else if kd = 2 then ⟨2, 0, bl (Lib.itoa n)⟩ else numV t) else ⟨0, 0, ⟨#[]⟩⟩))
    (repeat' split) <;> first
      | rfl
      | (exfalso; simp_all; done)
      | (exfalso; omega)
      | (exfalso; simp_all; omega)
      | (unfold numV; simp_all; done)
      | (simp_all [encVal]; done)
      | (unfold numV; simp_all; split <;> first | rfl | (exfalso; omega))
      | (unfold numV; simp_all; rfl)
end Go.Vl
