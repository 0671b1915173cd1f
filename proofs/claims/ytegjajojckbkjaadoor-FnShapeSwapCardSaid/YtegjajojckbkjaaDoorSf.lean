/- Contracts: a text as a number, as the program reads it. -/
import Derived.Test.YtegjajojckbkjaaDoorSe
namespace Go.Vl
open Go Go.RowKit Go.Proofs
set_option maxRecDepth 100000
set_option linter.unusedSimpArgs false
set_option linter.unusedVariables false
set_option maxHeartbeats 800000

def numV (t : ByteArray) : Val := match numOf t.data.toList with
  | some n => if -999 ≤ n ∧ n ≤ 999 then ⟨1, n, ⟨#[]⟩⟩ else ⟨0, 0, ⟨#[]⟩⟩
  | none => ⟨0, 0, ⟨#[]⟩⟩
theorem numV_yes {t : ByteArray} {n : Int} (h : -999 ≤ n ∧ n ≤ 999) (e : Lib.itoa n = t.data.toList) : numV t = ⟨1, n, ⟨#[]⟩⟩ := by
  unfold numV; rw [← e, (num_of_itoa h.1 h.2).1]; simp only [if_pos h]
theorem numV_no {t : ByteArray} (h : ∀ n, -999 ≤ n → n ≤ 999 → Lib.atoiAll t.data.toList = .ok n → Lib.itoa n ≠ t.data.toList) : numV t = ⟨0, 0, ⟨#[]⟩⟩ := by
  unfold numV
  cases e : numOf t.data.toList with
  | none => rfl
  | some n =>
    simp only
    split
    · rename_i h1
      have e1 := itoa_of_num e
      have e2 := (num_of_itoa h1.1 h1.2).2
      rw [e1] at e2
      exact absurd e1 (h n h1.1 h1.2 e2)
    · rfl
theorem valOk_n (v : Int) : valOk ⟨1, v, ⟨#[]⟩⟩ = (decide (-999 ≤ v) && decide (v ≤ 999)) := by
  simp [valOk, emptyList]
theorem c_numVal (t : ByteArray) (ht : t.size ≤ 281474976710656) : CallsV Tryd.prog 107 [strS t] [] (pureQ (.agg (encVal (numV t)))) := by
  have c1 := c_Atoi t ht
  unfold atoiS at c1
  rcases hat : Lib.atoiAll t.data.toList with v | _ | _
  · rw [hat] at c1
    simp only at c1
    have hv := Lib.atoiAll_bounds hat
    have c2 := c_implValOk ⟨1, v, ⟨#[]⟩⟩ (show (⟨#[]⟩ : ByteArray).size ≤ maxLen by decide)
    rw [valOk_n] at c2
    have c3 := c_Itoa v (by omega) (by omega)
    refine pure_walk hTb Tryd.func107 rfl rfl Tryd.ntmps107 (by simp) ?_
    (conv => whnf); repeat' (first
    | (refine And.intro ?_ ?_ <;> ((try intro h) <;> (try simp only [Bool.not_true, Bool.not_false, decide_eq_true_eq, decide_eq_false_iff_not, Int.not_lt, Int.not_le, gt_iff_lt, ge_iff_le] at h) <;> first | exact absurd h Bool.false_ne_true | exact absurd h.symm Bool.false_ne_true | conv => whnf))
    | (refine VL.drawS hTb hMix (by kernel_rfl) (by kernel_rfl) (by kernel_rfl) ?_; conv => whnf)
    | (refine Need.mk ?_; kernel_rfl) | (refine Need.mk ⟨rfl, ?_⟩; decide)
    | (refine VR.pure hTb rfl rfl (o_purN (c1) rfl rfl rfl ⟨rfl, rfl, rfl, rfl⟩ rfl) ?_; conv => whnf)
    | (refine DT.pure hTb rfl (o_purN (c1) rfl rfl rfl ⟨rfl, rfl, rfl, rfl⟩ rfl) ?_; conv => whnf)
    | (refine VR.op hTb rfl rfl (o_noerr rfl (by kernel_rfl) rfl rfl (.inr ⟨rfl, rfl⟩)) rfl ?_; conv => whnf)
    | (refine VR.pure hTb rfl rfl (o_purN (c2) rfl rfl rfl ⟨rfl, rfl, rfl, rfl⟩ rfl) ?_; conv => whnf)
    | (refine DT.pure hTb rfl (o_purN (c2) rfl rfl rfl ⟨rfl, rfl, rfl, rfl⟩ rfl) ?_; conv => whnf)
    | (refine VR.pure hTb rfl rfl (o_purN (c3) rfl rfl rfl ⟨rfl, rfl, rfl, rfl⟩ rfl) ?_; conv => whnf)
    | (refine DT.pure hTb rfl (o_purN (c3) rfl rfl rfl ⟨rfl, rfl, rfl, rfl⟩ rfl) ?_; conv => whnf))
    all_goals simp only [ByteArray.toList_eq, bl] at *
    · rw [numV_no fun n _ _ e e2 => by rw [hat] at e; cases e; simp_all]; rfl
    · rw [numV_yes (n := v) (by simp_all) (by simp_all)]; rfl
    · rw [numV_no fun n h0 h1 e e2 => by rw [hat] at e; cases e; simp_all]; rfl
  all_goals
    rw [hat] at c1
    simp only at c1
    rw [numV_no (fun n _ _ e => by rw [hat] at e; cases e)]
    refine pure_walk hTb Tryd.func107 rfl rfl Tryd.ntmps107 (by simp) ?_
    (conv => whnf); repeat' (first
    | (refine And.intro ?_ ?_ <;> ((try intro h) <;> (try simp only [Bool.not_true, Bool.not_false, decide_eq_true_eq, decide_eq_false_iff_not, Int.not_lt, Int.not_le, gt_iff_lt, ge_iff_le] at h) <;> first | exact absurd h Bool.false_ne_true | exact absurd h.symm Bool.false_ne_true | conv => whnf))
    | (refine VL.drawS hTb hMix (by kernel_rfl) (by kernel_rfl) (by kernel_rfl) ?_; conv => whnf)
    | (refine Need.mk ?_; kernel_rfl) | (refine Need.mk ⟨rfl, ?_⟩; decide)
    | (refine VR.pure hTb rfl rfl (o_purN (c1) rfl rfl rfl ⟨rfl, rfl, rfl, rfl⟩ rfl) ?_; conv => whnf)
    | (refine DT.pure hTb rfl (o_purN (c1) rfl rfl rfl ⟨rfl, rfl, rfl, rfl⟩ rfl) ?_; conv => whnf)
    | (refine VR.op hTb rfl rfl (o_err rfl (by kernel_rfl) rfl rfl (.inr ⟨rfl, rfl⟩)) rfl ?_; conv => whnf))
    all_goals rfl
end Go.Vl
