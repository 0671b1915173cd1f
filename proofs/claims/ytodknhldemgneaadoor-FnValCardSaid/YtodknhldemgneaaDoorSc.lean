/- Contracts: a value's text. -/
import Derived.Test.YtodknhldemgneaaDoorSb
namespace Go.Vl
open Go Go.RowKit Go.Proofs
set_option maxRecDepth 100000
set_option maxHeartbeats 800000

def valText (v : Val) : ByteArray := if valOk v then (if v.k = 1 then bl (Lib.itoa v.n) else if v.k = 2 then ⟨#[39]⟩ ++ v.t ++ ⟨#[39]⟩ else ⟨#[110, 111, 110, 101]⟩) else ⟨#[]⟩
theorem valOk_num {v : Val} (h : valOk v = true) (hk : v.k = 1) : -999 ≤ v.n ∧ v.n ≤ 999 := by
  simp [valOk, hk] at h; omega
theorem valOk_text {v : Val} (h : valOk v = true) (hk : v.k = 2) : v.t.size ≤ 4 := by
  simp [valOk, hk, textOk] at h; omega
theorem valOk_kind {v : Val} (h : valOk v = true) : v.k = 0 ∨ v.k = 1 ∨ v.k = 2 := by
  unfold valOk at h; split at h; exact .inl ‹_›; split at h; exact .inr (.inl ‹_›); split at h; exact .inr (.inr ‹_›); cases h
theorem c_implValText (k n : Int) (t : ByteArray) (hv : t.size ≤ maxLen) : CallsV Tryd.prog 13 [.agg (encVal ⟨k, n, t⟩)] [] (pureQ (strS (valText ⟨k, n, t⟩))) := by
  have c1 := c_implValOk ⟨k, n, t⟩ hv
  obtain ⟨b, hb⟩ : ∃ b, valOk ⟨k, n, t⟩ = b := ⟨_, rfl⟩
  rw [hb] at c1
  have c2 : b = true → (k == 1) = true → CallsV Tryd.prog 25 [iS n] [] (pureQ (strS (bl (Lib.itoa n)))) := fun e hk => by
    have : -999 ≤ n ∧ n ≤ 999 := valOk_num (hb.trans e) (by simpa using hk)
    exact c_Itoa n (by omega) (by omega)
  have h2 : b = true → k = 2 → t.size ≤ 4 := fun e hk => valOk_text (hb.trans e) hk
  refine pure_walk hTb Tryd.func13 rfl rfl Tryd.ntmps13 (by simp) ?_
  cases b <;> (conv => whnf); repeat' (first
    | (refine And.intro ?_ ?_ <;> ((try intro h) <;> (try simp only [Bool.not_true, Bool.not_false, decide_eq_true_eq, decide_eq_false_iff_not, Int.not_lt, Int.not_le, gt_iff_lt, ge_iff_le] at h) <;> first | exact absurd h Bool.false_ne_true | exact absurd h.symm Bool.false_ne_true | conv => whnf))
    | (refine VL.drawS hTb hMix (by kernel_rfl) (by kernel_rfl) (by kernel_rfl) ?_; conv => whnf)
    | (refine Need.mk ?_; kernel_rfl) | (refine Need.mk ⟨rfl, ?_⟩; decide)
    | (refine VR.pure hTb rfl rfl (o_purN (c1) rfl rfl rfl ⟨rfl, rfl, rfl, rfl⟩ rfl) ?_; conv => whnf)
    | (refine DT.pure hTb rfl (o_purN (c1) rfl rfl rfl ⟨rfl, rfl, rfl, rfl⟩ rfl) ?_; conv => whnf)
    | (refine VR.pure hTb rfl rfl (o_purN (c2 rfl (by assumption)) rfl rfl rfl ⟨rfl, rfl, rfl, rfl⟩ rfl) ?_; conv => whnf)
    | (refine DT.pure hTb rfl (o_purN (c2 rfl (by assumption)) rfl rfl rfl ⟨rfl, rfl, rfl, rfl⟩ rfl) ?_; conv => whnf))
  all_goals first
    | (refine Need.mk ?_; have h4 := h2 rfl (by simp_all <;> omega); have e : (⟨#[39]⟩ : ByteArray).size = 1 := rfl; simp only [ByteArray.size_append, e]; omega)
    | (simp_all [valText, strS]; done)
    | (exfalso; have := h3 rfl; simp_all; omega)
    | trace_state
theorem c_specValText (k n : Int) (t : ByteArray) (hv : t.size ≤ maxLen) : CallsV Tryd.prog 11 [.agg (encVal ⟨k, n, t⟩)] [] (pureQ (strS (valText ⟨k, n, t⟩))) := by
  have c1 := c_specValOk ⟨k, n, t⟩ hv
  obtain ⟨b, hb⟩ : ∃ b, valOk ⟨k, n, t⟩ = b := ⟨_, rfl⟩
  rw [hb] at c1
  have h2 : b = true → k = 2 → t.size ≤ 4 := fun e hk => valOk_text (hb.trans e) hk
  have h1 : b = true → k = 1 → -999 ≤ n ∧ n ≤ 999 := fun e hk => valOk_num (hb.trans e) hk
  have h3 : b = true → k = 0 ∨ k = 1 ∨ k = 2 := fun e => valOk_kind (hb.trans e)
  have c2 : b = true → (k == 1) = true → CallsV Tryd.prog 24 [iS n] [] (pureQ (strS (bl (Lib.itoa n)))) := fun e hk => by
    have := h1 e (by simpa using hk)
    exact c_l10Dec n (by omega) (by omega)
  refine pure_walk hTb Tryd.func11 rfl rfl Tryd.ntmps11 (by simp) ?_
  cases b <;> (conv => whnf); repeat' (first
    | (refine And.intro ?_ ?_ <;> ((try intro h) <;> (try simp only [Bool.not_true, Bool.not_false, decide_eq_true_eq, decide_eq_false_iff_not, Int.not_lt, Int.not_le, gt_iff_lt, ge_iff_le] at h) <;> first | exact absurd h Bool.false_ne_true | exact absurd h.symm Bool.false_ne_true | conv => whnf))
    | (refine VL.drawS hTb hMix (by kernel_rfl) (by kernel_rfl) (by kernel_rfl) ?_; conv => whnf)
    | (refine Need.mk ?_; kernel_rfl) | (refine Need.mk ⟨rfl, ?_⟩; decide)
    | (refine VR.pure hTb rfl rfl (o_purN (c1) rfl rfl rfl ⟨rfl, rfl, rfl, rfl⟩ rfl) ?_; conv => whnf)
    | (refine DT.pure hTb rfl (o_purN (c1) rfl rfl rfl ⟨rfl, rfl, rfl, rfl⟩ rfl) ?_; conv => whnf)
    | (refine VR.pure hTb rfl rfl (o_purN (c2 rfl (by assumption)) rfl rfl rfl ⟨rfl, rfl, rfl, rfl⟩ rfl) ?_; conv => whnf)
    | (refine DT.pure hTb rfl (o_purN (c2 rfl (by assumption)) rfl rfl rfl ⟨rfl, rfl, rfl, rfl⟩ rfl) ?_; conv => whnf))
  all_goals first
    | (refine Need.mk ?_; have h4 := h2 rfl (by simp_all <;> omega); have e : (⟨#[39]⟩ : ByteArray).size = 1 := rfl; simp only [ByteArray.size_append, e]; omega)
    | (simp_all [valText, strS]; done)
    | (exfalso; have := h3 rfl; simp_all; omega)
    | trace_state
theorem c_FnExactValText (k n : Int) (t : ByteArray) (hv : t.size ≤ maxLen) : CallsV Tryd.prog 3 [.agg (encVal ⟨k, n, t⟩)] [] (pureQ (bS true)) := by
  refine pure_walk hTb Tryd.func3 rfl rfl Tryd.ntmps3 (by simp) ?_
  (conv => whnf); repeat' (first
    | (refine And.intro ?_ ?_ <;> ((try intro h) <;> (try simp only [Bool.not_true, Bool.not_false, decide_eq_true_eq, decide_eq_false_iff_not, Int.not_lt, Int.not_le, gt_iff_lt, ge_iff_le] at h) <;> first | exact absurd h Bool.false_ne_true | exact absurd h.symm Bool.false_ne_true | conv => whnf))
    | (refine VL.drawS hTb hMix (by kernel_rfl) (by kernel_rfl) (by kernel_rfl) ?_; conv => whnf)
    | (refine Need.mk ?_; kernel_rfl) | (refine Need.mk ⟨rfl, ?_⟩; decide)
    | (refine VR.pure hTb rfl rfl (o_purN (c_szVal ⟨k, n, t⟩ _) rfl rfl rfl ⟨rfl, rfl, rfl, rfl⟩ rfl) ?_; conv => whnf)
    | (refine DT.pure hTb rfl (o_purN (c_szVal ⟨k, n, t⟩ _) rfl rfl rfl ⟨rfl, rfl, rfl, rfl⟩ rfl) ?_; conv => whnf)
    | (refine VR.pure hTb rfl rfl (o_purN (c_toVal ⟨k, n, t⟩) rfl rfl rfl ⟨rfl, rfl, rfl, rfl⟩ rfl) ?_; conv => whnf)
    | (refine DT.pure hTb rfl (o_purN (c_toVal ⟨k, n, t⟩) rfl rfl rfl ⟨rfl, rfl, rfl, rfl⟩ rfl) ?_; conv => whnf)
    | (refine VR.pure hTb rfl rfl (o_purN (c_specValText k n t hv) rfl rfl rfl ⟨rfl, rfl, rfl, rfl⟩ rfl) ?_; conv => whnf)
    | (refine DT.pure hTb rfl (o_purN (c_specValText k n t hv) rfl rfl rfl ⟨rfl, rfl, rfl, rfl⟩ rfl) ?_; conv => whnf)
    | (refine VR.pure hTb rfl rfl (o_purN (c_implValText k n t hv) rfl rfl rfl ⟨rfl, rfl, rfl, rfl⟩ rfl) ?_; conv => whnf)
    | (refine DT.pure hTb rfl (o_purN (c_implValText k n t hv) rfl rfl rfl ⟨rfl, rfl, rfl, rfl⟩ rfl) ?_; conv => whnf))
  all_goals first
    | rfl
    | (exfalso; simp_all; done)
    | trace_state
end Go.Vl
