/- Laws of values: conversions and texts. -/
import Derived.Test.YtodknhldemgneaaDoorSk
namespace Go.Vl
open Go Go.RowKit Go.Proofs
set_option maxRecDepth 100000
set_option maxHeartbeats 4000000

theorem sz4 {n : Nat} (h : n ≤ 4) : n ≤ 281474976710656 := by omega
theorem sz4m {n : Nat} (h : n ≤ 4) : n ≤ maxLen := by unfold maxLen; omega
theorem i_ValAs {k n : Int} {t : ByteArray} {kd : Int} {x : Val} (hv : t.size ≤ 8) (h : valAs ⟨k, n, t⟩ kd = x) : CallsV Tryd.prog 15 [.agg (encVal ⟨k, n, t⟩), iS kd] [] (pureQ (.agg (encVal x))) := h ▸ c_implValAs k n t kd (by omega)
theorem s_ValAs {k n : Int} {t : ByteArray} {kd : Int} {x : Val} (hv : t.size ≤ 8) (h : valAs ⟨k, n, t⟩ kd = x) : CallsV Tryd.prog 14 [.agg (encVal ⟨k, n, t⟩), iS kd] [] (pureQ (.agg (encVal x))) := h ▸ c_specValAs k n t kd (by unfold maxLen; omega)
theorem i_ValOk {v : Val} {x : Bool} (hv : v.t.size ≤ 8) (h : valOk v = x) : CallsV Tryd.prog 20 [.agg (encVal v)] [] (pureQ (bS x)) := h ▸ c_implValOk v (by unfold maxLen; omega)
theorem c_FnValAs {bs : List Int} (hl : bs.length ≤ maxLen) (hb : ∀ x ∈ bs, 0 ≤ x ∧ x < 256) : CallsV Tryd.prog 6 [bytesI bs] [] (pureQ (bS true)) := by
  refine pure_walk hTb Tryd.func6 rfl rfl Tryd.ntmps6 (by simp) ?_
  (conv => whnf); repeat' (first
    | (refine And.intro ?_ ?_ <;> ((try intro h) <;> (try simp only [Bool.not_true, Bool.not_false, decide_eq_true_eq, decide_eq_false_iff_not, Int.not_lt, Int.not_le, gt_iff_lt, ge_iff_le] at h) <;> first | exact absurd h Bool.false_ne_true | exact absurd h.symm Bool.false_ne_true | conv => whnf))
    | (refine VL.drawS hTb hMix (by kernel_rfl) (by kernel_rfl) (by kernel_rfl) ?_; conv => whnf)
    | (refine Need.mk ?_; kernel_rfl) | (refine Need.mk ⟨rfl, ?_⟩; decide)
    | (refine VR.rel hTb rfl rfl (o_relN (c_DrawValAs hl hb) false [] (fun _ _ => ⟨by simp, fun h => by cases h⟩) rfl rfl rfl rfl rfl ⟨rfl, rfl, rfl, rfl⟩ rfl rfl) ?_; rintro ⟨⟨k, n, t⟩, kd⟩ h1; (try simp only at h1); conv => whnf)
    | (refine DT.rel hTb rfl (o_relN (c_DrawValAs hl hb) false [] (fun _ _ => ⟨by simp, fun h => by cases h⟩) rfl rfl rfl rfl rfl ⟨rfl, rfl, rfl, rfl⟩ rfl rfl) [] (by kernel_rfl) (by kernel_rfl) ?_; rintro ⟨⟨k, n, t⟩, kd⟩ h1; (try simp only at h1); refine And.intro rfl (And.intro rfl ?_); conv => whnf))
  · rfl
  have h1 : t.size ≤ 8 := h1
  have f1 := valAs_ok ⟨k, n, t⟩ kd
  have f2 := valAs_twice ⟨k, n, t⟩ kd
  have f3 := valAs_kind ⟨k, n, t⟩ kd
  have f4 := @valAs_no ⟨k, n, t⟩ kd
  have f5 := @valAs_same ⟨k, n, t⟩ kd
  have f6 := @valAs_ntn ⟨k, n, t⟩
  have f7 := valAs_size ⟨k, n, t⟩ kd
  have f8 := valAs_size ⟨k, n, t⟩ 2
  obtain ⟨⟨x1, x2, x3⟩, hx⟩ : ∃ x, valAs ⟨k, n, t⟩ kd = x := ⟨_, rfl⟩
  obtain ⟨⟨y1, y2, y3⟩, hy⟩ : ∃ x, valAs ⟨k, n, t⟩ 2 = x := ⟨_, rfl⟩
  obtain ⟨⟨z1, z2, z3⟩, hz⟩ : ∃ x, valAs ⟨y1, y2, y3⟩ 1 = x := ⟨_, rfl⟩
  obtain ⟨b, hv⟩ : ∃ x, valOk ⟨k, n, t⟩ = x := ⟨_, rfl⟩
  rw [hx] at f1 f2 f3 f4 f5 f7
  rw [hy, hz] at f6
  rw [hy] at f8
  rw [hv] at f4 f5 f6
  simp only at f3 f5 f6 f7 f8
  have c1 := i_ValAs (kd := kd) h1 hx
  have c2 := s_ValAs (kd := kd) h1 hx
  have c3 := i_ValOk (v := ⟨x1, x2, x3⟩) (by simp only; omega) f1
  have c4 := i_ValOk (v := ⟨k, n, t⟩) h1 hv
  have c5 := i_ValAs (kd := 2) h1 hy
  have c6 := i_ValAs (kd := 1) (by omega) hz
  have c7 := i_ValAs (kd := kd) (show x3.size ≤ 8 by omega) f2
  clear hx hy hz hv f1 f2
  cases b <;> (conv => whnf); repeat' (first
    | (refine And.intro ?_ ?_ <;> ((try intro h) <;> (try simp only [Bool.not_true, Bool.not_false, decide_eq_true_eq, decide_eq_false_iff_not, Int.not_lt, Int.not_le, gt_iff_lt, ge_iff_le] at h) <;> first | exact absurd h Bool.false_ne_true | exact absurd h.symm Bool.false_ne_true | conv => whnf))
    | (refine VL.drawS hTb hMix (by kernel_rfl) (by kernel_rfl) (by kernel_rfl) ?_; conv => whnf)
    | (refine Need.mk ?_; kernel_rfl) | (refine Need.mk ⟨rfl, ?_⟩; decide)
    | (refine VR.pure hTb rfl rfl (o_purN (c1) rfl rfl rfl ⟨rfl, rfl, rfl, rfl⟩ rfl) ?_; conv => whnf)
    | (refine DT.pure hTb rfl (o_purN (c1) rfl rfl rfl ⟨rfl, rfl, rfl, rfl⟩ rfl) ?_; conv => whnf)
    | (refine VR.pure hTb rfl rfl (o_purN (c2) rfl rfl rfl ⟨rfl, rfl, rfl, rfl⟩ rfl) ?_; conv => whnf)
    | (refine DT.pure hTb rfl (o_purN (c2) rfl rfl rfl ⟨rfl, rfl, rfl, rfl⟩ rfl) ?_; conv => whnf)
    | (refine VR.pure hTb rfl rfl (o_purN (c3) rfl rfl rfl ⟨rfl, rfl, rfl, rfl⟩ rfl) ?_; conv => whnf)
    | (refine DT.pure hTb rfl (o_purN (c3) rfl rfl rfl ⟨rfl, rfl, rfl, rfl⟩ rfl) ?_; conv => whnf)
    | (refine VR.pure hTb rfl rfl (o_purN (c4) rfl rfl rfl ⟨rfl, rfl, rfl, rfl⟩ rfl) ?_; conv => whnf)
    | (refine DT.pure hTb rfl (o_purN (c4) rfl rfl rfl ⟨rfl, rfl, rfl, rfl⟩ rfl) ?_; conv => whnf)
    | (refine VR.pure hTb rfl rfl (o_purN (c5) rfl rfl rfl ⟨rfl, rfl, rfl, rfl⟩ rfl) ?_; conv => whnf)
    | (refine DT.pure hTb rfl (o_purN (c5) rfl rfl rfl ⟨rfl, rfl, rfl, rfl⟩ rfl) ?_; conv => whnf)
    | (refine VR.pure hTb rfl rfl (o_purN (c6) rfl rfl rfl ⟨rfl, rfl, rfl, rfl⟩ rfl) ?_; conv => whnf)
    | (refine DT.pure hTb rfl (o_purN (c6) rfl rfl rfl ⟨rfl, rfl, rfl, rfl⟩ rfl) ?_; conv => whnf)
    | (refine VR.pure hTb rfl rfl (o_purN (c7) rfl rfl rfl ⟨rfl, rfl, rfl, rfl⟩ rfl) ?_; conv => whnf)
    | (refine DT.pure hTb rfl (o_purN (c7) rfl rfl rfl ⟨rfl, rfl, rfl, rfl⟩ rfl) ?_; conv => whnf))
  all_goals clear c1 c2 c3 c4 c5 c6 c7
  all_goals clear hl hb h1
  all_goals simp only [Val.mk.injEq] at *
  all_goals first
    | rfl
    | (simp_all [bS]; done)
    | (simp_all [bS]; omega)
    | trace_state
end Go.Vl
