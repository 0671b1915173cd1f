/- Laws of values: numbers and their texts. -/
import Derived.Test.YtodknhldemgneaaDoorSl
namespace Go.Vl
open Go Go.RowKit Go.Proofs
set_option maxRecDepth 100000
set_option maxHeartbeats 4000000

theorem i_ValText {k n : Int} {t : ByteArray} {x : ByteArray} (hv : t.size ≤ 8) (h : valText ⟨k, n, t⟩ = x) : CallsV Tryd.prog 13 [.agg (encVal ⟨k, n, t⟩)] [] (pureQ (strS x)) := h ▸ c_implValText k n t (by unfold maxLen; omega)
theorem c_FnValTurn {bs : List Int} (hl : bs.length ≤ maxLen) (hb : ∀ x ∈ bs, 0 ≤ x ∧ x < 256) : CallsV Tryd.prog 7 [bytesI bs] [] (pureQ (bS true)) := by
  refine pure_walk hTb Tryd.func7 rfl rfl Tryd.ntmps7 (by simp) ?_
  (conv => whnf); repeat' (first
    | (refine And.intro ?_ ?_ <;> ((try intro h) <;> (try simp only [Bool.not_true, Bool.not_false, decide_eq_true_eq, decide_eq_false_iff_not, Int.not_lt, Int.not_le, gt_iff_lt, ge_iff_le] at h) <;> first | exact absurd h Bool.false_ne_true | exact absurd h.symm Bool.false_ne_true | conv => whnf))
    | (refine VL.drawS hTb hMix (by kernel_rfl) (by kernel_rfl) (by kernel_rfl) ?_; conv => whnf)
    | (refine Need.mk ?_; kernel_rfl) | (refine Need.mk ⟨rfl, ?_⟩; decide)
    | (refine VR.rel hTb rfl rfl (o_relN (c_DrawValAs hl hb) false [] (fun _ _ => ⟨by simp, fun h => by cases h⟩) rfl rfl rfl rfl rfl ⟨rfl, rfl, rfl, rfl⟩ rfl rfl) ?_; rintro ⟨⟨k, n, t⟩, kd⟩ h1; (try simp only at h1); conv => whnf)
    | (refine DT.rel hTb rfl (o_relN (c_DrawValAs hl hb) false [] (fun _ _ => ⟨by simp, fun h => by cases h⟩) rfl rfl rfl rfl rfl ⟨rfl, rfl, rfl, rfl⟩ rfl rfl) [] (by kernel_rfl) (by kernel_rfl) ?_; rintro ⟨⟨k, n, t⟩, kd⟩ h1; (try simp only at h1); refine And.intro rfl (And.intro rfl ?_); conv => whnf))
  · rfl
  have h1 : t.size ≤ 8 := h1
  have f3 := @turn_nt ⟨k, n, t⟩ kd
  have f4 := @turn_tn ⟨k, n, t⟩ kd
  have f7 := valAs_size ⟨k, n, t⟩ kd
  obtain ⟨⟨x1, x2, x3⟩, hx⟩ : ∃ x, valAs ⟨k, n, t⟩ kd = x := ⟨_, rfl⟩
  obtain ⟨tv, hv⟩ : ∃ x, valText ⟨k, n, t⟩ = x := ⟨_, rfl⟩
  rw [hx] at f3 f4 f7
  rw [hv] at f3
  obtain ⟨tx, hw⟩ : ∃ x, valText ⟨x1, x2, x3⟩ = x := ⟨_, rfl⟩
  rw [hw] at f4
  simp only at f3 f4 f7
  have c1 := i_ValAs (kd := kd) h1 hx
  have c2 := s_ValAs (kd := kd) h1 hx
  have c3 := i_ValAs (kd := kd) (show (⟨#[]⟩ : ByteArray).size ≤ 8 by decide) (valAs_nil kd)
  have c4 := i_ValAs (k := k) (n := n) (kd := 0) h1 (valAs_no (.inr (by omega)))
  have c5 := i_ValAs (k := k) (n := n) (kd := 3) h1 (valAs_no (.inr (by omega)))
  have c6 := i_ValText h1 hv
  have c7 := i_ValText (show x3.size ≤ 8 by omega) hw
  clear hx hv hw
  (conv => whnf); repeat' (first
    | (refine And.intro ?_ ?_ <;> ((try intro h) <;> (try simp only [Bool.not_true, Bool.not_false, decide_eq_true_eq, decide_eq_false_iff_not, Int.not_lt, Int.not_le, gt_iff_lt, ge_iff_le] at h) <;> first | exact absurd h Bool.false_ne_true | exact absurd h.symm Bool.false_ne_true | conv => whnf))
    | (refine VL.drawS hTb hMix (by kernel_rfl) (by kernel_rfl) (by kernel_rfl) ?_; conv => whnf)
    | (refine Need.mk ?_; kernel_rfl) | (refine Need.mk ⟨rfl, ?_⟩; decide)
    | (refine VR.pure hTb rfl rfl (o_purN (c1) rfl rfl rfl ⟨rfl, rfl, rfl, rfl⟩ rfl) ?_; conv => whnf)
    | (refine DT.pure hTb rfl (o_purN (c1) rfl rfl rfl ⟨rfl, rfl, rfl, rfl⟩ rfl) ?_; conv => whnf)
    | (refine VR.pure hTb rfl rfl (o_purN (c2) rfl rfl rfl ⟨rfl, rfl, rfl, rfl⟩ rfl) ?_; conv => whnf)
    | (refine DT.pure hTb rfl (o_purN (c2) rfl rfl rfl ⟨rfl, rfl, rfl, rfl⟩ rfl) ?_; conv => whnf)
    | (refine VR.pure hTb rfl rfl (o_purN (c3) rfl rfl rfl ⟨rfl, rfl, rfl, rfl⟩ rfl) ?_; conv => whnf)
    | (refine DT.pure hTb rfl (o_purN (c3) rfl rfl rfl ⟨rfl, rfl, rfl, rfl⟩ rfl) ?_; conv => whnf)
    | (refine VR.pure hTb rfl rfl (o_purN (c4) rfl rfl rfl ⟨rfl, rfl, rfl, rfl⟩ rfl) ?_; conv => whnf)
    | (refine DT.pure hTb rfl (o_purN (c4) rfl rfl rfl ⟨rfl, rfl, rfl, rfl⟩ rfl) ?_; conv => whnf)
    | (refine VR.pure hTb rfl rfl (o_purN (c5) rfl rfl rfl ⟨rfl, rfl, rfl, rfl⟩ rfl) ?_; conv => whnf)
    | (refine DT.pure hTb rfl (o_purN (c5) rfl rfl rfl ⟨rfl, rfl, rfl, rfl⟩ rfl) ?_; conv => whnf)
    | (refine VR.pure hTb rfl rfl (o_purN (c6) rfl rfl rfl ⟨rfl, rfl, rfl, rfl⟩ rfl) ?_; conv => whnf)
    | (refine DT.pure hTb rfl (o_purN (c6) rfl rfl rfl ⟨rfl, rfl, rfl, rfl⟩ rfl) ?_; conv => whnf)
    | (refine VR.pure hTb rfl rfl (o_purN (c7) rfl rfl rfl ⟨rfl, rfl, rfl, rfl⟩ rfl) ?_; conv => whnf)
    | (refine DT.pure hTb rfl (o_purN (c7) rfl rfl rfl ⟨rfl, rfl, rfl, rfl⟩ rfl) ?_; conv => whnf))
  all_goals clear c1 c2 c3 c4 c5 c6 c7
  all_goals clear hl hb h1
  all_goals first
    | rfl
    | (simp_all [bS]; done)
    | (simp_all [bS]; omega)
    | trace_state
theorem c_FnValNum {bs : List Int} (hl : bs.length ≤ maxLen) (hb : ∀ x ∈ bs, 0 ≤ x ∧ x < 256) : CallsV Tryd.prog 8 [bytesI bs] [] (pureQ (bS true)) := by
  refine pure_walk hTb Tryd.func8 rfl rfl Tryd.ntmps8 (by simp) ?_
  (conv => whnf); repeat' (first
    | (refine And.intro ?_ ?_ <;> ((try intro h) <;> (try simp only [Bool.not_true, Bool.not_false, decide_eq_true_eq, decide_eq_false_iff_not, Int.not_lt, Int.not_le, gt_iff_lt, ge_iff_le] at h) <;> first | exact absurd h Bool.false_ne_true | exact absurd h.symm Bool.false_ne_true | conv => whnf))
    | (refine VL.drawS hTb hMix (by kernel_rfl) (by kernel_rfl) (by kernel_rfl) ?_; conv => whnf)
    | (refine Need.mk ?_; kernel_rfl) | (refine Need.mk ⟨rfl, ?_⟩; decide)
    | (refine VR.rel hTb rfl rfl (o_relN (c_DrawValAs hl hb) false [] (fun _ _ => ⟨by simp, fun h => by cases h⟩) rfl rfl rfl rfl rfl ⟨rfl, rfl, rfl, rfl⟩ rfl rfl) ?_; rintro ⟨⟨k, n, t⟩, kd⟩ h1; (try simp only at h1); conv => whnf)
    | (refine DT.rel hTb rfl (o_relN (c_DrawValAs hl hb) false [] (fun _ _ => ⟨by simp, fun h => by cases h⟩) rfl rfl rfl rfl rfl ⟨rfl, rfl, rfl, rfl⟩ rfl rfl) [] (by kernel_rfl) (by kernel_rfl) ?_; rintro ⟨⟨k, n, t⟩, kd⟩ h1; (try simp only at h1); refine And.intro rfl (And.intro rfl ?_); conv => whnf))
  · rfl
  have h1 : t.size ≤ 8 := h1
  have f1 := @numText_iff ⟨k, n, t⟩
  have f7 := valAs_size ⟨k, n, t⟩ 1
  obtain ⟨⟨x1, x2, x3⟩, hx⟩ : ∃ x, valAs ⟨k, n, t⟩ 1 = x := ⟨_, rfl⟩
  obtain ⟨⟨y1, y2, y3⟩, hy⟩ : ∃ x, valAs ⟨k, n, t⟩ kd = x := ⟨_, rfl⟩
  obtain ⟨⟨z1, z2, z3⟩, hz⟩ : ∃ x, valAs ⟨x1, x2, x3⟩ 2 = x := ⟨_, rfl⟩
  obtain ⟨b, hv⟩ : ∃ x, valOk ⟨k, n, t⟩ = x := ⟨_, rfl⟩
  rw [hx] at f1 f7
  rw [hv] at f1
  simp only at f1 f7
  have c1 := i_ValAs (kd := 1) h1 hx
  have c2 := s_ValAs (kd := 1) h1 hx
  have c3 := i_ValAs (kd := kd) h1 hy
  have c4 := s_ValAs (kd := kd) h1 hy
  have c5 := i_ValAs (kd := 2) (show x3.size ≤ 8 by omega) hz
  have c6 := i_ValOk (v := ⟨k, n, t⟩) h1 hv
  have c7 := c_implValRead t (by omega)
  rcases rdVS_cases t with ⟨r1, r2, r3, e1, e2⟩ | ⟨e1, e2⟩
  · rw [e2] at c7
    rw [e1] at f1
    have f2 : b = true → k = 2 → ((x1 == 1) = (r1 == 1)) ∧ (r1 = 1 → (⟨x1, x2, x3⟩ : Val) = ⟨r1, r2, r3⟩ ∧ (⟨z1, z2, z3⟩ : Val) = ⟨k, n, t⟩) := by
      intro hb0 hk
      obtain ⟨g1, g2⟩ := f1 hb0 hk
      have g5 : x1 = 1 ↔ r1 = 1 := g1.trans ⟨fun ⟨y, hy, hy1⟩ => by cases hy; exact hy1, fun h => ⟨_, rfl, h⟩⟩
      refine ⟨by rw [Bool.eq_iff_iff, beq_iff_eq, beq_iff_eq]; exact g5, fun h => ?_⟩
      obtain ⟨g3, g4⟩ := g2 _ rfl h
      exact ⟨g3, by rw [← hz, g3]; exact g4⟩
    clear f1 hx hy hz hv e1 e2
    cases b <;> (conv => whnf); repeat' (first
    | (refine And.intro ?_ ?_ <;> ((try intro h) <;> (try simp only [Bool.not_true, Bool.not_false, decide_eq_true_eq, decide_eq_false_iff_not, Int.not_lt, Int.not_le, gt_iff_lt, ge_iff_le] at h) <;> first | exact absurd h Bool.false_ne_true | exact absurd h.symm Bool.false_ne_true | conv => whnf))
    | (refine VL.drawS hTb hMix (by kernel_rfl) (by kernel_rfl) (by kernel_rfl) ?_; conv => whnf)
    | (refine Need.mk ?_; kernel_rfl) | (refine Need.mk ⟨rfl, ?_⟩; decide)
    | (refine VR.pure hTb rfl rfl (o_purN (c1) rfl rfl rfl ⟨rfl, rfl, rfl, rfl⟩ rfl) ?_; conv => whnf)
    | (refine DT.pure hTb rfl (o_purN (c1) rfl rfl rfl ⟨rfl, rfl, rfl, rfl⟩ rfl) ?_; conv => whnf)
    | (refine VR.pure hTb rfl rfl (o_purN (c2) rfl rfl rfl ⟨rfl, rfl, rfl, rfl⟩ rfl) ?_; conv => whnf)
    | (refine DT.pure hTb rfl (o_purN (c2) rfl rfl rfl ⟨rfl, rfl, rfl, rfl⟩ rfl) ?_; conv => whnf)
    | (refine VR.pure hTb rfl rfl (o_purN (c3) rfl rfl rfl ⟨rfl, rfl, rfl, rfl⟩ rfl) ?_; conv => whnf)
    | (refine DT.pure hTb rfl (o_purN (c3) rfl rfl rfl ⟨rfl, rfl, rfl, rfl⟩ rfl) ?_; conv => whnf)
    | (refine VR.pure hTb rfl rfl (o_purN (c4) rfl rfl rfl ⟨rfl, rfl, rfl, rfl⟩ rfl) ?_; conv => whnf)
    | (refine DT.pure hTb rfl (o_purN (c4) rfl rfl rfl ⟨rfl, rfl, rfl, rfl⟩ rfl) ?_; conv => whnf)
    | (refine VR.pure hTb rfl rfl (o_purN (c5) rfl rfl rfl ⟨rfl, rfl, rfl, rfl⟩ rfl) ?_; conv => whnf)
    | (refine DT.pure hTb rfl (o_purN (c5) rfl rfl rfl ⟨rfl, rfl, rfl, rfl⟩ rfl) ?_; conv => whnf)
    | (refine VR.pure hTb rfl rfl (o_purN (c6) rfl rfl rfl ⟨rfl, rfl, rfl, rfl⟩ rfl) ?_; conv => whnf)
    | (refine DT.pure hTb rfl (o_purN (c6) rfl rfl rfl ⟨rfl, rfl, rfl, rfl⟩ rfl) ?_; conv => whnf)
    | (refine VR.pure hTb rfl rfl (o_purN (c7) rfl rfl rfl ⟨rfl, rfl, rfl, rfl⟩ rfl) ?_; conv => whnf)
    | (refine DT.pure hTb rfl (o_purN (c7) rfl rfl rfl ⟨rfl, rfl, rfl, rfl⟩ rfl) ?_; conv => whnf))
    all_goals clear c1 c2 c3 c4 c5 c6 c7
    all_goals clear hl hb h1
    all_goals simp only [Val.mk.injEq] at *
    all_goals first
      | rfl
      | (simp_all [bS]; done)
      | (simp_all [bS]; omega)
      | trace_state
  · rw [e2] at c7
    rw [e1] at f1
    have f2 : b = true → k = 2 → ¬ x1 = 1 := by
      intro hb0 hk h
      obtain ⟨g1, g2⟩ := f1 hb0 hk
      obtain ⟨y, hy, _⟩ := g1.1 h
      cases hy
    clear f1 hx hy hz hv e1 e2
    cases b <;> (conv => whnf); repeat' (first
    | (refine And.intro ?_ ?_ <;> ((try intro h) <;> (try simp only [Bool.not_true, Bool.not_false, decide_eq_true_eq, decide_eq_false_iff_not, Int.not_lt, Int.not_le, gt_iff_lt, ge_iff_le] at h) <;> first | exact absurd h Bool.false_ne_true | exact absurd h.symm Bool.false_ne_true | conv => whnf))
    | (refine VL.drawS hTb hMix (by kernel_rfl) (by kernel_rfl) (by kernel_rfl) ?_; conv => whnf)
    | (refine Need.mk ?_; kernel_rfl) | (refine Need.mk ⟨rfl, ?_⟩; decide)
    | (refine VR.pure hTb rfl rfl (o_purN (c1) rfl rfl rfl ⟨rfl, rfl, rfl, rfl⟩ rfl) ?_; conv => whnf)
    | (refine DT.pure hTb rfl (o_purN (c1) rfl rfl rfl ⟨rfl, rfl, rfl, rfl⟩ rfl) ?_; conv => whnf)
    | (refine VR.pure hTb rfl rfl (o_purN (c2) rfl rfl rfl ⟨rfl, rfl, rfl, rfl⟩ rfl) ?_; conv => whnf)
    | (refine DT.pure hTb rfl (o_purN (c2) rfl rfl rfl ⟨rfl, rfl, rfl, rfl⟩ rfl) ?_; conv => whnf)
    | (refine VR.pure hTb rfl rfl (o_purN (c3) rfl rfl rfl ⟨rfl, rfl, rfl, rfl⟩ rfl) ?_; conv => whnf)
    | (refine DT.pure hTb rfl (o_purN (c3) rfl rfl rfl ⟨rfl, rfl, rfl, rfl⟩ rfl) ?_; conv => whnf)
    | (refine VR.pure hTb rfl rfl (o_purN (c4) rfl rfl rfl ⟨rfl, rfl, rfl, rfl⟩ rfl) ?_; conv => whnf)
    | (refine DT.pure hTb rfl (o_purN (c4) rfl rfl rfl ⟨rfl, rfl, rfl, rfl⟩ rfl) ?_; conv => whnf)
    | (refine VR.pure hTb rfl rfl (o_purN (c5) rfl rfl rfl ⟨rfl, rfl, rfl, rfl⟩ rfl) ?_; conv => whnf)
    | (refine DT.pure hTb rfl (o_purN (c5) rfl rfl rfl ⟨rfl, rfl, rfl, rfl⟩ rfl) ?_; conv => whnf)
    | (refine VR.pure hTb rfl rfl (o_purN (c6) rfl rfl rfl ⟨rfl, rfl, rfl, rfl⟩ rfl) ?_; conv => whnf)
    | (refine DT.pure hTb rfl (o_purN (c6) rfl rfl rfl ⟨rfl, rfl, rfl, rfl⟩ rfl) ?_; conv => whnf)
    | (refine VR.pure hTb rfl rfl (o_purN (c7) rfl rfl rfl ⟨rfl, rfl, rfl, rfl⟩ rfl) ?_; conv => whnf)
    | (refine DT.pure hTb rfl (o_purN (c7) rfl rfl rfl ⟨rfl, rfl, rfl, rfl⟩ rfl) ?_; conv => whnf))
    all_goals clear c1 c2 c3 c4 c5 c6 c7
    all_goals clear hl hb h1
    all_goals first
      | rfl
      | (simp_all [bS]; done)
      | (simp_all [bS]; omega)
      | trace_state
theorem val_sz {v : Val} (h : valOk v = true) : v.t.size ≤ 4 := by
  rcases valOk_kind h with e | e | e
  · rw [valOk_nil h e]; decide
  · rw [(valOk_one h e).1]; show (⟨#[]⟩ : ByteArray).size ≤ 4; decide
  · exact valOk_text h e
theorem c_FnVal {bs ds : List Int} (hl : bs.length ≤ maxLen) (hb : ∀ x ∈ bs, 0 ≤ x ∧ x < 256) (hl2 : ds.length ≤ maxLen) (hb2 : ∀ x ∈ ds, 0 ≤ x ∧ x < 256) : CallsV Tryd.prog 9 [bytesI bs, bytesI ds] [] (pureQ (bS true)) := by
  refine pure_walk hTb Tryd.func9 rfl rfl Tryd.ntmps9 (by simp) ?_
  (conv => whnf); repeat' (first
    | (refine And.intro ?_ ?_ <;> ((try intro h) <;> (try simp only [Bool.not_true, Bool.not_false, decide_eq_true_eq, decide_eq_false_iff_not, Int.not_lt, Int.not_le, gt_iff_lt, ge_iff_le] at h) <;> first | exact absurd h Bool.false_ne_true | exact absurd h.symm Bool.false_ne_true | conv => whnf))
    | (refine VL.drawS hTb hMix (by kernel_rfl) (by kernel_rfl) (by kernel_rfl) ?_; conv => whnf)
    | (refine Need.mk ?_; kernel_rfl) | (refine Need.mk ⟨rfl, ?_⟩; decide)
    | (refine VR.rel hTb rfl rfl (o_relN (c_DrawValText hl hb) false [] (fun _ _ => ⟨by simp, fun h => by cases h⟩) rfl rfl rfl rfl rfl ⟨rfl, rfl, rfl, rfl⟩ rfl rfl) ?_; rintro ⟨k, n, t⟩ h1; (try simp only at h1); conv => whnf)
    | (refine DT.rel hTb rfl (o_relN (c_DrawValText hl hb) false [] (fun _ _ => ⟨by simp, fun h => by cases h⟩) rfl rfl rfl rfl rfl ⟨rfl, rfl, rfl, rfl⟩ rfl rfl) [] (by kernel_rfl) (by kernel_rfl) ?_; rintro ⟨k, n, t⟩ h1; (try simp only at h1); refine And.intro rfl (And.intro rfl ?_); conv => whnf))
  all_goals first
    | rfl
    | (cases (show true = false from by assumption); done)
    | skip
  rename_i h1
  have h1 : t.size ≤ 8 := h1
  have f1 := rdV_text ⟨k, n, t⟩
  have f2 := valText_size ⟨k, n, t⟩
  have f3 := fun (t0 : ByteArray) (y : Val) => @rd_iff t0 y ⟨k, n, t⟩
  obtain ⟨s, hs⟩ : ∃ x, valText ⟨k, n, t⟩ = x := ⟨_, rfl⟩
  obtain ⟨b, hv⟩ : ∃ x, valOk ⟨k, n, t⟩ = x := ⟨_, rfl⟩
  rw [hs, hv] at f1
  rw [hs] at f2 f3
  have c1 := i_ValText h1 hs
  have c2 : CallsV Tryd.prog 11 [.agg (encVal ⟨k, n, t⟩)] [] (pureQ (strS s)) := hs ▸ c_specValText k n t (by unfold maxLen; omega)
  have c3 := i_ValOk (v := ⟨k, n, t⟩) h1 hv
  have c4 : CallsV Tryd.prog 22 [.agg (encVal ⟨k, n, t⟩)] [] (pureQ (bS b)) := hv ▸ c_specValOk ⟨k, n, t⟩ (show t.size ≤ maxLen by unfold maxLen; omega)
  have c5 := c_implValRead s (by omega)
  rw [f1] at c5
  clear f1 hs hv
  cases b
  all_goals simp only [Bool.false_eq_true, if_false, if_true] at c5
  all_goals (conv => whnf); repeat' (first
    | (refine And.intro ?_ ?_ <;> ((try intro h) <;> (try simp only [Bool.not_true, Bool.not_false, decide_eq_true_eq, decide_eq_false_iff_not, Int.not_lt, Int.not_le, gt_iff_lt, ge_iff_le] at h) <;> first | exact absurd h Bool.false_ne_true | exact absurd h.symm Bool.false_ne_true | conv => whnf))
    | (refine VL.drawS hTb hMix (by kernel_rfl) (by kernel_rfl) (by kernel_rfl) ?_; conv => whnf)
    | (refine Need.mk ?_; kernel_rfl) | (refine Need.mk ⟨rfl, ?_⟩; decide)
    | (refine VR.pure hTb rfl rfl (o_purN (c1) rfl rfl rfl ⟨rfl, rfl, rfl, rfl⟩ rfl) ?_; conv => whnf)
    | (refine DT.pure hTb rfl (o_purN (c1) rfl rfl rfl ⟨rfl, rfl, rfl, rfl⟩ rfl) ?_; conv => whnf)
    | (refine VR.pure hTb rfl rfl (o_purN (c2) rfl rfl rfl ⟨rfl, rfl, rfl, rfl⟩ rfl) ?_; conv => whnf)
    | (refine DT.pure hTb rfl (o_purN (c2) rfl rfl rfl ⟨rfl, rfl, rfl, rfl⟩ rfl) ?_; conv => whnf)
    | (refine VR.pure hTb rfl rfl (o_purN (c3) rfl rfl rfl ⟨rfl, rfl, rfl, rfl⟩ rfl) ?_; conv => whnf)
    | (refine DT.pure hTb rfl (o_purN (c3) rfl rfl rfl ⟨rfl, rfl, rfl, rfl⟩ rfl) ?_; conv => whnf)
    | (refine VR.pure hTb rfl rfl (o_purN (c4) rfl rfl rfl ⟨rfl, rfl, rfl, rfl⟩ rfl) ?_; conv => whnf)
    | (refine DT.pure hTb rfl (o_purN (c4) rfl rfl rfl ⟨rfl, rfl, rfl, rfl⟩ rfl) ?_; conv => whnf)
    | (refine VR.pure hTb rfl rfl (o_purN (c5) rfl rfl rfl ⟨rfl, rfl, rfl, rfl⟩ rfl) ?_; conv => whnf)
    | (refine DT.pure hTb rfl (o_purN (c5) rfl rfl rfl ⟨rfl, rfl, rfl, rfl⟩ rfl) ?_; conv => whnf)
    | (refine VR.rel hTb rfl rfl (o_relN (c_DrawValRead hl2 hb2) false [] (fun _ _ => ⟨by simp, fun h => by cases h⟩) rfl rfl rfl rfl rfl ⟨rfl, rfl, rfl, rfl⟩ rfl rfl) ?_; rintro u h2; (try simp only at h2); conv => whnf)
    | (refine DT.rel hTb rfl (o_relN (c_DrawValRead hl2 hb2) false [] (fun _ _ => ⟨by simp, fun h => by cases h⟩) rfl rfl rfl rfl rfl ⟨rfl, rfl, rfl, rfl⟩ rfl rfl) [] (by kernel_rfl) (by kernel_rfl) ?_; rintro u h2; (try simp only at h2); refine And.intro rfl (And.intro rfl ?_); conv => whnf))
  all_goals clear c1 c2 c3 c4 c5
  all_goals first
    | rfl
    | (exfalso; simp_all; done)
    | skip
  all_goals rename_i u h2
  all_goals (rcases rdVS_cases u with ⟨r1, r2, r3, e1, e2⟩ | ⟨e1, e2⟩)
  all_goals
    (have d1 := c_implValRead u (by omega)
     have d2 := c_specValRead u (by unfold maxLen; omega)
     rw [e2] at d1 d2)
  all_goals first
    | (have g1 := rdV_ok e1
       have g2 := f3 _ _ e1
       have g3 := val_sz g1.1
       have d3 := i_ValText (show r3.size ≤ 8 by simp only at g3; omega) g1.2
       have d4 := i_ValOk (v := ⟨r1, r2, r3⟩) (show r3.size ≤ 8 by simp only at g3; omega) g1.1
       have g4 : (r1 == k && (r2 == n && (r3.toList == t.toList && true))) = (u.toList == s.toList) := by
         rw [Bool.eq_iff_iff]
         simp only [Bool.and_eq_true, beq_iff_eq, Bool.and_true]
         constructor
         · rintro ⟨rfl, rfl, e⟩
           have := tl_ext e; subst this
           rw [g2.1 rfl]
         · intro e
           have := g2.2 (tl_ext e)
           cases this
           exact ⟨rfl, rfl, rfl⟩
       clear f3 g1 g2 g3 e1 e2 h1 h2 f2
       (conv => whnf); repeat' (first
    | (refine And.intro ?_ ?_ <;> ((try intro h) <;> (try simp only [Bool.not_true, Bool.not_false, decide_eq_true_eq, decide_eq_false_iff_not, Int.not_lt, Int.not_le, gt_iff_lt, ge_iff_le] at h) <;> first | exact absurd h Bool.false_ne_true | exact absurd h.symm Bool.false_ne_true | conv => whnf))
    | (refine VL.drawS hTb hMix (by kernel_rfl) (by kernel_rfl) (by kernel_rfl) ?_; conv => whnf)
    | (refine Need.mk ?_; kernel_rfl) | (refine Need.mk ⟨rfl, ?_⟩; decide)
    | (refine VR.pure hTb rfl rfl (o_purN (d1) rfl rfl rfl ⟨rfl, rfl, rfl, rfl⟩ rfl) ?_; conv => whnf)
    | (refine DT.pure hTb rfl (o_purN (d1) rfl rfl rfl ⟨rfl, rfl, rfl, rfl⟩ rfl) ?_; conv => whnf)
    | (refine VR.pure hTb rfl rfl (o_purN (d2) rfl rfl rfl ⟨rfl, rfl, rfl, rfl⟩ rfl) ?_; conv => whnf)
    | (refine DT.pure hTb rfl (o_purN (d2) rfl rfl rfl ⟨rfl, rfl, rfl, rfl⟩ rfl) ?_; conv => whnf)
    | (refine VR.pure hTb rfl rfl (o_purN (d3) rfl rfl rfl ⟨rfl, rfl, rfl, rfl⟩ rfl) ?_; conv => whnf)
    | (refine DT.pure hTb rfl (o_purN (d3) rfl rfl rfl ⟨rfl, rfl, rfl, rfl⟩ rfl) ?_; conv => whnf)
    | (refine VR.pure hTb rfl rfl (o_purN (d4) rfl rfl rfl ⟨rfl, rfl, rfl, rfl⟩ rfl) ?_; conv => whnf)
    | (refine DT.pure hTb rfl (o_purN (d4) rfl rfl rfl ⟨rfl, rfl, rfl, rfl⟩ rfl) ?_; conv => whnf))
       all_goals clear d1 d2 d3 d4 hl hb hl2 hb2
       all_goals first
         | rfl
         | (simp_all [bS]; done))
    | (clear f3 e1 e2 h1 h2 f2
       (conv => whnf); repeat' (first
    | (refine And.intro ?_ ?_ <;> ((try intro h) <;> (try simp only [Bool.not_true, Bool.not_false, decide_eq_true_eq, decide_eq_false_iff_not, Int.not_lt, Int.not_le, gt_iff_lt, ge_iff_le] at h) <;> first | exact absurd h Bool.false_ne_true | exact absurd h.symm Bool.false_ne_true | conv => whnf))
    | (refine VL.drawS hTb hMix (by kernel_rfl) (by kernel_rfl) (by kernel_rfl) ?_; conv => whnf)
    | (refine Need.mk ?_; kernel_rfl) | (refine Need.mk ⟨rfl, ?_⟩; decide)
    | (refine VR.pure hTb rfl rfl (o_purN (d1) rfl rfl rfl ⟨rfl, rfl, rfl, rfl⟩ rfl) ?_; conv => whnf)
    | (refine DT.pure hTb rfl (o_purN (d1) rfl rfl rfl ⟨rfl, rfl, rfl, rfl⟩ rfl) ?_; conv => whnf)
    | (refine VR.pure hTb rfl rfl (o_purN (d2) rfl rfl rfl ⟨rfl, rfl, rfl, rfl⟩ rfl) ?_; conv => whnf)
    | (refine DT.pure hTb rfl (o_purN (d2) rfl rfl rfl ⟨rfl, rfl, rfl, rfl⟩ rfl) ?_; conv => whnf))
       all_goals clear d1 d2 hl hb hl2 hb2
       all_goals first
         | rfl
         | (simp_all [bS]; done))
end Go.Vl
