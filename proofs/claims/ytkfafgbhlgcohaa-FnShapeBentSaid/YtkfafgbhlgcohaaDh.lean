/- Laws: malformed shapes are refused. -/
import Derived.Test.YtkfafgbhlgcohaaDg
import Derived.Test.YtkfafgbhlgcohaaWi
namespace Go.Vl
open Go Go.RowKit Go.Proofs
set_option maxRecDepth 100000
set_option maxHeartbeats 2000000

theorem q_Val_iff (a b : Val) : q_Val a b = true ↔ a.k = b.k ∧ a.n = b.n ∧ a.t.toList = b.t.toList := by simp [q_Val]
theorem q_Col_iff (a b : Col) : q_Col a b = true ↔ a.name.toList = b.name.toList ∧ a.kind = b.kind ∧ a.need = b.need ∧ a.once = b.once ∧ a.d.k = b.d.k ∧ a.d.n = b.d.n ∧ a.d.t.toList = b.d.t.toList := by
  simp [q_Col, q_Val_iff]
theorem q_Col_comm (a b : Col) : q_Col a b = q_Col b a := by
  rw [Bool.eq_iff_iff, q_Col_iff, q_Col_iff]
  constructor <;> rintro ⟨h1, h2, h3, h4, h5, h6, h7⟩ <;> exact ⟨h1.symm, h2.symm, h3.symm, h4.symm, h5.symm, h6.symm, h7.symm⟩
theorem q_Col_refl (a : Col) : q_Col a a = true := by rw [q_Col_iff]; simp
theorem leq_comm {α : Type} {f : α → α → Bool} (h : ∀ a b, f a b = f b a) : ∀ us bs : List α, leq f us bs = leq f bs us
  | [], [] => rfl
  | [], _ :: _ => rfl
  | _ :: _, [] => rfl
  | a :: us, b :: bs => by rw [leq, leq, h, leq_comm h us bs]
theorem leq_refl {α : Type} {f : α → α → Bool} (h : ∀ a, f a a = true) : ∀ us : List α, leq f us us = true
  | [] => rfl
  | a :: us => by rw [leq, h, leq_refl h us]; rfl

theorem bent_twice (c : Col) (l : List Col) : shapeOk ((c :: l) ++ [c]) = false := by
  cases h : shapeOk ((c :: l) ++ [c]) with
  | false => rfl
  | true =>
    have h1 := (shapeOk_at h 0 (by simp)).1
    have h2 := (shapeOk_at h (l.length + 1) (by simp)).1
    have e1 : ((c :: l) ++ [c])[0]'(by simp) = c := rfl
    have e2 : ((c :: l) ++ [c])[l.length + 1]'(by simp) = c := by simp
    rw [e1] at h1; rw [e2] at h2; rw [h1] at h2; simp at h2; omega
theorem bent_many {l : List Col} (h : 6 ≤ l.length) : shapeOk l = false := by
  cases e : shapeOk l with
  | false => rfl
  | true => have := shapeOk_len e; omega
theorem bent_none : shapeOk [] = false := by
  cases e : shapeOk [] with
  | false => rfl
  | true => have := shapeOk_len e; simp at this
theorem bent_once {c : Col} {l : List Col} (ho : c.once = true) (hk : c.d.k ≠ 0) : shapeOk (c :: l) = false := by
  cases h : shapeOk (c :: l) with
  | false => rfl
  | true =>
    have h1 := (shapeOk_at h 0 (by simp)).2
    simp [colOk, ho, hk] at h1

theorem c_FnShapeBent {bs : List Int} (hl : bs.length ≤ maxLen) (hb : ∀ x ∈ bs, 0 ≤ x ∧ x < 256) : CallsV Try.prog 3 [bytesI bs] [] (pureQ (bS true)) := by
  refine pure_walk hTb Try.func3 rfl rfl Try.ntmps3 (by simp) ?_
  (conv => whnf); repeat' (first
    | (refine And.intro ?_ ?_ <;> ((try intro h) <;> (try simp only [Bool.not_true, Bool.not_false, decide_eq_true_eq, decide_eq_false_iff_not, Int.not_lt, Int.not_le, gt_iff_lt, ge_iff_le] at h) <;> first | exact absurd h Bool.false_ne_true | exact absurd h.symm Bool.false_ne_true | conv => whnf))
    | (refine VL.drawS hTb hMix (by kernel_rfl) (by kernel_rfl) (by kernel_rfl) ?_; conv => whnf)
    | (refine Need.mk ?_; kernel_rfl) | (refine Need.mk ⟨rfl, ?_⟩; decide)
    | (refine VR.rel hTb rfl rfl (o_relN (c_DrawShapeSame hl hb) false [] (fun _ _ => ⟨by simp, fun h => by cases h⟩) rfl rfl rfl rfl rfl ⟨rfl, rfl, rfl, rfl⟩ rfl rfl) ?_; rintro ⟨us, vs⟩ h1; (try simp only at h1); conv => whnf)
    | (refine DT.rel hTb rfl (o_relN (c_DrawShapeSame hl hb) false [] (fun _ _ => ⟨by simp, fun h => by cases h⟩) rfl rfl rfl rfl rfl ⟨rfl, rfl, rfl, rfl⟩ rfl rfl) [] (by kernel_rfl) (by kernel_rfl) ?_; rintro ⟨us, vs⟩ h1; (try simp only at h1); refine And.intro rfl (And.intro rfl ?_); conv => whnf)
    | (refine VR.rel hTb rfl rfl (o_relN (c_DrawShapeOk hl hb) false [] (fun _ _ => ⟨by simp, fun h => by cases h⟩) rfl rfl rfl rfl rfl ⟨rfl, rfl, rfl, rfl⟩ rfl rfl) ?_; rintro s h2; (try simp only at h2); conv => whnf)
    | (refine DT.rel hTb rfl (o_relN (c_DrawShapeOk hl hb) false [] (fun _ _ => ⟨by simp, fun h => by cases h⟩) rfl rfl rfl rfl rfl ⟨rfl, rfl, rfl, rfl⟩ rfl rfl) [] (by kernel_rfl) (by kernel_rfl) ?_; rintro s h2; (try simp only at h2); refine And.intro rfl (And.intro rfl ?_); conv => whnf)
    | (refine VR.rel hTb rfl rfl (o_relN (c_DrawColOk hl hb) false [] (fun _ _ => ⟨by simp, fun h => by cases h⟩) rfl rfl rfl rfl rfl ⟨rfl, rfl, rfl, rfl⟩ rfl rfl) ?_; rintro ⟨cn, ck, d1, d2, ⟨d3, d4, d5⟩⟩ h3; (try simp only at h3); conv => whnf)
    | (refine DT.rel hTb rfl (o_relN (c_DrawColOk hl hb) false [] (fun _ _ => ⟨by simp, fun h => by cases h⟩) rfl rfl rfl rfl rfl ⟨rfl, rfl, rfl, rfl⟩ rfl rfl) [] (by kernel_rfl) (by kernel_rfl) ?_; rintro ⟨cn, ck, d1, d2, ⟨d3, d4, d5⟩⟩ h3; (try simp only at h3); refine And.intro rfl (And.intro rfl ?_); conv => whnf))
  · rfl
  have lm : ∀ {l : List Col}, l.length ≤ 1000 → l.length ≤ maxLen := fun h => by unfold maxLen; omega
  have hok := fun (l : List Col) (h : smlCols l) (hn : l.length ≤ 1000) => c_implShapeOk l (lm hn) h.ok
  have c1 := c_implShapeSame us vs (lm (by omega))
  have c2 := q_ShapeSame us vs (lm (by omega))
  have c3 := c_implShapeSame vs us (lm (by omega))
  have c4 := c_implShapeSame s s (lm (by omega))
  have c5 := hok s h2.1 (by omega)
  have c6 := c_specShapeOk s (lm (by omega)) h2.1.ok
  have c7 := c_implColOk ⟨cn, ck, d1, d2, ⟨d3, d4, d5⟩⟩ h3.ok
  have c8 := c_specColOk ⟨cn, ck, d1, d2, ⟨d3, d4, d5⟩⟩ h3.ok
  have c9 := (c_implShapeOk [] (lm (by simp)) (by simp)).le (args' := [.one (.g (.slice none 0 0))]) ⟨.inr ⟨7, rfl, rfl⟩, trivial⟩
  rw [leq_comm q_Col_comm vs us] at c3
  rw [leq_refl q_Col_refl] at c4
  rw [bent_none] at c9
  obtain ⟨x, hx⟩ : ∃ x, leq q_Col us vs = x := ⟨_, rfl⟩
  obtain ⟨y, hy⟩ : ∃ y, shapeOk s = y := ⟨_, rfl⟩
  obtain ⟨z, hz⟩ : ∃ z, colOk ⟨cn, ck, d1, d2, ⟨d3, d4, d5⟩⟩ = z := ⟨_, rfl⟩
  rw [hx] at c1 c2 c3
  rw [hy] at c5 c6
  rw [hz] at c7 c8
  have hs : y = true → ∃ s0 st, s = s0 :: st := by
    intro e
    rw [e] at hy
    have := shapeOk_len hy
    cases s with
    | nil => simp at this
    | cons a b => exact ⟨a, b, rfl⟩
  cases y
  · cases x <;> cases z <;> (conv => whnf); repeat' (first
    | (refine And.intro ?_ ?_ <;> ((try intro h) <;> (try simp only [Bool.not_true, Bool.not_false, decide_eq_true_eq, decide_eq_false_iff_not, Int.not_lt, Int.not_le, gt_iff_lt, ge_iff_le] at h) <;> first | exact absurd h Bool.false_ne_true | exact absurd h.symm Bool.false_ne_true | conv => whnf))
    | (refine VL.drawS hTb hMix (by kernel_rfl) (by kernel_rfl) (by kernel_rfl) ?_; conv => whnf)
    | (refine Need.mk ?_; kernel_rfl) | (refine Need.mk ⟨rfl, ?_⟩; decide)
    | (refine VR.pure hTb rfl rfl (o_purN (c1) rfl rfl rfl ⟨rfl, rfl, rfl, rfl⟩ rfl) ?_; conv => whnf)
    | (refine DT.pure hTb rfl (o_purN (c1) rfl rfl rfl ⟨rfl, rfl, rfl, rfl⟩ rfl) ?_; conv => whnf)
    | (refine VR.pure hTb rfl rfl (o_purN (c2) rfl rfl rfl ⟨rfl, rfl, rfl, rfl⟩ rfl) ?_; conv => whnf)
    | (refine DT.pure hTb rfl (o_purN (c2) rfl rfl rfl ⟨rfl, rfl, rfl, rfl⟩ rfl) ?_; conv => whnf)
    | (refine VR.pure hTb rfl rfl (o_purN (c3) rfl rfl rfl ⟨rfl, rfl, rfl, rfl⟩ rfl) ?_; conv => whnf)
    | (refine DT.pure hTb rfl (o_purN (c3) rfl rfl rfl ⟨rfl, rfl, rfl, rfl⟩ rfl) ?_; conv => whnf)
    | (refine VR.pure hTb rfl rfl (o_purN (c4) rfl rfl rfl ⟨rfl, rfl, rfl, rfl⟩ rfl) ?_; conv => whnf)
    | (refine DT.pure hTb rfl (o_purN (c4) rfl rfl rfl ⟨rfl, rfl, rfl, rfl⟩ rfl) ?_; conv => whnf)
    | (refine VR.pure hTb rfl rfl (o_purN (c5) rfl rfl rfl ⟨rfl, rfl, rfl, rfl⟩ rfl) ?_; conv => whnf)
    | (refine DT.pure hTb rfl (o_purN (c5) rfl rfl rfl ⟨rfl, rfl, rfl, rfl⟩ rfl) ?_; conv => whnf)
    | (refine VR.pure hTb rfl rfl (o_purN (c6) rfl rfl rfl ⟨rfl, rfl, rfl, rfl⟩ rfl) ?_; conv => whnf)
    | (refine DT.pure hTb rfl (o_purN (c6) rfl rfl rfl ⟨rfl, rfl, rfl, rfl⟩ rfl) ?_; conv => whnf)
    | (refine VR.pure hTb rfl rfl (o_purN (c7) rfl rfl rfl ⟨rfl, rfl, rfl, rfl⟩ rfl) ?_; conv => whnf)
    | (refine DT.pure hTb rfl (o_purN (c7) rfl rfl rfl ⟨rfl, rfl, rfl, rfl⟩ rfl) ?_; conv => whnf)
    | (refine VR.pure hTb rfl rfl (o_purN (c8) rfl rfl rfl ⟨rfl, rfl, rfl, rfl⟩ rfl) ?_; conv => whnf)
    | (refine DT.pure hTb rfl (o_purN (c8) rfl rfl rfl ⟨rfl, rfl, rfl, rfl⟩ rfl) ?_; conv => whnf)
    | (refine VR.pure hTb rfl rfl (o_purN (c9) rfl rfl rfl ⟨rfl, rfl, rfl, rfl⟩ rfl) ?_; conv => whnf)
    | (refine DT.pure hTb rfl (o_purN (c9) rfl rfl rfl ⟨rfl, rfl, rfl, rfl⟩ rfl) ?_; conv => whnf))
    all_goals rfl
  obtain ⟨s0, st, rfl⟩ := hs rfl
  obtain ⟨sn, sk, t1, t2, ⟨t3, t4, t5⟩⟩ := s0
  have hk := colOk_kind (shapeOk_at hy 0 (by simp)).2
  simp only [List.getElem_cons_zero] at hk
  have hs0 := h2.1 _ (List.mem_cons_self)
  have hst : smlCols st := fun c hc => h2.1 c (List.mem_cons_of_mem _ hc)
  have hlen : st.length + 1 ≤ 5 := by have := (shapeOk_len hy).2; simpa using this
  have cX := hok ((⟨sn, sk, t1, t2, ⟨t3, t4, t5⟩⟩ :: st) ++ [⟨sn, sk, t1, t2, ⟨t3, t4, t5⟩⟩]) (h2.1.app hs0) (by simp; omega)
  rw [bent_twice] at cX
  have cZ := hok (⟨sn, sk, t1, true, ⟨sk, 0, ⟨#[]⟩⟩⟩ :: st) (fun c hc => by rcases List.mem_cons.1 hc with rfl | hc; exact ⟨hs0.1, show (⟨#[]⟩ : ByteArray).size ≤ 8 by decide⟩; exact hst c hc) (by simp; omega)
  rw [bent_once rfl (by simp only; omega)] at cZ
  have cS := c_implShapeSame (⟨sn, sk, t1, t2, ⟨t3, t4, t5⟩⟩ :: st) ((⟨sn, sk, t1, t2, ⟨t3, t4, t5⟩⟩ :: st) ++ [⟨sn, sk, t1, t2, ⟨t3, t4, t5⟩⟩]) (lm (by simp; omega))
  rw [leq_len (by simp)] at cS
  have hrow : ((⟨sn, sk, t1, t2, ⟨t3, t4, t5⟩⟩ :: st).map encCol)[(0 : Int).toNat]? = some (encCol ⟨sn, sk, t1, t2, ⟨t3, t4, t5⟩⟩) := rfl
  have hn2 : (⟨sn, sk, t1, t2, ⟨t3, t4, t5⟩⟩ :: st : List Col).length ≤ 5 := by simpa using hlen
  have cY : ∀ l : List Col, smlCols l → l.length ≤ 6 → 5 < l.length → CallsV Try.prog 11 [colsI l] [] (pureQ (bS false)) := fun l h0 h1 h3 => by
    have := hok l h0 (by omega)
    rwa [bent_many (by omega)] at this
  have hr0 : (⟨sn, sk, t1, t2, ⟨t3, t4, t5⟩⟩ :: st : List Col)[0 + (0 : Int).toNat]? = some ⟨sn, sk, t1, t2, ⟨t3, t4, t5⟩⟩ := rfl
  have hr1 : ((⟨sn, sk, t1, t2, ⟨t3, t4, t5⟩⟩ :: st : List Col).set (0 + (0 : Int).toNat) ⟨sn, sk, t1, true, ⟨t3, t4, t5⟩⟩)[0 + (0 : Int).toNat]? = some ⟨sn, sk, t1, true, ⟨t3, t4, t5⟩⟩ := rfl
  cases x <;> cases z <;> (conv => whnf); repeat' (first
    | (refine And.intro ?_ ?_ <;> ((try intro h) <;> (try simp only [Bool.not_true, Bool.not_false, decide_eq_true_eq, decide_eq_false_iff_not, Int.not_lt, Int.not_le, gt_iff_lt, ge_iff_le] at h) <;> first | exact absurd h Bool.false_ne_true | exact absurd h.symm Bool.false_ne_true | conv => whnf))
    | (refine VL.drawS hTb hMix (by kernel_rfl) (by kernel_rfl) (by kernel_rfl) ?_; conv => whnf)
    | (refine Need.mk ?_; kernel_rfl) | (refine Need.mk ⟨rfl, ?_⟩; decide)
    | (refine VR.pure hTb rfl rfl (o_purN (c1) rfl rfl rfl ⟨rfl, rfl, rfl, rfl⟩ rfl) ?_; conv => whnf)
    | (refine DT.pure hTb rfl (o_purN (c1) rfl rfl rfl ⟨rfl, rfl, rfl, rfl⟩ rfl) ?_; conv => whnf)
    | (refine VR.pure hTb rfl rfl (o_purN (c2) rfl rfl rfl ⟨rfl, rfl, rfl, rfl⟩ rfl) ?_; conv => whnf)
    | (refine DT.pure hTb rfl (o_purN (c2) rfl rfl rfl ⟨rfl, rfl, rfl, rfl⟩ rfl) ?_; conv => whnf)
    | (refine VR.pure hTb rfl rfl (o_purN (c3) rfl rfl rfl ⟨rfl, rfl, rfl, rfl⟩ rfl) ?_; conv => whnf)
    | (refine DT.pure hTb rfl (o_purN (c3) rfl rfl rfl ⟨rfl, rfl, rfl, rfl⟩ rfl) ?_; conv => whnf)
    | (refine VR.pure hTb rfl rfl (o_purN (c4) rfl rfl rfl ⟨rfl, rfl, rfl, rfl⟩ rfl) ?_; conv => whnf)
    | (refine DT.pure hTb rfl (o_purN (c4) rfl rfl rfl ⟨rfl, rfl, rfl, rfl⟩ rfl) ?_; conv => whnf)
    | (refine VR.pure hTb rfl rfl (o_purN (c5) rfl rfl rfl ⟨rfl, rfl, rfl, rfl⟩ rfl) ?_; conv => whnf)
    | (refine DT.pure hTb rfl (o_purN (c5) rfl rfl rfl ⟨rfl, rfl, rfl, rfl⟩ rfl) ?_; conv => whnf)
    | (refine VR.pure hTb rfl rfl (o_purN (c6) rfl rfl rfl ⟨rfl, rfl, rfl, rfl⟩ rfl) ?_; conv => whnf)
    | (refine DT.pure hTb rfl (o_purN (c6) rfl rfl rfl ⟨rfl, rfl, rfl, rfl⟩ rfl) ?_; conv => whnf)
    | (refine VR.pure hTb rfl rfl (o_purN (c7) rfl rfl rfl ⟨rfl, rfl, rfl, rfl⟩ rfl) ?_; conv => whnf)
    | (refine DT.pure hTb rfl (o_purN (c7) rfl rfl rfl ⟨rfl, rfl, rfl, rfl⟩ rfl) ?_; conv => whnf)
    | (refine VR.pure hTb rfl rfl (o_purN (c8) rfl rfl rfl ⟨rfl, rfl, rfl, rfl⟩ rfl) ?_; conv => whnf)
    | (refine DT.pure hTb rfl (o_purN (c8) rfl rfl rfl ⟨rfl, rfl, rfl, rfl⟩ rfl) ?_; conv => whnf)
    | (refine VR.pure hTb rfl rfl (o_purN (c9) rfl rfl rfl ⟨rfl, rfl, rfl, rfl⟩ rfl) ?_; conv => whnf)
    | (refine DT.pure hTb rfl (o_purN (c9) rfl rfl rfl ⟨rfl, rfl, rfl, rfl⟩ rfl) ?_; conv => whnf)
    | (refine VR.op hTb rfl rfl (o_index_imm hTb rfl rfl rfl rfl rfl rfl rfl (by omega) (hrow)) rfl ?_; conv => whnf)
    | (refine DT.op hTb rfl (o_index_imm hTb rfl rfl rfl rfl rfl rfl rfl (by omega) (hrow)) rfl ?_; conv => whnf)
    | (refine VR.opk hTb rfl rfl (o_app0 (f := encCol) (m := ((Col.mk sn sk t1 t2 (Val.mk t3 t4 t5)) :: st)) (q := 166) hTb rfl rfl rfl rfl rfl rfl rfl rfl rfl rfl (by omega) (by show _ * 64 ≤ _; omega) (by unfold maxLen; omega)) ?_; conv => whnf)
    | (refine DT.opk hTb rfl (o_app0 (f := encCol) (m := ((Col.mk sn sk t1 t2 (Val.mk t3 t4 t5)) :: st)) (q := 166) hTb rfl rfl rfl rfl rfl rfl rfl rfl rfl rfl (by omega) (by show _ * 64 ≤ _; omega) (by unfold maxLen; omega)) ?_; conv => whnf)
    | (refine VR.opk hTb rfl rfl (o_app1 (q := 171) (a := ⟨_, _, _, _, ⟨_, _, _⟩⟩) hTb rfl rfl rfl rfl rfl rfl rfl rfl rfl rfl rfl rfl (by omega) (by show _ * 64 ≤ _; omega) (by unfold maxLen; omega)) ?_; conv => whnf)
    | (refine DT.opk hTb rfl (o_app1 (q := 171) (a := ⟨_, _, _, _, ⟨_, _, _⟩⟩) hTb rfl rfl rfl rfl rfl rfl rfl rfl rfl rfl rfl rfl (by omega) (by show _ * 64 ≤ _; omega) (by unfold maxLen; omega)) ?_; conv => whnf)
    | (refine VR.opk hTb rfl rfl (o_app0 (f := encCol) (m := ((Col.mk sn sk t1 t2 (Val.mk t3 t4 t5)) :: st)) (q := 174) hTb rfl rfl rfl rfl rfl rfl rfl rfl rfl rfl (by omega) (by show _ * 64 ≤ _; omega) (by unfold maxLen; omega)) ?_; conv => whnf)
    | (refine DT.opk hTb rfl (o_app0 (f := encCol) (m := ((Col.mk sn sk t1 t2 (Val.mk t3 t4 t5)) :: st)) (q := 174) hTb rfl rfl rfl rfl rfl rfl rfl rfl rfl rfl (by omega) (by show _ * 64 ≤ _; omega) (by unfold maxLen; omega)) ?_; conv => whnf))
  all_goals
    (refine VL.loopI hTb (fun l : List Col => smlCols l ∧ l.length ≤ 6) (fun l => ⟨[(5, colsI ((Col.mk sn sk t1 t2 (Val.mk t3 t4 t5)) :: st)), (7, .one (.own 171 0 (((Col.mk sn sk t1 t2 (Val.mk t3 t4 t5)) :: st : List Col).length + 1))), (8, .one (.own 166 0 l.length))], [(171, .arr 30 7 ((((Col.mk sn sk t1 t2 (Val.mk t3 t4 t5)) :: st : List Col) ++ [(Col.mk sn sk t1 t2 (Val.mk t3 t4 t5))]).map encCol)), (166, .arr 30 7 (l.map encCol))], []⟩) (fun l => 6 - l.length) ((Col.mk sn sk t1 t2 (Val.mk t3 t4 t5)) :: st) ⟨h2.1, by omega⟩
      (wk_to [(171, 171), (166, 166)] rfl rfl rfl ⟨rfl, rfl, rfl, trivial⟩ ⟨rfl, ⟨_, rfl, rfl⟩, rfl, ⟨_, rfl, rfl⟩, trivial⟩) (fun l hx => ?_)
     obtain ⟨i1, i2⟩ := hx)
  all_goals
    (conv => whnf); repeat' (first
    | (refine And.intro ?_ ?_ <;> ((try intro h) <;> (try simp only [Bool.not_true, Bool.not_false, decide_eq_true_eq, decide_eq_false_iff_not, Int.not_lt, Int.not_le, gt_iff_lt, ge_iff_le] at h) <;> first | exact absurd h Bool.false_ne_true | exact absurd h.symm Bool.false_ne_true | conv => whnf))
    | (refine VL.drawS hTb hMix (by kernel_rfl) (by kernel_rfl) (by kernel_rfl) ?_; conv => whnf)
    | (refine Need.mk ?_; kernel_rfl) | (refine Need.mk ⟨rfl, ?_⟩; decide)
    | (refine Need.mk ?_; refine ⟨rfl, by omega, ?_⟩; simp only [List.length_cons, List.length_set]; omega)
    | (refine VR.op hTb rfl rfl (o_conv_bytes (ns := [_, _]) hTb rfl rfl rfl rfl rfl rfl rfl rfl rfl (by simp)) rfl ?_; conv => whnf)
    | (refine VR.opk hTb rfl rfl (o_app1 (q := 187) (a := ⟨_, _, _, _, ⟨_, _, _⟩⟩) hTb rfl rfl rfl rfl rfl rfl rfl rfl rfl rfl rfl rfl (by omega) (by show _ * 64 ≤ _; omega) (by unfold maxLen; omega)) ?_; conv => whnf)
    | (refine DT.opk hTb rfl (o_app1 (q := 187) (a := ⟨_, _, _, _, ⟨_, _, _⟩⟩) hTb rfl rfl rfl rfl rfl rfl rfl rfl rfl rfl rfl rfl (by omega) (by show _ * 64 ≤ _; omega) (by unfold maxLen; omega)) ?_; conv => whnf)
    | (refine VR.opk hTb rfl rfl (o_app0 (f := encCol) (m := (Col.mk sn sk t1 t2 (Val.mk t3 t4 t5) :: st)) (q := 190) hTb rfl rfl rfl rfl rfl rfl rfl rfl rfl rfl (by omega) (by show _ * 64 ≤ _; omega) (by unfold maxLen; omega)) ?_; conv => whnf)
    | (refine DT.opk hTb rfl (o_app0 (f := encCol) (m := (Col.mk sn sk t1 t2 (Val.mk t3 t4 t5) :: st)) (q := 190) hTb rfl rfl rfl rfl rfl rfl rfl rfl rfl rfl (by omega) (by show _ * 64 ≤ _; omega) (by unfold maxLen; omega)) ?_; conv => whnf)
    | (refine VR.op hTb rfl rfl (o_storeM hTb rfl rfl rfl rfl rfl (hr0) rfl rfl rfl ⟨rfl, by decide⟩ (c' := ⟨_, _, _, _, ⟨_, _, _⟩⟩) rfl) rfl ?_; conv => whnf)
    | (refine DT.op hTb rfl (o_storeM hTb rfl rfl rfl rfl rfl (hr0) rfl rfl rfl ⟨rfl, by decide⟩ (c' := ⟨_, _, _, _, ⟨_, _, _⟩⟩) rfl) rfl ?_; conv => whnf)
    | (refine VR.op hTb rfl rfl (o_loadM hTb rfl rfl rfl rfl (hr1) ⟨by decide, by decide⟩) rfl ?_; conv => whnf)
    | (refine DT.op hTb rfl (o_loadM hTb rfl rfl rfl rfl (hr1) ⟨by decide, by decide⟩) rfl ?_; conv => whnf)
    | (refine VR.op hTb rfl rfl (o_storeM hTb rfl rfl rfl rfl rfl (hr1) rfl rfl rfl ⟨rfl, by decide⟩ (c' := ⟨_, _, _, _, ⟨_, _, _⟩⟩) rfl) rfl ?_; conv => whnf)
    | (refine DT.op hTb rfl (o_storeM hTb rfl rfl rfl rfl rfl (hr1) rfl rfl rfl ⟨rfl, by decide⟩ (c' := ⟨_, _, _, _, ⟨_, _, _⟩⟩) rfl) rfl ?_; conv => whnf)
    | (refine VR.pure hTb rfl rfl (o_purN (cX) rfl rfl rfl ⟨rfl, rfl, rfl, rfl⟩ (congrArg (fun s => [s]) brw)) ?_; conv => whnf)
    | (refine DT.pure hTb rfl (o_purN (cX) rfl rfl rfl ⟨rfl, rfl, rfl, rfl⟩ (congrArg (fun s => [s]) brw)) ?_; conv => whnf)
    | (refine VR.pure hTb rfl rfl (o_purN (cX) rfl rfl rfl ⟨rfl, rfl, rfl, rfl⟩ (congrArg (fun s => [s]) brw')) ?_; conv => whnf)
    | (refine DT.pure hTb rfl (o_purN (cX) rfl rfl rfl ⟨rfl, rfl, rfl, rfl⟩ (congrArg (fun s => [s]) brw')) ?_; conv => whnf)
    | (refine VR.pure hTb rfl rfl (o_purN (cX) rfl rfl rfl ⟨rfl, rfl, rfl, rfl⟩ (congrArg (fun s => [s]) (brwG (by simp)))) ?_; conv => whnf)
    | (refine DT.pure hTb rfl (o_purN (cX) rfl rfl rfl ⟨rfl, rfl, rfl, rfl⟩ (congrArg (fun s => [s]) (brwG (by simp)))) ?_; conv => whnf)
    | (refine VR.pure hTb rfl rfl (o_purN (cY l i1 i2 (by omega)) rfl rfl rfl ⟨rfl, rfl, rfl, rfl⟩ (congrArg (fun s => [s]) brw)) ?_; conv => whnf)
    | (refine DT.pure hTb rfl (o_purN (cY l i1 i2 (by omega)) rfl rfl rfl ⟨rfl, rfl, rfl, rfl⟩ (congrArg (fun s => [s]) brw)) ?_; conv => whnf)
    | (refine VR.pure hTb rfl rfl (o_purN (cY l i1 i2 (by omega)) rfl rfl rfl ⟨rfl, rfl, rfl, rfl⟩ (congrArg (fun s => [s]) brw')) ?_; conv => whnf)
    | (refine DT.pure hTb rfl (o_purN (cY l i1 i2 (by omega)) rfl rfl rfl ⟨rfl, rfl, rfl, rfl⟩ (congrArg (fun s => [s]) brw')) ?_; conv => whnf)
    | (refine VR.pure hTb rfl rfl (o_purN (cY l i1 i2 (by omega)) rfl rfl rfl ⟨rfl, rfl, rfl, rfl⟩ (congrArg (fun s => [s]) (brwG (by simp)))) ?_; conv => whnf)
    | (refine DT.pure hTb rfl (o_purN (cY l i1 i2 (by omega)) rfl rfl rfl ⟨rfl, rfl, rfl, rfl⟩ (congrArg (fun s => [s]) (brwG (by simp)))) ?_; conv => whnf)
    | (refine VR.pure hTb rfl rfl (o_purN (cZ) rfl rfl rfl ⟨rfl, rfl, rfl, rfl⟩ (congrArg (fun s => [s]) brw)) ?_; conv => whnf)
    | (refine DT.pure hTb rfl (o_purN (cZ) rfl rfl rfl ⟨rfl, rfl, rfl, rfl⟩ (congrArg (fun s => [s]) brw)) ?_; conv => whnf)
    | (refine VR.pure hTb rfl rfl (o_purN (cZ) rfl rfl rfl ⟨rfl, rfl, rfl, rfl⟩ (congrArg (fun s => [s]) brw')) ?_; conv => whnf)
    | (refine DT.pure hTb rfl (o_purN (cZ) rfl rfl rfl ⟨rfl, rfl, rfl, rfl⟩ (congrArg (fun s => [s]) brw')) ?_; conv => whnf)
    | (refine VR.pure hTb rfl rfl (o_purN (cZ) rfl rfl rfl ⟨rfl, rfl, rfl, rfl⟩ (congrArg (fun s => [s]) (brwG (by simp)))) ?_; conv => whnf)
    | (refine DT.pure hTb rfl (o_purN (cZ) rfl rfl rfl ⟨rfl, rfl, rfl, rfl⟩ (congrArg (fun s => [s]) (brwG (by simp)))) ?_; conv => whnf)
    | (refine VR.pure hTb rfl rfl (o_purN (cS) rfl rfl rfl ⟨rfl, rfl, rfl, rfl⟩ (congrArg (fun s => [_, s]) brw)) ?_; conv => whnf)
    | (refine DT.pure hTb rfl (o_purN (cS) rfl rfl rfl ⟨rfl, rfl, rfl, rfl⟩ (congrArg (fun s => [_, s]) brw)) ?_; conv => whnf)
    | (refine VR.pure hTb rfl rfl (o_purN (cS) rfl rfl rfl ⟨rfl, rfl, rfl, rfl⟩ (congrArg (fun s => [_, s]) brw')) ?_; conv => whnf)
    | (refine DT.pure hTb rfl (o_purN (cS) rfl rfl rfl ⟨rfl, rfl, rfl, rfl⟩ (congrArg (fun s => [_, s]) brw')) ?_; conv => whnf)
    | (refine VR.pure hTb rfl rfl (o_purN (cS) rfl rfl rfl ⟨rfl, rfl, rfl, rfl⟩ (congrArg (fun s => [_, s]) (brwG (by simp)))) ?_; conv => whnf)
    | (refine DT.pure hTb rfl (o_purN (cS) rfl rfl rfl ⟨rfl, rfl, rfl, rfl⟩ (congrArg (fun s => [_, s]) (brwG (by simp)))) ?_; conv => whnf))
  all_goals first
    | rfl
    | (refine ⟨l ++ [Col.mk (bsOf [122, IntKind.u8.wrap (IntKind.i64.wrap (97 + (l.length : Int)))]) 1 false false (Val.mk 0 0 ⟨#[]⟩)], ⟨i1.app ⟨?_, ?_⟩, ?_⟩, ?_, wk_to [(171, 171), (187, 166)] rfl rfl rfl ⟨rfl, rfl, congrArg (fun n => Slot.one (.own 166 0 n)) (by simp), trivial⟩ ⟨rfl, ⟨_, rfl, rfl⟩, rfl, ⟨_, rfl, rfl⟩, trivial⟩⟩
       · show (bsOf [_, _]).size ≤ 8; rw [bsOf_size]; simp
       · show (⟨#[]⟩ : ByteArray).size ≤ 8; decide
       · simp; omega
       · simp; omega)
    | trace_state
end Go.Vl
