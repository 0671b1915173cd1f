/- Contracts: whether a table is right, of both (2). Contracts: whether a table is right, of the program. Contracts: how great things are. Printed by our own gends.py. -/
import Derived.Test.YtdijjjgplhbkkaaGreatDoorJDg
import Derived.Test.YtdijjjgplhbkkaaGreatDoorJDa
import Derived.Test.YtdijjjgplhbkkaaGreatDoorWi
set_option linter.unusedSimpArgs false
set_option linter.unusedVariables false

namespace Go.Vl
open Go Go.RowKit Go.Proofs
set_option maxRecDepth 100000
set_option linter.unusedSimpArgs false
set_option linter.unusedVariables false
set_option maxHeartbeats 8000000

theorem tabOk_sh {t : VTable} (h : (shAll t.first t.changes).2 = false) : tabOk t = false := by unfold tabOk; rw [h]; rfl
theorem tabOk_c8 {t : VTable} (h : ¬ t.changes.length ≤ 8) : tabOk t = false := by unfold tabOk; rw [decide_eq_false h]; simp
theorem tabOk_r8 {t : VTable} (h : ¬ t.rows.length ≤ 8) : tabOk t = false := by unfold tabOk; rw [decide_eq_false h]; simp
theorem tabOk_nx {t : VTable} (h : ¬ (1 ≤ t.next ∧ t.next ≤ 60)) : tabOk t = false := by unfold tabOk; rw [decide_eq_false h]; simp
theorem tabOk_st {t : VTable} (h : stGo t 0 t.rows = false) : tabOk t = false := by unfold tabOk; rw [h]; simp
theorem tabOk_yes {t : VTable} (h0 : (shAll t.first t.changes).2 = true) (h1 : t.changes.length ≤ 8) (h2 : t.rows.length ≤ 8) (h3 : 1 ≤ t.next ∧ t.next ≤ 60) (h4 : stGo t 0 t.rows = true) : tabOk t = onceB (tL t) (t.rows.map (tNow t)) := by
  unfold tabOk; rw [h0, decide_eq_true h1, decide_eq_true h2, decide_eq_true h3, h4]; rfl
theorem getD_map {t : VTable} {i : Nat} (h : i < (t.rows.map (tNow t)).length) : (t.rows.map (tNow t)).getD i [] = tNow t (t.rows[i]'(by simpa using h)) := by
  have h2 : i < t.rows.length := by simpa using h
  simp [h2]

theorem c_specTableOk (t : VTable) (ht : t.md) : CallsV Tryz.prog 18 [.agg (encVTable t)] [] (pureQ (bS (tabOk t))) := by
  have hfc := ht.fc
  have hrl := ht.r
  have cA := (c_specShapeAll t.first t.changes (by omega) ht.fm ht.cm).pure (pureSh _)
  have cS := c_l3Stored t ht
  have cL := c_l3Last t ht
  have hml : ((t.changes.map encChange).length : Int) = t.changes.length := by simp
  have hmr : ((t.rows.map encVRow).length : Int) = t.rows.length := by simp
  have hLl := tL_len t
  obtain ⟨b, hb⟩ : ∃ b, stGo t 0 t.rows = b := ⟨_, rfl⟩
  obtain ⟨a, ha⟩ : ∃ a, (shAll t.first t.changes).2 = a := ⟨_, rfl⟩
  have hsh : shAll t.first t.changes = (tL t, a) := by unfold tL; rw [← ha]
  rw [hsh] at cA
  rw [hb] at cS
  refine pure_walk hTb Tryz.func18 rfl rfl Tryz.ntmps18 (by simp) ?_
  cases a with
  | false =>
    cases b <;> (conv => whnf); repeat' (first
    | (refine And.intro ?_ ?_ <;> ((try intro h) <;> (try simp only [Bool.not_true, Bool.not_false, decide_eq_true_eq, decide_eq_false_iff_not, Int.not_lt, Int.not_le, gt_iff_lt, ge_iff_le] at h) <;> first | exact absurd h Bool.false_ne_true | exact absurd h.symm Bool.false_ne_true | conv => whnf))
    | (refine VL.drawS hTb hMix (by kernel_rfl) (by kernel_rfl) (by kernel_rfl) ?_; conv => whnf)
    | (refine Need.mk ?_; kernel_rfl) | (refine Need.mk ⟨rfl, ?_⟩; decide)
    | (refine VR.pure hTb rfl rfl (o_purF (cA) rfl rfl rfl ⟨rfl, rfl, rfl, rfl⟩ rfl) ?_; conv => whnf)
    | (refine DT.pure hTb rfl (o_purF (cA) rfl rfl rfl ⟨rfl, rfl, rfl, rfl⟩ rfl) ?_; conv => whnf))
    all_goals exact congrArg bS (tabOk_sh ha).symm
  | true =>
    cases b with
    | false =>
      (conv => whnf); repeat' (first
    | (refine And.intro ?_ ?_ <;> ((try intro h) <;> (try simp only [Bool.not_true, Bool.not_false, decide_eq_true_eq, decide_eq_false_iff_not, Int.not_lt, Int.not_le, gt_iff_lt, ge_iff_le] at h) <;> first | exact absurd h Bool.false_ne_true | exact absurd h.symm Bool.false_ne_true | conv => whnf))
    | (refine VL.drawS hTb hMix (by kernel_rfl) (by kernel_rfl) (by kernel_rfl) ?_; conv => whnf)
    | (refine Need.mk ?_; kernel_rfl) | (refine Need.mk ⟨rfl, ?_⟩; decide)
    | (refine VR.pure hTb rfl rfl (o_purF (cA) rfl rfl rfl ⟨rfl, rfl, rfl, rfl⟩ rfl) ?_; conv => whnf)
    | (refine DT.pure hTb rfl (o_purF (cA) rfl rfl rfl ⟨rfl, rfl, rfl, rfl⟩ rfl) ?_; conv => whnf)
    | (refine VR.pure hTb rfl rfl (o_purN (cS) rfl rfl rfl ⟨rfl, rfl, rfl, rfl⟩ rfl) ?_; conv => whnf)
    | (refine DT.pure hTb rfl (o_purN (cS) rfl rfl rfl ⟨rfl, rfl, rfl, rfl⟩ rfl) ?_; conv => whnf))
      all_goals refine congrArg bS ?_
      all_goals rw [tabOk_st hb]
    | true =>
      have hat := stGo_at hb
      have cAll := c_l3All t ht fun r hr => by
        obtain ⟨i, hi, rfl⟩ := List.getElem_of_mem hr
        exact (hat i hi).2.2.1
      have hN : ∀ i, i < (t.rows.map (tNow t)).length → ((t.rows.map (tNow t)).getD i []).length = (tL t).length := by
        intro i hi
        have h2 : i < t.rows.length := by simpa using hi
        rw [getD_map hi]
        have h3 := (hat i h2).2.2.2.1
        unfold rowSt at h3
        rw [Bool.and_eq_true] at h3
        exact (tNow_go ha (rowOk_len h3.1)).2
      have cT := c_l3Twice (tL t) (t.rows.map (tNow t)) (by omega) (by simp; omega) hN
      (conv => whnf); repeat' (first
    | (refine And.intro ?_ ?_ <;> ((try intro h) <;> (try simp only [Bool.not_true, Bool.not_false, decide_eq_true_eq, decide_eq_false_iff_not, Int.not_lt, Int.not_le, gt_iff_lt, ge_iff_le] at h) <;> first | exact absurd h Bool.false_ne_true | exact absurd h.symm Bool.false_ne_true | conv => whnf))
    | (refine VL.drawS hTb hMix (by kernel_rfl) (by kernel_rfl) (by kernel_rfl) ?_; conv => whnf)
    | (refine Need.mk ?_; kernel_rfl) | (refine Need.mk ⟨rfl, ?_⟩; decide)
    | (refine VR.pure hTb rfl rfl (o_purF (cA) rfl rfl rfl ⟨rfl, rfl, rfl, rfl⟩ rfl) ?_; conv => whnf)
    | (refine DT.pure hTb rfl (o_purF (cA) rfl rfl rfl ⟨rfl, rfl, rfl, rfl⟩ rfl) ?_; conv => whnf)
    | (refine VR.pure hTb rfl rfl (o_purN (cS) rfl rfl rfl ⟨rfl, rfl, rfl, rfl⟩ rfl) ?_; conv => whnf)
    | (refine DT.pure hTb rfl (o_purN (cS) rfl rfl rfl ⟨rfl, rfl, rfl, rfl⟩ rfl) ?_; conv => whnf)
    | (refine VR.pure hTb rfl rfl (o_purF (cL) rfl rfl rfl ⟨rfl, rfl, rfl, rfl⟩ rfl) ?_; conv => whnf)
    | (refine DT.pure hTb rfl (o_purF (cL) rfl rfl rfl ⟨rfl, rfl, rfl, rfl⟩ rfl) ?_; conv => whnf)
    | (refine VR.pure hTb rfl rfl (o_purF (cAll) rfl rfl rfl ⟨rfl, rfl, rfl, rfl⟩ rfl) ?_; conv => whnf)
    | (refine DT.pure hTb rfl (o_purF (cAll) rfl rfl rfl ⟨rfl, rfl, rfl, rfl⟩ rfl) ?_; conv => whnf)
    | (refine VR.pure hTb rfl rfl (o_purN (cT) rfl rfl rfl ⟨rfl, rfl, rfl, rfl⟩ rfl) ?_; conv => whnf)
    | (refine DT.pure hTb rfl (o_purN (cT) rfl rfl rfl ⟨rfl, rfl, rfl, rfl⟩ rfl) ?_; conv => whnf))
      all_goals refine congrArg bS ?_
      all_goals first
        | (rw [tabOk_c8 (by omega)]; done)
        | (rw [tabOk_r8 (by omega)]; done)
        | (rw [tabOk_nx (by omega)]; done)
        | (rw [tabOk_yes ha (by omega) (by omega) ⟨by omega, by omega⟩ hb, Bool.not_not]; done)
        | trace_state
end Go.Vl

namespace Go.Vl
open Go Go.RowKit Go.Proofs
set_option maxRecDepth 100000
set_option linter.unusedSimpArgs false
set_option linter.unusedVariables false
set_option maxHeartbeats 8000000

theorem c_implTableOk (t : VTable) (ht : t.md) : CallsV Tryz.prog 27 [.agg (encVTable t)] [] (pureQ (bS (tabOk t))) := by
  have hfc := ht.fc
  have hrl := ht.r
  have cA := (c_implShapeAll t.first t.changes (by omega) ht.fm ht.cm).pure (pureSh _)
  have hml : ((t.changes.map encChange).length : Int) = t.changes.length := by simp
  have hmr : ((t.rows.map encVRow).length : Int) = t.rows.length := by simp
  have hLl := tL_len t
  obtain ⟨a, ha⟩ : ∃ a, (shAll t.first t.changes).2 = a := ⟨_, rfl⟩
  have hsh : shAll t.first t.changes = (tL t, a) := by unfold tL; rw [← ha]
  rw [hsh] at cA
  have cI := c_in t.next 1 60
  obtain ⟨b, hb⟩ : ∃ b, (decide (1 ≤ t.next) && decide (t.next ≤ 60)) = b := ⟨_, rfl⟩
  rw [hb] at cI
  refine pure_walk hTb Tryz.func27 rfl rfl Tryz.ntmps27 (by simp) ?_
  cases a with
  | false =>
    cases b <;> (conv => whnf); repeat' (first
    | (refine And.intro ?_ ?_ <;> ((try intro h) <;> (try simp only [Bool.not_true, Bool.not_false, decide_eq_true_eq, decide_eq_false_iff_not, Int.not_lt, Int.not_le, gt_iff_lt, ge_iff_le] at h) <;> first | exact absurd h Bool.false_ne_true | exact absurd h.symm Bool.false_ne_true | conv => whnf))
    | (refine VL.drawS hTb hMix (by kernel_rfl) (by kernel_rfl) (by kernel_rfl) ?_; conv => whnf)
    | (refine Need.mk ?_; kernel_rfl) | (refine Need.mk ⟨rfl, ?_⟩; decide)
    | (refine VR.pure hTb rfl rfl (o_purF (cA) rfl rfl rfl ⟨rfl, rfl, rfl, rfl⟩ rfl) ?_; conv => whnf)
    | (refine DT.pure hTb rfl (o_purF (cA) rfl rfl rfl ⟨rfl, rfl, rfl, rfl⟩ rfl) ?_; conv => whnf))
    all_goals exact congrArg bS (tabOk_sh ha).symm
  | true =>
  cases b with
  | false =>
    (conv => whnf); repeat' (first
    | (refine And.intro ?_ ?_ <;> ((try intro h) <;> (try simp only [Bool.not_true, Bool.not_false, decide_eq_true_eq, decide_eq_false_iff_not, Int.not_lt, Int.not_le, gt_iff_lt, ge_iff_le] at h) <;> first | exact absurd h Bool.false_ne_true | exact absurd h.symm Bool.false_ne_true | conv => whnf))
    | (refine VL.drawS hTb hMix (by kernel_rfl) (by kernel_rfl) (by kernel_rfl) ?_; conv => whnf)
    | (refine Need.mk ?_; kernel_rfl) | (refine Need.mk ⟨rfl, ?_⟩; decide)
    | (refine VR.pure hTb rfl rfl (o_purF (cA) rfl rfl rfl ⟨rfl, rfl, rfl, rfl⟩ rfl) ?_; conv => whnf)
    | (refine DT.pure hTb rfl (o_purF (cA) rfl rfl rfl ⟨rfl, rfl, rfl, rfl⟩ rfl) ?_; conv => whnf)
    | (refine VR.pure hTb rfl rfl (o_purN (cI) rfl rfl rfl ⟨rfl, rfl, rfl, rfl⟩ rfl) ?_; conv => whnf)
    | (refine DT.pure hTb rfl (o_purN (cI) rfl rfl rfl ⟨rfl, rfl, rfl, rfl⟩ rfl) ?_; conv => whnf))
    all_goals refine congrArg bS ?_
    all_goals rw [tabOk_nx (fun h => by rw [decide_eq_true h.1, decide_eq_true h.2] at hb; cases hb)]
  | true =>
  have hnx : 1 ≤ t.next ∧ t.next ≤ 60 := by simpa using hb
  (conv => whnf); repeat' (first
    | (refine And.intro ?_ ?_ <;> ((try intro h) <;> (try simp only [Bool.not_true, Bool.not_false, decide_eq_true_eq, decide_eq_false_iff_not, Int.not_lt, Int.not_le, gt_iff_lt, ge_iff_le] at h) <;> first | exact absurd h Bool.false_ne_true | exact absurd h.symm Bool.false_ne_true | conv => whnf))
    | (refine VL.drawS hTb hMix (by kernel_rfl) (by kernel_rfl) (by kernel_rfl) ?_; conv => whnf)
    | (refine Need.mk ?_; kernel_rfl) | (refine Need.mk ⟨rfl, ?_⟩; decide)
    | (refine VR.pure hTb rfl rfl (o_purF (cA) rfl rfl rfl ⟨rfl, rfl, rfl, rfl⟩ rfl) ?_; conv => whnf)
    | (refine DT.pure hTb rfl (o_purF (cA) rfl rfl rfl ⟨rfl, rfl, rfl, rfl⟩ rfl) ?_; conv => whnf)
    | (refine VR.pure hTb rfl rfl (o_purN (cI) rfl rfl rfl ⟨rfl, rfl, rfl, rfl⟩ rfl) ?_; conv => whnf)
    | (refine DT.pure hTb rfl (o_purN (cI) rfl rfl rfl ⟨rfl, rfl, rfl, rfl⟩ rfl) ?_; conv => whnf))
  all_goals try (refine congrArg bS ?_; first | (rw [tabOk_c8 (by omega)]; done) | (rw [tabOk_r8 (by omega)]; done))
  have q8 : t.changes.length ≤ 8 ∧ t.rows.length ≤ 8 := by omega
  refine VL.loopI hTb (fun x : Nat × Int => x.1 ≤ t.rows.length ∧ stGo t 0 t.rows = stGo t x.2 (t.rows.drop x.1) ∧ (0 ≤ x.2 ∧ x.2 ≤ 60) ∧ ∀ j (h : j < t.rows.length), j < x.1 → (0 ≤ t.rows[j].ver ∧ t.rows[j].ver ≤ (t.changes.length : Int)) ∧ t.rows[j].vals.length = (tSh t t.rows[j].ver.toNat).length)
    (fun x => ⟨[(1, .one (.ptr 101 0)), (3, colsI (tL t)), (5, iS x.2), (39, vrowsI t.rows), (40, iS ((t.rows.map encVRow).length : Nat)), (41, iS x.1)], [(101, .box (encVTable t))], []⟩) (fun x => t.rows.length - x.1) (0, 0) ⟨Nat.zero_le _, rfl, ⟨Int.le_refl _, by decide⟩, fun j _ h => absurd h (Nat.not_lt_zero _)⟩
    (wk_to [(101, 101)] rfl rfl rfl ⟨rfl, rfl, rfl, rfl, rfl, rfl, trivial⟩ ⟨rfl, ⟨_, rfl, rfl⟩, trivial⟩) (fun x hx => ?_)
  obtain ⟨i, last⟩ := x
  obtain ⟨hi, hst, hla, hall⟩ := hx
  simp only at hi hst hla hall
  (conv => whnf)
  refine And.intro (fun h2 => ?_) (fun h2 => ?_)
  · have hil : i < t.rows.length := by simpa using h2
    have hrw := rowVRow hil
    have hrm := ht.rm _ (List.getElem_mem hil)
    rw [stGo_drop hil] at hst
    have hall2 : ∀ r : VRow, t.rows[i] = r → (0 ≤ r.ver ∧ r.ver ≤ (t.changes.length : Int)) → r.vals.length = (tSh t r.ver.toNat).length → ∀ j (h : j < t.rows.length), j < i + 1 → (0 ≤ t.rows[j].ver ∧ t.rows[j].ver ≤ (t.changes.length : Int)) ∧ t.rows[j].vals.length = (tSh t t.rows[j].ver.toNat).length := by
      intro r hr k1 k2 j hj hj2
      by_cases e : j = i
      · subst e; rw [hr]; exact ⟨k1, k2⟩
      · exact hall j hj (by omega)
    replace hall2 := hall2 _ rfl
    generalize t.rows[i] = r at hrw hrm hst hall2
    have w1 : IntKind.i64.wrap (last + 1) = last + 1 := by rw [IntKind.wrap_i64]; omega
    have w2 : IntKind.i64.wrap (t.next - 1) = t.next - 1 := by rw [IntKind.wrap_i64]; omega
    have c1 := c_in r.id (IntKind.i64.wrap (last + 1)) (IntKind.i64.wrap (t.next - 1))
    have c2 := c_in r.ver 0 ((t.changes.map encChange).length : Nat)
    obtain ⟨b1, hb1⟩ : ∃ b, (decide (IntKind.i64.wrap (last + 1) ≤ r.id) && decide (r.id ≤ IntKind.i64.wrap (t.next - 1))) = b := ⟨_, rfl⟩
    obtain ⟨b2, hb2⟩ : ∃ b, (decide (0 ≤ r.ver) && decide (r.ver ≤ ((t.changes.map encChange).length : Nat))) = b := ⟨_, rfl⟩
    rw [hb1] at c1
    rw [hb2] at c2
    rw [w1, w2] at hb1
    have hid : idOk t last r = (b1 && b2) := by
      rw [← hb1, ← hb2, List.length_map]
      unfold idOk
      simp only [Bool.decide_and, Bool.and_assoc]
    rw [hid] at hst
    cases b1 with
    | false =>
      cases b2 <;> (conv => whnf); repeat' (first
    | (refine And.intro ?_ ?_ <;> ((try intro h) <;> (try simp only [Bool.not_true, Bool.not_false, decide_eq_true_eq, decide_eq_false_iff_not, Int.not_lt, Int.not_le, gt_iff_lt, ge_iff_le] at h) <;> first | exact absurd h Bool.false_ne_true | exact absurd h.symm Bool.false_ne_true | conv => whnf))
    | (refine VL.drawS hTb hMix (by kernel_rfl) (by kernel_rfl) (by kernel_rfl) ?_; conv => whnf)
    | (refine Need.mk ?_; kernel_rfl) | (refine Need.mk ⟨rfl, ?_⟩; decide)
    | (refine VR.op hTb rfl rfl (o_index_imm hTb rfl rfl rfl rfl rfl rfl rfl (by omega) (hrw)) rfl ?_; conv => whnf)
    | (refine DT.op hTb rfl (o_index_imm hTb rfl rfl rfl rfl rfl rfl rfl (by omega) (hrw)) rfl ?_; conv => whnf)
    | (refine VR.pure hTb rfl rfl (o_purN (c1) rfl rfl rfl ⟨rfl, rfl, rfl, rfl⟩ rfl) ?_; conv => whnf)
    | (refine DT.pure hTb rfl (o_purN (c1) rfl rfl rfl ⟨rfl, rfl, rfl, rfl⟩ rfl) ?_; conv => whnf)
    | (refine VR.pure hTb rfl rfl (o_purN (c2) rfl rfl rfl ⟨rfl, rfl, rfl, rfl⟩ rfl) ?_; conv => whnf)
    | (refine DT.pure hTb rfl (o_purN (c2) rfl rfl rfl ⟨rfl, rfl, rfl, rfl⟩ rfl) ?_; conv => whnf))
      all_goals exact congrArg bS (tabOk_st hst).symm
    | true =>
    cases b2 with
    | false =>
      (conv => whnf); repeat' (first
    | (refine And.intro ?_ ?_ <;> ((try intro h) <;> (try simp only [Bool.not_true, Bool.not_false, decide_eq_true_eq, decide_eq_false_iff_not, Int.not_lt, Int.not_le, gt_iff_lt, ge_iff_le] at h) <;> first | exact absurd h Bool.false_ne_true | exact absurd h.symm Bool.false_ne_true | conv => whnf))
    | (refine VL.drawS hTb hMix (by kernel_rfl) (by kernel_rfl) (by kernel_rfl) ?_; conv => whnf)
    | (refine Need.mk ?_; kernel_rfl) | (refine Need.mk ⟨rfl, ?_⟩; decide)
    | (refine VR.op hTb rfl rfl (o_index_imm hTb rfl rfl rfl rfl rfl rfl rfl (by omega) (hrw)) rfl ?_; conv => whnf)
    | (refine DT.op hTb rfl (o_index_imm hTb rfl rfl rfl rfl rfl rfl rfl (by omega) (hrw)) rfl ?_; conv => whnf)
    | (refine VR.pure hTb rfl rfl (o_purN (c1) rfl rfl rfl ⟨rfl, rfl, rfl, rfl⟩ rfl) ?_; conv => whnf)
    | (refine DT.pure hTb rfl (o_purN (c1) rfl rfl rfl ⟨rfl, rfl, rfl, rfl⟩ rfl) ?_; conv => whnf)
    | (refine VR.pure hTb rfl rfl (o_purN (c2) rfl rfl rfl ⟨rfl, rfl, rfl, rfl⟩ rfl) ?_; conv => whnf)
    | (refine DT.pure hTb rfl (o_purN (c2) rfl rfl rfl ⟨rfl, rfl, rfl, rfl⟩ rfl) ?_; conv => whnf))
      all_goals exact congrArg bS (tabOk_st hst).symm
    | true =>
    have hv : 0 ≤ r.ver ∧ r.ver ≤ (t.changes.length : Int) := by simpa using hb2
    have hidr : last + 1 ≤ r.id ∧ r.id ≤ t.next - 1 := by simpa using hb1
    obtain ⟨h1, h3, h4, h5, h6, h7⟩ := tSh_cut ha r.ver.toNat
    have hl1 := tSh_len t r.ver.toNat
    have cC := (c_changes t.first (t.changes.take r.ver.toNat) (by simp; omega) ht.fm (ht.cm.take _)).pure (pureSh _)
    rw [h3] at cC
    replace cC : CallsV _ _ _ _ (pureQ (shI (tSh t r.ver.toNat, true))) := cC
    have r1 := c_implrowOk (tSh t r.ver.toNat) r.vals (by unfold maxLen; omega) (mdv_ok' hrm.2)
    have r2 := c_implrowOk (tL t) (tNow t r) (by unfold maxLen; omega) (mdv_ok' (tNow_md ht hrm.2))
    have hrs : rowSt t r = (rowIn (tSh t r.ver.toNat) r.vals && rowIn (tL t) (tNow t r)) := by unfold rowSt; rw [rowOk_in h5, rowOk_in h7]
    have hln : rowIn (tSh t r.ver.toNat) r.vals = true → r.vals.length = (tSh t r.ver.toNat).length := rowIn_ln
    obtain ⟨k, hk⟩ : ∃ k : Nat, r.ver = k := ⟨r.ver.toNat, by omega⟩
    have hkt : r.ver.toNat = k := by omega
    have hkl : k ≤ t.changes.length := by omega
    have cN := fun h => (c_tNow t r ht ha hv (hln h) hrm.2).pure (pureVals _)
    generalize rowIn (tSh t r.ver.toNat) r.vals = b3 at r1 hrs hln cN
    generalize rowIn (tL t) (tNow t r) = b4 at r2 hrs
    rw [hrs] at hst
    have tail : last + 1 ≤ r.id := hidr.1
    cases b3 with
    | false =>
      (conv => whnf); repeat' (first
    | (refine And.intro ?_ ?_ <;> ((try intro h) <;> (try simp only [Bool.not_true, Bool.not_false, decide_eq_true_eq, decide_eq_false_iff_not, Int.not_lt, Int.not_le, gt_iff_lt, ge_iff_le] at h) <;> first | exact absurd h Bool.false_ne_true | exact absurd h.symm Bool.false_ne_true | conv => whnf))
    | (refine VL.drawS hTb hMix (by kernel_rfl) (by kernel_rfl) (by kernel_rfl) ?_; conv => whnf)
    | (refine Need.mk ?_; kernel_rfl) | (refine Need.mk ⟨rfl, ?_⟩; decide)
    | (refine VR.op hTb rfl rfl (o_index_imm hTb rfl rfl rfl rfl rfl rfl rfl (by omega) (hrw)) rfl ?_; conv => whnf)
    | (refine DT.op hTb rfl (o_index_imm hTb rfl rfl rfl rfl rfl rfl rfl (by omega) (hrw)) rfl ?_; conv => whnf)
    | (refine VR.pure hTb rfl rfl (o_purN (c1) rfl rfl rfl ⟨rfl, rfl, rfl, rfl⟩ rfl) ?_; conv => whnf)
    | (refine DT.pure hTb rfl (o_purN (c1) rfl rfl rfl ⟨rfl, rfl, rfl, rfl⟩ rfl) ?_; conv => whnf)
    | (refine VR.pure hTb rfl rfl (o_purN (c2) rfl rfl rfl ⟨rfl, rfl, rfl, rfl⟩ rfl) ?_; conv => whnf)
    | (refine DT.pure hTb rfl (o_purN (c2) rfl rfl rfl ⟨rfl, rfl, rfl, rfl⟩ rfl) ?_; conv => whnf)
    | (refine DT.op hTb rfl (o_slice_imm (n1 := 0) (n2 := r.ver.toNat) (rows' := (t.changes.take r.ver.toNat).map encChange) hTb rfl rfl rfl rfl rfl rfl bnd_none (bnd_wr rfl (by omega)) (Nat.zero_le _) (by simp; omega) (by rw [List.drop_zero, Nat.sub_zero, List.map_take])) rfl ?_; conv => whnf)
    | (refine VR.pure hTb rfl rfl (o_purF (cC) rfl rfl rfl ⟨rfl, rfl, rfl, rfl⟩ rfl) ?_; conv => whnf)
    | (refine DT.pure hTb rfl (o_purF (cC) rfl rfl rfl ⟨rfl, rfl, rfl, rfl⟩ rfl) ?_; conv => whnf)
    | (refine VR.pure hTb rfl rfl (o_purN (r1) rfl rfl rfl ⟨rfl, rfl, rfl, rfl⟩ rfl) ?_; conv => whnf)
    | (refine DT.pure hTb rfl (o_purN (r1) rfl rfl rfl ⟨rfl, rfl, rfl, rfl⟩ rfl) ?_; conv => whnf))
      all_goals exact congrArg bS (tabOk_st hst).symm
    | true =>
      have cN := cN rfl
      cases b4 <;> (conv => whnf); repeat' (first
    | (refine And.intro ?_ ?_ <;> ((try intro h) <;> (try simp only [Bool.not_true, Bool.not_false, decide_eq_true_eq, decide_eq_false_iff_not, Int.not_lt, Int.not_le, gt_iff_lt, ge_iff_le] at h) <;> first | exact absurd h Bool.false_ne_true | exact absurd h.symm Bool.false_ne_true | conv => whnf))
    | (refine VL.drawS hTb hMix (by kernel_rfl) (by kernel_rfl) (by kernel_rfl) ?_; conv => whnf)
    | (refine Need.mk ?_; kernel_rfl) | (refine Need.mk ⟨rfl, ?_⟩; decide)
    | (refine VR.op hTb rfl rfl (o_index_imm hTb rfl rfl rfl rfl rfl rfl rfl (by omega) (hrw)) rfl ?_; conv => whnf)
    | (refine DT.op hTb rfl (o_index_imm hTb rfl rfl rfl rfl rfl rfl rfl (by omega) (hrw)) rfl ?_; conv => whnf)
    | (refine VR.pure hTb rfl rfl (o_purN (c1) rfl rfl rfl ⟨rfl, rfl, rfl, rfl⟩ rfl) ?_; conv => whnf)
    | (refine DT.pure hTb rfl (o_purN (c1) rfl rfl rfl ⟨rfl, rfl, rfl, rfl⟩ rfl) ?_; conv => whnf)
    | (refine VR.pure hTb rfl rfl (o_purN (c2) rfl rfl rfl ⟨rfl, rfl, rfl, rfl⟩ rfl) ?_; conv => whnf)
    | (refine DT.pure hTb rfl (o_purN (c2) rfl rfl rfl ⟨rfl, rfl, rfl, rfl⟩ rfl) ?_; conv => whnf)
    | (refine DT.op hTb rfl (o_slice_imm (n1 := 0) (n2 := r.ver.toNat) (rows' := (t.changes.take r.ver.toNat).map encChange) hTb rfl rfl rfl rfl rfl rfl bnd_none (bnd_wr rfl (by omega)) (Nat.zero_le _) (by simp; omega) (by rw [List.drop_zero, Nat.sub_zero, List.map_take])) rfl ?_; conv => whnf)
    | (refine VR.pure hTb rfl rfl (o_purF (cC) rfl rfl rfl ⟨rfl, rfl, rfl, rfl⟩ rfl) ?_; conv => whnf)
    | (refine DT.pure hTb rfl (o_purF (cC) rfl rfl rfl ⟨rfl, rfl, rfl, rfl⟩ rfl) ?_; conv => whnf)
    | (refine VR.pure hTb rfl rfl (o_purN (r1) rfl rfl rfl ⟨rfl, rfl, rfl, rfl⟩ rfl) ?_; conv => whnf)
    | (refine DT.pure hTb rfl (o_purN (r1) rfl rfl rfl ⟨rfl, rfl, rfl, rfl⟩ rfl) ?_; conv => whnf)
    | (refine VR.pure hTb rfl rfl (o_purF (cN) rfl rfl rfl ⟨rfl, rfl, rfl, rfl⟩ rfl) ?_; conv => whnf)
    | (refine DT.pure hTb rfl (o_purF (cN) rfl rfl rfl ⟨rfl, rfl, rfl, rfl⟩ rfl) ?_; conv => whnf)
    | (refine VR.pure hTb rfl rfl (o_purN (r2) rfl rfl rfl ⟨rfl, rfl, rfl, rfl⟩ rfl) ?_; conv => whnf)
    | (refine DT.pure hTb rfl (o_purN (r2) rfl rfl rfl ⟨rfl, rfl, rfl, rfl⟩ rfl) ?_; conv => whnf))
      · exact congrArg bS (tabOk_st hst).symm
      · exact ⟨(i + 1, r.id), ⟨hil, hst, by simp only; omega, hall2 hv (hln rfl)⟩, by show t.rows.length - (i + 1) < t.rows.length - i; omega, wk_to [(101, 101)] rfl rfl rfl ⟨rfl, rfl, rfl, rfl, rfl, congrArg (fun x => Slot.one (.g (.int .i64 x))) (wrap64' (by unfold maxLen; omega)), trivial⟩ ⟨rfl, ⟨_, rfl, rfl⟩, trivial⟩⟩
  · have hie : i = t.rows.length := by simp at h2; omega
    rw [stGo_end (by omega)] at hst
    have cO := c_tOnce t ht ha fun r hr => by
      obtain ⟨j, hj, rfl⟩ := List.getElem_of_mem hr
      exact hall j hj (by omega)
    rw [← tabOk_yes ha q8.1 q8.2 hnx hst] at cO
    (conv => whnf); repeat' (first
    | (refine And.intro ?_ ?_ <;> ((try intro h) <;> (try simp only [Bool.not_true, Bool.not_false, decide_eq_true_eq, decide_eq_false_iff_not, Int.not_lt, Int.not_le, gt_iff_lt, ge_iff_le] at h) <;> first | exact absurd h Bool.false_ne_true | exact absurd h.symm Bool.false_ne_true | conv => whnf))
    | (refine VL.drawS hTb hMix (by kernel_rfl) (by kernel_rfl) (by kernel_rfl) ?_; conv => whnf)
    | (refine Need.mk ?_; kernel_rfl) | (refine Need.mk ⟨rfl, ?_⟩; decide)
    | (refine VR.pure hTb rfl rfl (o_purN (cO) rfl rfl rfl ⟨rfl, rfl, rfl, rfl⟩ rfl) ?_; conv => whnf)
    | (refine DT.pure hTb rfl (o_purN (cO) rfl rfl rfl ⟨rfl, rfl, rfl, rfl⟩ rfl) ?_; conv => whnf))
    rfl
end Go.Vl

namespace Go.Vl
open Go Go.RowKit Go.Proofs
set_option maxRecDepth 100000
set_option linter.unusedSimpArgs false
set_option linter.unusedVariables false
set_option maxHeartbeats 2000000
theorem wsub {n : Int} {s : Nat} (h0 : 0 ≤ n) (h1 : n ≤ 1048576) (hs : s ≤ maxLen) : IntKind.i64.wrap (n - (s : Int)) = n - s := by rw [IntKind.wrap_i64]; unfold maxLen at hs; omega
theorem z_VLink (v : VLink) (hv : v.ok) (n : Int) (h0 : 0 ≤ n) (h1 : n ≤ 1048576) : CallsV Tryz.prog 149 [.agg (encVLink v), iS n] [] (relQ (fun y : Int => y ≤ n ∧ (0 ≤ y → v.sm)) iS (fun _ => []) (fun _ => [])) := by
  obtain ⟨src, col, dst, how⟩ := v
  simp only [VLink.ok] at hv
  refine funF_walk hTb Tryz.func149 rfl rfl Tryz.ntmps149 (by simp) (by simp) ?_
  (conv => whnf); repeat' (first | (refine And.intro ?_ ?_ <;> ((try intro h) <;> (try simp only [Bool.not_true, Bool.not_false] at h) <;> first | exact absurd h Bool.false_ne_true | exact absurd h.symm Bool.false_ne_true | conv => whnf)) | (refine Need.mk ?_; kernel_rfl) | (refine Need.mk ⟨rfl, ?_⟩; decide))
  all_goals refine endR [] _ rfl rfl rfl rfl rfl (LeS.refl _) rfl rfl ⟨by (try simp only [decide_eq_false_iff_not, decide_eq_true_eq, IntKind.wrap_i64] at *); (try simp only [Int.not_lt] at *); (try unfold maxLen at *); omega, fun hp => ?_⟩
  all_goals first
    | exact trivial
    | (exfalso; revert hp; simp; done)
end Go.Vl
