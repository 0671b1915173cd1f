/- Contracts: columns behind a change, of both; the reference's way. Contracts: columns behind a change, the reference's; a row behind a change, of both. Contracts: a row behind a change; columns behind several. -/
import Derived.Test.YtddefkbmiicnbaaGreatDoorJBd
set_option linter.unusedSimpArgs false
set_option linter.unusedVariables false

namespace Go.Vl
open Go Go.RowKit Go.Proofs
set_option maxRecDepth 100000
set_option linter.unusedSimpArgs false
set_option linter.unusedVariables false
set_option maxHeartbeats 4000000

theorem nott {b : Bool} (h : (!b) = true) : b = false := by cases b <;> simp_all
theorem notf {b : Bool} (h : (!b) = false) : b = true := by cases b <;> simp_all
theorem q_Val_iff' (a b : Val) : q_Val a b = true ↔ a.k = b.k ∧ a.n = b.n ∧ a.t.toList = b.t.toList := by simp [q_Val]
theorem q_Col_iff' (a b : Col) : q_Col a b = true ↔ a.name.toList = b.name.toList ∧ a.kind = b.kind ∧ a.need = b.need ∧ a.once = b.once ∧ a.d.k = b.d.k ∧ a.d.n = b.d.n ∧ a.d.t.toList = b.d.t.toList := by
  simp [q_Col, q_Val_iff']
theorem q_Col_comm' (a b : Col) : q_Col a b = q_Col b a := by
  rw [Bool.eq_iff_iff, q_Col_iff', q_Col_iff']
  constructor <;> rintro ⟨h1, h2, h3, h4, h5, h6, h7⟩ <;> exact ⟨h1.symm, h2.symm, h3.symm, h4.symm, h5.symm, h6.symm, h7.symm⟩
theorem ch_eq (s : List Col) (c : Change) : chDo s c =
    if c.kind = 1 then (if c.name.toList = (⟨#[]⟩ : ByteArray).toList ∧ c.new.toList = (⟨#[]⟩ : ByteArray).toList ∧ (c.col.need = false ∨ c.col.d.k ≠ 0) then some (s ++ [c.col]) else none)
    else if nameAt s c.name < 0 ∨ q_Col c.col (kCol (if c.kind = 4 then c.col.kind else 0)) = false then none
    else if c.kind = 2 then (if c.new.toList = (⟨#[]⟩ : ByteArray).toList then some (s.eraseIdx (nameAt s c.name).toNat) else none)
    else if c.kind = 3 then some (s.set (nameAt s c.name).toNat (ccName (s.getD (nameAt s c.name).toNat (kCol 0)) c.new))
    else if c.kind = 4 then (if c.new.toList = (⟨#[]⟩ : ByteArray).toList ∧ c.col.kind ≠ (s.getD (nameAt s c.name).toNat (kCol 0)).kind then some (s.set (nameAt s c.name).toNat (ccKind (s.getD (nameAt s c.name).toNat (kCol 0)) c.col.kind)) else none)
    else none := by
  unfold chDo namedB
  rw [q_Col_comm' c.col]
  simp only [emptyList]
  by_cases h1 : c.kind = 1
  · simp only [if_pos h1]
    by_cases h2 : c.name.toList = []
    · by_cases h3 : c.new.toList = []
      · cases hn : c.col.need <;> by_cases h4 : c.col.d.k = 0 <;> simp [h2, h3, h4]
      · have h3' := Ne.symm h3; simp [h3, h3']
    · have h2' := Ne.symm h2; simp [h2, h2']
  · simp only [if_neg h1]
    by_cases h2 : c.kind = 2
    · have h4 : c.kind ≠ 4 := by omega
      simp only [if_pos h2, if_neg h4]
      by_cases h3 : c.new.toList = []
      · cases hq : q_Col (kCol 0) c.col <;> by_cases hn : nameAt s c.name < 0 <;> simp [h3, hn]
      · have h3' := Ne.symm h3; simp [h3, h3']
    · simp only [if_neg h2]
      by_cases h3 : c.kind = 3
      · have h4 : c.kind ≠ 4 := by omega
        simp only [if_pos h3, if_neg h4]
        cases hq : q_Col (kCol 0) c.col <;> by_cases hn : nameAt s c.name < 0 <;> simp [hn]
      · simp only [if_neg h3]
        by_cases h4 : c.kind = 4
        · simp only [if_pos h4]
          by_cases h5 : c.new.toList = []
          · cases hq : q_Col (kCol c.col.kind) c.col <;> by_cases hn : nameAt s c.name < 0 <;> by_cases hk : c.col.kind = (s.getD (nameAt s c.name).toNat (kCol 0)).kind <;> simp [h5, hn, hk]
          · have h5' := Ne.symm h5; simp [h5, h5']
        · simp [h4]
def sdo (s : List Col) (c : Change) : List Col × Bool := if shapeOk s = true then shDo s c else ([], false)
theorem c_l2Do (s : List Col) (c : Change) (hl : s.length ≤ 1900000) (hs : mdCols s) (hc : c.md) : CallsV Tryz.prog 206 [colsI s, .agg (encChange c)] [] (funQ (.one (.own 0 0 ((chDo s c).getD []).length)) [] [.arr 49 7 (((chDo s c).getD []).map encCol)]) := by
  rw [ch_eq]
  obtain ⟨kd, nm, nw, ⟨cn, ck, c1, c2, ⟨d1, d2, d3⟩⟩⟩ := c
  simp only
  have cA := c_l2At s nm (by unfold maxLen; omega)
  have cR := c_l2Rest ⟨kd, nm, nw, ⟨cn, ck, c1, c2, ⟨d1, d2, d3⟩⟩⟩
  simp only at cR
  obtain ⟨hc1, hc2, hc3⟩ := hc
  simp only at hc1 hc2 hc3
  refine funF_walk hTb Tryz.func206 rfl rfl Tryz.ntmps206 (by simp) (by simp) ?_
  by_cases k1 : kd = 1
  · subst k1
    rw [if_pos rfl]
    cases c1 <;> (conv => whnf); repeat' (first
    | (refine And.intro ?_ ?_ <;> ((try intro h) <;> (try simp only [Bool.not_true, Bool.not_false, decide_eq_true_eq, decide_eq_false_iff_not, Int.not_lt, Int.not_le, gt_iff_lt, ge_iff_le] at h) <;> first | exact absurd h Bool.false_ne_true | exact absurd h.symm Bool.false_ne_true | conv => whnf))
    | (refine VL.drawS hTb hMix (by kernel_rfl) (by kernel_rfl) (by kernel_rfl) ?_; conv => whnf)
    | (refine Need.mk ?_; kernel_rfl) | (refine Need.mk ⟨rfl, ?_⟩; decide)
    | (refine VR.pure hTb rfl rfl (o_purN (cA) rfl rfl rfl ⟨rfl, rfl, rfl, rfl⟩ rfl) ?_; conv => whnf)
    | (refine DT.pure hTb rfl (o_purN (cA) rfl rfl rfl ⟨rfl, rfl, rfl, rfl⟩ rfl) ?_; conv => whnf)
    | (refine VR.opk hTb rfl rfl (o_app0 (f := encCol) (m := s) (q := 113) hTb rfl rfl rfl rfl rfl rfl rfl rfl rfl rfl (by omega) (by show _ * 64 ≤ _; omega) (by unfold maxLen; omega)) ?_; conv => whnf)
    | (refine DT.opk hTb rfl (o_app0 (f := encCol) (m := s) (q := 113) hTb rfl rfl rfl rfl rfl rfl rfl rfl rfl rfl (by omega) (by show _ * 64 ≤ _; omega) (by unfold maxLen; omega)) ?_; conv => whnf)
    | (refine VR.opk hTb rfl rfl (o_app1 (q := 145) (a := ⟨_, _, _, _, ⟨_, _, _⟩⟩) hTb rfl rfl rfl rfl rfl rfl rfl rfl rfl rfl rfl rfl (by omega) (by show _ * 64 ≤ _; omega) (by unfold maxLen; omega)) ?_; conv => whnf)
    | (refine DT.opk hTb rfl (o_app1 (q := 145) (a := ⟨_, _, _, _, ⟨_, _, _⟩⟩) hTb rfl rfl rfl rfl rfl rfl rfl rfl rfl rfl rfl rfl (by omega) (by show _ * 64 ≤ _; omega) (by unfold maxLen; omega)) ?_; conv => whnf)
    | (refine VR.pure hTb rfl rfl (o_purN (cR) rfl rfl rfl ⟨rfl, rfl, rfl, rfl⟩ rfl) ?_; conv => whnf)
    | (refine DT.pure hTb rfl (o_purN (cR) rfl rfl rfl ⟨rfl, rfl, rfl, rfl⟩ rfl) ?_; conv => whnf))
    all_goals clear cA cR
    all_goals first
      | (rw [if_pos (by simp_all)]; exact endW [145] rfl rfl rfl rfl rfl (LeS.of_eq (congrArg (fun n => Slot.one (.own 0 0 n)) (by simp))) rfl rfl)
      | (rw [if_neg (by simp_all)]; exact endW [161] rfl rfl rfl rfl rfl (LeS.refl _) rfl rfl)
      | (exfalso; simp_all; done)
      | trace_state
  rw [if_neg k1]
  rcases nameAt_spec s nm with ⟨hn, _⟩ | ⟨j, hj, hn, _⟩
  · rw [hn] at cA ⊢
    rw [if_pos (.inl (by omega))]
    (conv => whnf); repeat' (first
    | (refine And.intro ?_ ?_ <;> ((try intro h) <;> (try simp only [Bool.not_true, Bool.not_false, decide_eq_true_eq, decide_eq_false_iff_not, Int.not_lt, Int.not_le, gt_iff_lt, ge_iff_le] at h) <;> first | exact absurd h Bool.false_ne_true | exact absurd h.symm Bool.false_ne_true | conv => whnf))
    | (refine VL.drawS hTb hMix (by kernel_rfl) (by kernel_rfl) (by kernel_rfl) ?_; conv => whnf)
    | (refine Need.mk ?_; kernel_rfl) | (refine Need.mk ⟨rfl, ?_⟩; decide)
    | (refine VR.pure hTb rfl rfl (o_purN (cA) rfl rfl rfl ⟨rfl, rfl, rfl, rfl⟩ rfl) ?_; conv => whnf)
    | (refine DT.pure hTb rfl (o_purN (cA) rfl rfl rfl ⟨rfl, rfl, rfl, rfl⟩ rfl) ?_; conv => whnf)
    | (refine VR.opk hTb rfl rfl (o_app0 (f := encCol) (m := s) (q := 113) hTb rfl rfl rfl rfl rfl rfl rfl rfl rfl rfl (by omega) (by show _ * 64 ≤ _; omega) (by unfold maxLen; omega)) ?_; conv => whnf)
    | (refine DT.opk hTb rfl (o_app0 (f := encCol) (m := s) (q := 113) hTb rfl rfl rfl rfl rfl rfl rfl rfl rfl rfl (by omega) (by show _ * 64 ≤ _; omega) (by unfold maxLen; omega)) ?_; conv => whnf)
    | (refine VR.opk hTb rfl rfl (o_app1 (q := 145) (a := ⟨_, _, _, _, ⟨_, _, _⟩⟩) hTb rfl rfl rfl rfl rfl rfl rfl rfl rfl rfl rfl rfl (by omega) (by show _ * 64 ≤ _; omega) (by unfold maxLen; omega)) ?_; conv => whnf)
    | (refine DT.opk hTb rfl (o_app1 (q := 145) (a := ⟨_, _, _, _, ⟨_, _, _⟩⟩) hTb rfl rfl rfl rfl rfl rfl rfl rfl rfl rfl rfl rfl (by omega) (by show _ * 64 ≤ _; omega) (by unfold maxLen; omega)) ?_; conv => whnf)
    | (refine VR.pure hTb rfl rfl (o_purN (cR) rfl rfl rfl ⟨rfl, rfl, rfl, rfl⟩ rfl) ?_; conv => whnf)
    | (refine DT.pure hTb rfl (o_purN (cR) rfl rfl rfl ⟨rfl, rfl, rfl, rfl⟩ rfl) ?_; conv => whnf))
    all_goals clear cA cR
    all_goals first
      | exact endW [161] rfl rfl rfl rfl rfl (LeS.refl _) rfl rfl
      | (exfalso; simp_all; done)
      | trace_state
  rw [hn] at cA ⊢
  rw [Int.toNat_natCast]
  have eg : s.getD j (kCol 0) = s[j] := by simp [List.getD, hj]
  rw [eg]
  have hmj : s[j].md := hs _ (List.getElem_mem hj)
  have hrow : s[0 + ((j : Nat) : Int).toNat]? = some s[j] := by rw [Int.toNat_natCast, Nat.zero_add, List.getElem?_eq_getElem hj]
  have hrowI : (s.map encCol)[((j : Nat) : Int).toNat]? = some (encCol s[j]) := row_at hj
  have hset : ∀ v : Col, s.set j v = s.set (0 + ((j : Nat) : Int).toNat) v := fun v => by rw [Int.toNat_natCast, Nat.zero_add]
  obtain ⟨b, hb⟩ : ∃ b, q_Col ⟨cn, ck, c1, c2, ⟨d1, d2, d3⟩⟩ (kCol (if kd = 4 then ck else 0)) = b := ⟨_, rfl⟩
  rw [hb]
  cases b
  · rw [if_pos (.inr rfl)]
    by_cases k4 : kd = 4
    · subst k4
      (conv => whnf); repeat' (first
    | (exact absurd (hb.symm.trans (notf h)) (by decide))
    | (refine And.intro ?_ ?_ <;> ((try intro h) <;> (try simp only [Bool.not_true, Bool.not_false, decide_eq_true_eq, decide_eq_false_iff_not, Int.not_lt, Int.not_le, gt_iff_lt, ge_iff_le] at h) <;> first | exact absurd h Bool.false_ne_true | exact absurd h.symm Bool.false_ne_true | conv => whnf))
    | (refine VL.drawS hTb hMix (by kernel_rfl) (by kernel_rfl) (by kernel_rfl) ?_; conv => whnf)
    | (refine Need.mk ?_; kernel_rfl) | (refine Need.mk ⟨rfl, ?_⟩; decide)
    | ((exfalso; omega))
    | (refine VR.pure hTb rfl rfl (o_purN (cA) rfl rfl rfl ⟨rfl, rfl, rfl, rfl⟩ rfl) ?_; conv => whnf)
    | (refine DT.pure hTb rfl (o_purN (cA) rfl rfl rfl ⟨rfl, rfl, rfl, rfl⟩ rfl) ?_; conv => whnf)
    | (refine VR.opk hTb rfl rfl (o_app0 (f := encCol) (m := s) (q := 113) hTb rfl rfl rfl rfl rfl rfl rfl rfl rfl rfl (by omega) (by show _ * 64 ≤ _; omega) (by unfold maxLen; omega)) ?_; conv => whnf)
    | (refine DT.opk hTb rfl (o_app0 (f := encCol) (m := s) (q := 113) hTb rfl rfl rfl rfl rfl rfl rfl rfl rfl rfl (by omega) (by show _ * 64 ≤ _; omega) (by unfold maxLen; omega)) ?_; conv => whnf)
    | (refine VR.pure hTb rfl rfl (o_purN (cR) rfl rfl rfl ⟨rfl, rfl, rfl, rfl⟩ rfl) ?_; conv => whnf)
    | (refine DT.pure hTb rfl (o_purN (cR) rfl rfl rfl ⟨rfl, rfl, rfl, rfl⟩ rfl) ?_; conv => whnf))
      all_goals first
        | exact endW [161] rfl rfl rfl rfl rfl (LeS.refl _) rfl rfl
        | trace_state
    · rw [if_neg k4] at hb cR
      (conv => whnf); repeat' (first
    | (exact absurd (beq_iff_eq.1 h) k1)
    | (exact absurd (hb.symm.trans (notf h)) (by decide))
    | (refine And.intro ?_ ?_ <;> ((try intro h) <;> (try simp only [Bool.not_true, Bool.not_false, decide_eq_true_eq, decide_eq_false_iff_not, Int.not_lt, Int.not_le, gt_iff_lt, ge_iff_le] at h) <;> first | exact absurd h Bool.false_ne_true | exact absurd h.symm Bool.false_ne_true | conv => whnf))
    | (refine VL.drawS hTb hMix (by kernel_rfl) (by kernel_rfl) (by kernel_rfl) ?_; conv => whnf)
    | (refine Need.mk ?_; kernel_rfl) | (refine Need.mk ⟨rfl, ?_⟩; decide)
    | ((exfalso; omega))
    | (refine VR.pure hTb rfl rfl (o_purN (cA) rfl rfl rfl ⟨rfl, rfl, rfl, rfl⟩ rfl) ?_; conv => whnf)
    | (refine DT.pure hTb rfl (o_purN (cA) rfl rfl rfl ⟨rfl, rfl, rfl, rfl⟩ rfl) ?_; conv => whnf)
    | (refine VR.opk hTb rfl rfl (o_app0 (f := encCol) (m := s) (q := 113) hTb rfl rfl rfl rfl rfl rfl rfl rfl rfl rfl (by omega) (by show _ * 64 ≤ _; omega) (by unfold maxLen; omega)) ?_; conv => whnf)
    | (refine DT.opk hTb rfl (o_app0 (f := encCol) (m := s) (q := 113) hTb rfl rfl rfl rfl rfl rfl rfl rfl rfl rfl (by omega) (by show _ * 64 ≤ _; omega) (by unfold maxLen; omega)) ?_; conv => whnf)
    | (refine VR.pure hTb rfl rfl (o_purN (cR) rfl rfl rfl ⟨rfl, rfl, rfl, rfl⟩ rfl) ?_; conv => whnf)
    | (refine DT.pure hTb rfl (o_purN (cR) rfl rfl rfl ⟨rfl, rfl, rfl, rfl⟩ rfl) ?_; conv => whnf))
      all_goals first
        | exact endW [161] rfl rfl rfl rfl rfl (LeS.refl _) rfl rfl
        | trace_state
  rw [if_neg (fun h => by rcases h with h | h; omega; cases h)]
  by_cases k2 : kd = 2
  · subst k2
    rw [if_pos rfl]
    rw [if_neg (by omega)] at hb cR
    have cD := c_l2Cut s j hj (by omega)
    have el : (s.eraseIdx j).length = s.length - 1 := by rw [List.length_eraseIdx, if_pos hj]
    by_cases hw : nw.toList = (⟨#[]⟩ : ByteArray).toList
    · rw [if_pos hw]
      (conv => whnf); repeat' (first
    | (exact absurd hw (by simpa using h))
    | (exact absurd (hb.symm.trans (nott h)) (by decide))
    | (refine And.intro ?_ ?_ <;> ((try intro h) <;> (try simp only [Bool.not_true, Bool.not_false, decide_eq_true_eq, decide_eq_false_iff_not, Int.not_lt, Int.not_le, gt_iff_lt, ge_iff_le] at h) <;> first | exact absurd h Bool.false_ne_true | exact absurd h.symm Bool.false_ne_true | conv => whnf))
    | (refine VL.drawS hTb hMix (by kernel_rfl) (by kernel_rfl) (by kernel_rfl) ?_; conv => whnf)
    | (refine Need.mk ?_; kernel_rfl) | (refine Need.mk ⟨rfl, ?_⟩; decide)
    | ((exfalso; omega))
    | (refine VR.pure hTb rfl rfl (o_purN (cA) rfl rfl rfl ⟨rfl, rfl, rfl, rfl⟩ rfl) ?_; conv => whnf)
    | (refine DT.pure hTb rfl (o_purN (cA) rfl rfl rfl ⟨rfl, rfl, rfl, rfl⟩ rfl) ?_; conv => whnf)
    | (refine VR.opk hTb rfl rfl (o_app0 (f := encCol) (m := s) (q := 113) hTb rfl rfl rfl rfl rfl rfl rfl rfl rfl rfl (by omega) (by show _ * 64 ≤ _; omega) (by unfold maxLen; omega)) ?_; conv => whnf)
    | (refine DT.opk hTb rfl (o_app0 (f := encCol) (m := s) (q := 113) hTb rfl rfl rfl rfl rfl rfl rfl rfl rfl rfl (by omega) (by show _ * 64 ≤ _; omega) (by unfold maxLen; omega)) ?_; conv => whnf)
    | (refine VR.pure hTb rfl rfl (o_purN (cR) rfl rfl rfl ⟨rfl, rfl, rfl, rfl⟩ rfl) ?_; conv => whnf)
    | (refine DT.pure hTb rfl (o_purN (cR) rfl rfl rfl ⟨rfl, rfl, rfl, rfl⟩ rfl) ?_; conv => whnf)
    | (refine VR.fun hTb rfl rfl (o_funN (cD) false [] (fun h => by cases h) (by simp) rfl rfl rfl rfl rfl ⟨rfl, rfl, rfl, rfl⟩ rfl rfl) ?_; conv => whnf)
    | (refine DT.fun hTb rfl (o_funN (cD) false [] (fun h => by cases h) (by simp) rfl rfl rfl rfl rfl ⟨rfl, rfl, rfl, rfl⟩ rfl rfl) rfl ?_; conv => whnf))
      all_goals first
        | exact endW [1292] rfl rfl rfl rfl rfl (LeS.of_eq (congrArg (fun n => Slot.one (.own 0 0 n)) el.symm)) rfl rfl
        | trace_state
    · rw [if_neg hw]
      (conv => whnf); repeat' (first
    | (exact absurd (by simpa using h) hw)
    | (exact absurd (hb.symm.trans (nott h)) (by decide))
    | (refine And.intro ?_ ?_ <;> ((try intro h) <;> (try simp only [Bool.not_true, Bool.not_false, decide_eq_true_eq, decide_eq_false_iff_not, Int.not_lt, Int.not_le, gt_iff_lt, ge_iff_le] at h) <;> first | exact absurd h Bool.false_ne_true | exact absurd h.symm Bool.false_ne_true | conv => whnf))
    | (refine VL.drawS hTb hMix (by kernel_rfl) (by kernel_rfl) (by kernel_rfl) ?_; conv => whnf)
    | (refine Need.mk ?_; kernel_rfl) | (refine Need.mk ⟨rfl, ?_⟩; decide)
    | ((exfalso; omega))
    | (refine VR.pure hTb rfl rfl (o_purN (cA) rfl rfl rfl ⟨rfl, rfl, rfl, rfl⟩ rfl) ?_; conv => whnf)
    | (refine DT.pure hTb rfl (o_purN (cA) rfl rfl rfl ⟨rfl, rfl, rfl, rfl⟩ rfl) ?_; conv => whnf)
    | (refine VR.opk hTb rfl rfl (o_app0 (f := encCol) (m := s) (q := 113) hTb rfl rfl rfl rfl rfl rfl rfl rfl rfl rfl (by omega) (by show _ * 64 ≤ _; omega) (by unfold maxLen; omega)) ?_; conv => whnf)
    | (refine DT.opk hTb rfl (o_app0 (f := encCol) (m := s) (q := 113) hTb rfl rfl rfl rfl rfl rfl rfl rfl rfl rfl (by omega) (by show _ * 64 ≤ _; omega) (by unfold maxLen; omega)) ?_; conv => whnf)
    | (refine VR.pure hTb rfl rfl (o_purN (cR) rfl rfl rfl ⟨rfl, rfl, rfl, rfl⟩ rfl) ?_; conv => whnf)
    | (refine DT.pure hTb rfl (o_purN (cR) rfl rfl rfl ⟨rfl, rfl, rfl, rfl⟩ rfl) ?_; conv => whnf))
      all_goals first
        | exact endW [226] rfl rfl rfl rfl rfl (LeS.refl _) rfl rfl
        | trace_state
  rw [if_neg k2]
  by_cases k3 : kd = 3
  · subst k3
    rw [if_pos rfl, hset]
    rw [if_neg (by omega)] at hb cR
    generalize s[j] = sj at hrow hmj
    obtain ⟨x1, x2, x3, x4, ⟨x5, x6, x7⟩⟩ := sj
    simp only [ccName]
    (conv => whnf); repeat' (first
    | (exact absurd (hb.symm.trans (nott h)) (by decide))
    | (refine And.intro ?_ ?_ <;> ((try intro h) <;> (try simp only [Bool.not_true, Bool.not_false, decide_eq_true_eq, decide_eq_false_iff_not, Int.not_lt, Int.not_le, gt_iff_lt, ge_iff_le] at h) <;> first | exact absurd h Bool.false_ne_true | exact absurd h.symm Bool.false_ne_true | conv => whnf))
    | (refine VL.drawS hTb hMix (by kernel_rfl) (by kernel_rfl) (by kernel_rfl) ?_; conv => whnf)
    | (refine Need.mk ?_; kernel_rfl) | (refine Need.mk ⟨rfl, ?_⟩; decide)
    | ((exfalso; omega))
    | (refine VR.pure hTb rfl rfl (o_purN (cA) rfl rfl rfl ⟨rfl, rfl, rfl, rfl⟩ rfl) ?_; conv => whnf)
    | (refine DT.pure hTb rfl (o_purN (cA) rfl rfl rfl ⟨rfl, rfl, rfl, rfl⟩ rfl) ?_; conv => whnf)
    | (refine VR.opk hTb rfl rfl (o_app0 (f := encCol) (m := s) (q := 113) hTb rfl rfl rfl rfl rfl rfl rfl rfl rfl rfl (by omega) (by show _ * 64 ≤ _; omega) (by unfold maxLen; omega)) ?_; conv => whnf)
    | (refine DT.opk hTb rfl (o_app0 (f := encCol) (m := s) (q := 113) hTb rfl rfl rfl rfl rfl rfl rfl rfl rfl rfl (by omega) (by show _ * 64 ≤ _; omega) (by unfold maxLen; omega)) ?_; conv => whnf)
    | (refine VR.pure hTb rfl rfl (o_purN (cR) rfl rfl rfl ⟨rfl, rfl, rfl, rfl⟩ rfl) ?_; conv => whnf)
    | (refine DT.pure hTb rfl (o_purN (cR) rfl rfl rfl ⟨rfl, rfl, rfl, rfl⟩ rfl) ?_; conv => whnf)
    | (refine Need.mk ?_; exact ⟨rfl, by omega, by omega⟩)
    | (refine VR.op hTb rfl rfl (o_storeM hTb rfl rfl rfl rfl rfl (hrow) rfl rfl rfl ⟨rfl, by decide⟩ (c' := ⟨_, _, _, _, ⟨_, _, _⟩⟩) rfl) rfl ?_; conv => whnf)
    | (refine DT.op hTb rfl (o_storeM hTb rfl rfl rfl rfl rfl (hrow) rfl rfl rfl ⟨rfl, by decide⟩ (c' := ⟨_, _, _, _, ⟨_, _, _⟩⟩) rfl) rfl ?_; conv => whnf))
    all_goals first
      | exact endW [113] rfl rfl rfl rfl rfl (LeS.of_eq (congrArg (fun n => Slot.one (.own 0 0 n)) (by simp))) rfl rfl
      | trace_state
  rw [if_neg k3]
  by_cases k4 : kd = 4
  · subst k4
    rw [if_pos rfl] at hb cR
    rw [if_pos rfl]
    generalize s[j] = sj at hrow hrowI hmj
    obtain ⟨x1, x2, x3, x4, ⟨x5, x6, x7⟩⟩ := sj
    have cV := c_specValAs x5 x6 x7 ck (by have := hmj.2; simp only at this; unfold maxLen; omega)
    obtain ⟨⟨y1, y2, y3⟩, hy⟩ : ∃ y, valAs ⟨x5, x6, x7⟩ ck = y := ⟨_, rfl⟩
    rw [hy] at cV
    by_cases hw : nw.toList = (⟨#[]⟩ : ByteArray).toList ∧ ck ≠ x2
    · rw [if_pos hw, hset]
      simp only [ccKind, hy]
      have hrow2 : (s.set (0 + ((j : Nat) : Int).toNat) ⟨x1, ck, x3, x4, ⟨x5, x6, x7⟩⟩)[0 + ((j : Nat) : Int).toNat]? = some ⟨x1, ck, x3, x4, ⟨x5, x6, x7⟩⟩ := by rw [Int.toNat_natCast, Nat.zero_add, List.getElem?_set_self hj]
      have e2 : s.set (0 + ((j : Nat) : Int).toNat) ⟨x1, ck, x3, x4, ⟨y1, y2, y3⟩⟩ = (s.set (0 + ((j : Nat) : Int).toNat) ⟨x1, ck, x3, x4, ⟨x5, x6, x7⟩⟩).set (0 + ((j : Nat) : Int).toNat) ⟨x1, ck, x3, x4, ⟨y1, y2, y3⟩⟩ := by rw [List.set_set]
      rw [e2]
      (conv => whnf); repeat' (first
    | (exact absurd hw.1 (by simpa using h))
    | (exact absurd (by simpa using h) hw.2)
    | (exact absurd (hb.symm.trans (nott h)) (by decide))
    | (refine And.intro ?_ ?_ <;> ((try intro h) <;> (try simp only [Bool.not_true, Bool.not_false, decide_eq_true_eq, decide_eq_false_iff_not, Int.not_lt, Int.not_le, gt_iff_lt, ge_iff_le] at h) <;> first | exact absurd h Bool.false_ne_true | exact absurd h.symm Bool.false_ne_true | conv => whnf))
    | (refine VL.drawS hTb hMix (by kernel_rfl) (by kernel_rfl) (by kernel_rfl) ?_; conv => whnf)
    | (refine Need.mk ?_; kernel_rfl) | (refine Need.mk ⟨rfl, ?_⟩; decide)
    | ((exfalso; omega))
    | (refine VR.pure hTb rfl rfl (o_purN (cA) rfl rfl rfl ⟨rfl, rfl, rfl, rfl⟩ rfl) ?_; conv => whnf)
    | (refine DT.pure hTb rfl (o_purN (cA) rfl rfl rfl ⟨rfl, rfl, rfl, rfl⟩ rfl) ?_; conv => whnf)
    | (refine VR.opk hTb rfl rfl (o_app0 (f := encCol) (m := s) (q := 113) hTb rfl rfl rfl rfl rfl rfl rfl rfl rfl rfl (by omega) (by show _ * 64 ≤ _; omega) (by unfold maxLen; omega)) ?_; conv => whnf)
    | (refine DT.opk hTb rfl (o_app0 (f := encCol) (m := s) (q := 113) hTb rfl rfl rfl rfl rfl rfl rfl rfl rfl rfl (by omega) (by show _ * 64 ≤ _; omega) (by unfold maxLen; omega)) ?_; conv => whnf)
    | (refine VR.pure hTb rfl rfl (o_purN (cR) rfl rfl rfl ⟨rfl, rfl, rfl, rfl⟩ rfl) ?_; conv => whnf)
    | (refine DT.pure hTb rfl (o_purN (cR) rfl rfl rfl ⟨rfl, rfl, rfl, rfl⟩ rfl) ?_; conv => whnf)
    | (refine VR.op hTb rfl rfl (o_index_imm hTb rfl rfl rfl rfl rfl rfl rfl (by omega) (hrowI)) rfl ?_; conv => whnf)
    | (refine DT.op hTb rfl (o_index_imm hTb rfl rfl rfl rfl rfl rfl rfl (by omega) (hrowI)) rfl ?_; conv => whnf)
    | (refine Need.mk ?_; exact ⟨rfl, by omega, by omega⟩)
    | (refine VR.op hTb rfl rfl (o_storeM hTb rfl rfl rfl rfl rfl (hrow) rfl rfl rfl ⟨rfl, by decide⟩ (c' := ⟨_, _, _, _, ⟨_, _, _⟩⟩) rfl) rfl ?_; conv => whnf)
    | (refine DT.op hTb rfl (o_storeM hTb rfl rfl rfl rfl rfl (hrow) rfl rfl rfl ⟨rfl, by decide⟩ (c' := ⟨_, _, _, _, ⟨_, _, _⟩⟩) rfl) rfl ?_; conv => whnf)
    | (refine VR.pure hTb rfl rfl (o_purN (cV) rfl rfl rfl ⟨rfl, rfl, rfl, rfl⟩ rfl) ?_; conv => whnf)
    | (refine DT.pure hTb rfl (o_purN (cV) rfl rfl rfl ⟨rfl, rfl, rfl, rfl⟩ rfl) ?_; conv => whnf)
    | (refine VR.op hTb rfl rfl (o_storeM hTb rfl rfl rfl rfl rfl (hrow2) rfl rfl rfl ⟨rfl, by decide⟩ (c' := ⟨_, _, _, _, ⟨_, _, _⟩⟩) rfl) rfl ?_; conv => whnf)
    | (refine DT.op hTb rfl (o_storeM hTb rfl rfl rfl rfl rfl (hrow2) rfl rfl rfl ⟨rfl, by decide⟩ (c' := ⟨_, _, _, _, ⟨_, _, _⟩⟩) rfl) rfl ?_; conv => whnf))
      all_goals first
        | exact endW [113] rfl rfl rfl rfl rfl (LeS.of_eq (congrArg (fun n => Slot.one (.own 0 0 n)) (by simp))) rfl rfl
        | trace_state
    · rw [if_neg hw]
      (conv => whnf); repeat' (first
    | (exact absurd (hb.symm.trans (nott h)) (by decide))
    | (refine And.intro ?_ ?_ <;> ((try intro h) <;> (try simp only [Bool.not_true, Bool.not_false, decide_eq_true_eq, decide_eq_false_iff_not, Int.not_lt, Int.not_le, gt_iff_lt, ge_iff_le] at h) <;> first | exact absurd h Bool.false_ne_true | exact absurd h.symm Bool.false_ne_true | conv => whnf))
    | (refine VL.drawS hTb hMix (by kernel_rfl) (by kernel_rfl) (by kernel_rfl) ?_; conv => whnf)
    | (refine Need.mk ?_; kernel_rfl) | (refine Need.mk ⟨rfl, ?_⟩; decide)
    | ((exfalso; omega))
    | (refine VR.pure hTb rfl rfl (o_purN (cA) rfl rfl rfl ⟨rfl, rfl, rfl, rfl⟩ rfl) ?_; conv => whnf)
    | (refine DT.pure hTb rfl (o_purN (cA) rfl rfl rfl ⟨rfl, rfl, rfl, rfl⟩ rfl) ?_; conv => whnf)
    | (refine VR.opk hTb rfl rfl (o_app0 (f := encCol) (m := s) (q := 113) hTb rfl rfl rfl rfl rfl rfl rfl rfl rfl rfl (by omega) (by show _ * 64 ≤ _; omega) (by unfold maxLen; omega)) ?_; conv => whnf)
    | (refine DT.opk hTb rfl (o_app0 (f := encCol) (m := s) (q := 113) hTb rfl rfl rfl rfl rfl rfl rfl rfl rfl rfl (by omega) (by show _ * 64 ≤ _; omega) (by unfold maxLen; omega)) ?_; conv => whnf)
    | (refine VR.pure hTb rfl rfl (o_purN (cR) rfl rfl rfl ⟨rfl, rfl, rfl, rfl⟩ rfl) ?_; conv => whnf)
    | (refine DT.pure hTb rfl (o_purN (cR) rfl rfl rfl ⟨rfl, rfl, rfl, rfl⟩ rfl) ?_; conv => whnf)
    | (refine VR.op hTb rfl rfl (o_index_imm hTb rfl rfl rfl rfl rfl rfl rfl (by omega) (hrowI)) rfl ?_; conv => whnf)
    | (refine DT.op hTb rfl (o_index_imm hTb rfl rfl rfl rfl rfl rfl rfl (by omega) (hrowI)) rfl ?_; conv => whnf)
    | (refine Need.mk ?_; exact ⟨rfl, by omega, by omega⟩)
    | (refine VR.op hTb rfl rfl (o_storeM hTb rfl rfl rfl rfl rfl (hrow) rfl rfl rfl ⟨rfl, by decide⟩ (c' := ⟨_, _, _, _, ⟨_, _, _⟩⟩) rfl) rfl ?_; conv => whnf)
    | (refine DT.op hTb rfl (o_storeM hTb rfl rfl rfl rfl rfl (hrow) rfl rfl rfl ⟨rfl, by decide⟩ (c' := ⟨_, _, _, _, ⟨_, _, _⟩⟩) rfl) rfl ?_; conv => whnf)
    | (refine VR.pure hTb rfl rfl (o_purN (cV) rfl rfl rfl ⟨rfl, rfl, rfl, rfl⟩ rfl) ?_; conv => whnf)
    | (refine DT.pure hTb rfl (o_purN (cV) rfl rfl rfl ⟨rfl, rfl, rfl, rfl⟩ rfl) ?_; conv => whnf))
      all_goals first
        | exact endW [226] rfl rfl rfl rfl rfl (LeS.refl _) rfl rfl
        | (exfalso; clear cA cR cV; simp_all; done)
        | trace_state
  rw [if_neg k4]
  rw [if_neg k4] at hb cR
  (conv => whnf); repeat' (first
    | (exact absurd (beq_iff_eq.1 h) k1)
    | (exact absurd (beq_iff_eq.1 h) k2)
    | (exact absurd (beq_iff_eq.1 h) k3)
    | (exact absurd (beq_iff_eq.1 h) k4)
    | (exact absurd (hb.symm.trans (nott h)) (by decide))
    | (refine And.intro ?_ ?_ <;> ((try intro h) <;> (try simp only [Bool.not_true, Bool.not_false, decide_eq_true_eq, decide_eq_false_iff_not, Int.not_lt, Int.not_le, gt_iff_lt, ge_iff_le] at h) <;> first | exact absurd h Bool.false_ne_true | exact absurd h.symm Bool.false_ne_true | conv => whnf))
    | (refine VL.drawS hTb hMix (by kernel_rfl) (by kernel_rfl) (by kernel_rfl) ?_; conv => whnf)
    | (refine Need.mk ?_; kernel_rfl) | (refine Need.mk ⟨rfl, ?_⟩; decide)
    | ((exfalso; omega))
    | (refine VR.pure hTb rfl rfl (o_purN (cA) rfl rfl rfl ⟨rfl, rfl, rfl, rfl⟩ rfl) ?_; conv => whnf)
    | (refine DT.pure hTb rfl (o_purN (cA) rfl rfl rfl ⟨rfl, rfl, rfl, rfl⟩ rfl) ?_; conv => whnf)
    | (refine VR.opk hTb rfl rfl (o_app0 (f := encCol) (m := s) (q := 113) hTb rfl rfl rfl rfl rfl rfl rfl rfl rfl rfl (by omega) (by show _ * 64 ≤ _; omega) (by unfold maxLen; omega)) ?_; conv => whnf)
    | (refine DT.opk hTb rfl (o_app0 (f := encCol) (m := s) (q := 113) hTb rfl rfl rfl rfl rfl rfl rfl rfl rfl rfl (by omega) (by show _ * 64 ≤ _; omega) (by unfold maxLen; omega)) ?_; conv => whnf)
    | (refine VR.pure hTb rfl rfl (o_purN (cR) rfl rfl rfl ⟨rfl, rfl, rfl, rfl⟩ rfl) ?_; conv => whnf)
    | (refine DT.pure hTb rfl (o_purN (cR) rfl rfl rfl ⟨rfl, rfl, rfl, rfl⟩ rfl) ?_; conv => whnf))
  all_goals first
    | exact endW [226] rfl rfl rfl rfl rfl (LeS.refl _) rfl rfl
    | trace_state
end Go.Vl

namespace Go.Vl
open Go Go.RowKit Go.Proofs
set_option maxRecDepth 100000
set_option linter.unusedSimpArgs false
set_option linter.unusedVariables false
set_option maxHeartbeats 4000000

theorem shapeOk_nil : shapeOk [] = false := by
  cases e : shapeOk [] with
  | false => rfl
  | true => have := shapeOk_len e; simp at this
theorem chDo_len {s : List Col} {c : Change} {L : List Col} (h : chDo s c = some L) : L.length ≤ s.length + 1 := by
  unfold chDo at h
  split at h; cases h
  split at h
  · split at h; cases h; cases h; simp
  split at h; cases h
  split at h
  · cases h; have := List.length_eraseIdx_le s (nameAt s c.name).toNat; omega
  split at h
  · cases h; simp
  split at h; cases h; cases h; simp
theorem chDo_md {s : List Col} {c : Change} {L : List Col} (hs : mdCols s) (hc : c.md) (h : chDo s c = some L) : mdCols L := by
  obtain ⟨h1, h2, h3⟩ := hc
  unfold chDo at h
  split at h; cases h
  split at h
  · split at h; cases h; cases h; exact hs.app h3
  split at h; cases h
  rename_i hn
  have hj : (nameAt s c.name).toNat < s.length := by
    rcases nameAt_spec s c.name with ⟨h4, _⟩ | ⟨j, hj, h4, _⟩ <;> omega
  split at h
  · cases h; exact hs.erase
  split at h
  · cases h; exact hs.set ⟨h2, (md_getD hs hj).2⟩
  split at h; cases h; cases h
  exact hs.set ⟨(md_getD hs hj).1, by have := valAs_size (s.getD (nameAt s c.name).toNat (kCol 0)).d c.col.kind; show (valAs _ _).t.size ≤ _; omega⟩
theorem okO_md {s : List Col} {o : Option (List Col)} (hs : mdCols s) (h : ∀ L, o = some L → mdCols L) : mdCols (okO s o).1 := by
  unfold okO
  cases o with
  | none => exact hs
  | some L => simp only; split; exact h L rfl; exact hs
theorem shDo_md {s : List Col} {c : Change} (hs : mdCols s) (hc : c.md) : mdCols (shDo s c).1 := okO_md hs fun _ h => chDo_md hs hc h
theorem okO_len {s : List Col} {o : Option (List Col)} (h : ∀ L, o = some L → L.length ≤ s.length + 1) : (okO s o).1.length ≤ s.length + 1 := by
  unfold okO
  cases o with
  | none => simp
  | some L => simp only; split; exact h L rfl; simp
theorem shDo_len {s : List Col} {c : Change} : (shDo s c).1.length ≤ s.length + 1 := okO_len fun _ h => chDo_len h
theorem shDo_ok {s : List Col} {c : Change} (h : (shDo s c).2 = true) : shapeOk (shDo s c).1 = true ∧ ∃ L, chDo s c = some L ∧ (shDo s c).1 = L := by
  unfold shDo okO at h ⊢
  cases e : chDo s c with
  | none => rw [e] at h; cases h
  | some L =>
    rw [e] at h
    simp only at h ⊢
    split at h
    · rename_i h1; rw [if_pos h1]; exact ⟨h1, L, rfl, rfl⟩
    · cases h
theorem c_specShapeDo (s : List Col) (c : Change) (hl : s.length ≤ 1900000) (hs : mdCols s) (hc : c.md) : CallsV Tryz.prog 149 [colsI s, .agg (encChange c)] [] (funQ (shS (sdo s c)) [] (shN (sdo s c))) := by
  have c1 := c_specShapeOk s (by unfold maxLen; omega) hs.ok
  have c2 := c_l2Do s c hl hs hc
  have hlen := @chDo_len s c
  have hmd := fun L => @chDo_md s c L hs hc
  obtain ⟨kd, nm, nw, ⟨cn, ck, k1, k2, ⟨d1, d2, d3⟩⟩⟩ := c
  unfold sdo shDo
  obtain ⟨b, hb⟩ : ∃ b, shapeOk s = b := ⟨_, rfl⟩
  rw [hb] at c1 ⊢
  refine funF_walk hTb Tryz.func149 rfl rfl Tryz.ntmps149 (by simp) (by simp) ?_
  cases b
  · rw [if_neg (by simp)]
    (conv => whnf); repeat' (first
    | (refine And.intro ?_ ?_ <;> ((try intro h) <;> (try simp only [Bool.not_true, Bool.not_false, decide_eq_true_eq, decide_eq_false_iff_not, Int.not_lt, Int.not_le, gt_iff_lt, ge_iff_le] at h) <;> first | exact absurd h Bool.false_ne_true | exact absurd h.symm Bool.false_ne_true | conv => whnf))
    | (refine VL.drawS hTb hMix (by kernel_rfl) (by kernel_rfl) (by kernel_rfl) ?_; conv => whnf)
    | (refine Need.mk ?_; kernel_rfl) | (refine Need.mk ⟨rfl, ?_⟩; decide)
    | (refine VR.pure hTb rfl rfl (o_purN (c1) rfl rfl rfl ⟨rfl, rfl, rfl, rfl⟩ rfl) ?_; conv => whnf)
    | (refine DT.pure hTb rfl (o_purN (c1) rfl rfl rfl ⟨rfl, rfl, rfl, rfl⟩ rfl) ?_; conv => whnf))
    exact endW [110] rfl rfl rfl rfl rfl (LeS.refl _) rfl rfl
  · rw [if_pos rfl]
    generalize chDo s ⟨kd, nm, nw, ⟨cn, ck, k1, k2, ⟨d1, d2, d3⟩⟩⟩ = D at c2 hlen hmd
    have hD : (D.getD []).length ≤ 2000000 ∧ mdCols (D.getD []) := by
      cases D with
      | none => exact ⟨by simp, fun x hx => by cases hx⟩
      | some L => exact ⟨by have := hlen rfl; show L.length ≤ _; omega, hmd L rfl⟩
    have c3 := c_specShapeOk (D.getD []) (by unfold maxLen; omega) hD.2.ok
    have hok : okO s D = if shapeOk (D.getD []) = true then (D.getD [], true) else (s, false) := by
      cases D with
      | none => simp only [okO, Option.getD_none, shapeOk_nil]; rfl
      | some L => rfl
    rw [hok]
    clear hok
    generalize D.getD [] = L at c2 c3 hD
    obtain ⟨x, hx⟩ : ∃ x, shapeOk L = x := ⟨_, rfl⟩
    rw [hx] at c3 ⊢
    cases x <;> (conv => whnf); repeat' (first
    | (refine And.intro ?_ ?_ <;> ((try intro h) <;> (try simp only [Bool.not_true, Bool.not_false, decide_eq_true_eq, decide_eq_false_iff_not, Int.not_lt, Int.not_le, gt_iff_lt, ge_iff_le] at h) <;> first | exact absurd h Bool.false_ne_true | exact absurd h.symm Bool.false_ne_true | conv => whnf))
    | (refine VL.drawS hTb hMix (by kernel_rfl) (by kernel_rfl) (by kernel_rfl) ?_; conv => whnf)
    | (refine Need.mk ?_; kernel_rfl) | (refine Need.mk ⟨rfl, ?_⟩; decide)
    | (refine VR.pure hTb rfl rfl (o_purN (c1) rfl rfl rfl ⟨rfl, rfl, rfl, rfl⟩ rfl) ?_; conv => whnf)
    | (refine DT.pure hTb rfl (o_purN (c1) rfl rfl rfl ⟨rfl, rfl, rfl, rfl⟩ rfl) ?_; conv => whnf)
    | (refine VR.fun hTb rfl rfl (o_funN (c2) false [] (fun h => by cases h) (by simp) rfl rfl rfl rfl rfl ⟨rfl, rfl, rfl, rfl⟩ rfl rfl) ?_; conv => whnf)
    | (refine DT.fun hTb rfl (o_funN (c2) false [] (fun h => by cases h) (by simp) rfl rfl rfl rfl rfl ⟨rfl, rfl, rfl, rfl⟩ rfl rfl) rfl ?_; conv => whnf)
    | (refine VR.pure hTb rfl rfl (o_purN c3 rfl rfl rfl ⟨rfl, rfl, rfl, rfl⟩ ?_) ?_; exact congrArg (fun s => [s]) brw; conv => whnf)
    | (refine VR.opk hTb rfl rfl (o_app0 (f := encCol) (m := s) (q := 119) hTb rfl rfl rfl rfl rfl rfl rfl rfl rfl rfl (by omega) (by show _ * 64 ≤ _; omega) (by unfold maxLen; omega)) ?_; conv => whnf)
    | (refine DT.opk hTb rfl (o_app0 (f := encCol) (m := s) (q := 119) hTb rfl rfl rfl rfl rfl rfl rfl rfl rfl rfl (by omega) (by show _ * 64 ≤ _; omega) (by unfold maxLen; omega)) ?_; conv => whnf))
    · rw [if_neg (by simp)]
      exact endW [119] rfl rfl rfl rfl rfl (LeS.refl _) rfl rfl
    · rw [if_pos rfl]
      exact endW [1052] rfl rfl rfl rfl rfl (LeS.refl _) rfl rfl
-- rows
def Val.md (v : Val) : Prop := v.t.size ≤ 1048576
def mdVals (l : List Val) : Prop := ∀ x ∈ l, x.md
def rwCh (s : List Col) (c : Change) (row : List Val) : List Val :=
  if c.kind = 1 then row ++ [c.col.d]
  else if c.kind = 2 then row.eraseIdx (nameAt s c.name).toNat
  else if c.kind = 4 then row.set (nameAt s c.name).toNat (valAs (row.getD (nameAt s c.name).toNat ⟨0, 0, ⟨#[]⟩⟩) c.col.kind)
  else row
/-- The change finds the place that it needs. -/
def chAt (s : List Col) (c : Change) (n : Nat) : Prop := (c.kind = 2 ∨ c.kind = 4) → ∃ j : Nat, j < n ∧ nameAt s c.name = (j : Int)
theorem grNewVal (n : Nat) (l : List Val) : GrS (.one (.own 0 0 n)) ∧ (∀ ob, some ob ∈ ([] : List (Option Ob)) → GrO ob) ∧ ∀ ob ∈ [Ob.arr 47 3 (l.map encVal)], GrO ob :=
  ⟨rfl, fun _ h => by simp at h, fun ob h => by simp at h; subst h; exact grVals l⟩
theorem brwEV {l : List Val} {k : Nat} (h : k < l.length) (z : Val) : Slot.one (.imm 3 ((((l.eraseIdx k ++ [z]).map encVal).drop 0).take (l.length - 1))) = valsI (l.eraseIdx k) := by
  have e : (l.eraseIdx k).length = l.length - 1 := by rw [List.length_eraseIdx, if_pos h]
  rw [List.drop_zero, List.map_append, List.take_left' (by rw [List.length_map, e])]; rfl
theorem c_changeRow (s : List Col) (c : Change) (row : List Val) (hl : s.length ≤ 1900000) (hr : row.length ≤ 1900000) (hs : mdCols s) (hrow : mdVals row) (hat : chAt s c row.length) :
    CallsV Tryz.prog 213 [colsI s, .agg (encChange c), valsI row] [] (funQ (.one (.own 0 0 (rwCh s c row).length)) [] [.arr 47 3 ((rwCh s c row).map encVal)]) := by
  obtain ⟨kd, nm, nw, ⟨cn, ck, c1, c2, ⟨d1, d2, d3⟩⟩⟩ := c
  have cA := c_colAt s nm (by unfold maxLen; omega)
  have c0 := c_cloneVal row (by omega)
  simp only [chAt] at hat
  unfold rwCh
  simp only
  refine funF_walk hTb Tryz.func213 rfl rfl Tryz.ntmps213 (by simp) (by simp) ?_
  by_cases k1 : kd = 1
  · subst k1
    rw [if_pos rfl]
    have cC := c_cloneVal (row ++ [⟨d1, d2, d3⟩]) (by simp; omega)
    (conv => whnf); repeat' (first
    | (refine And.intro ?_ ?_ <;> ((try intro h) <;> (try simp only [Bool.not_true, Bool.not_false, decide_eq_true_eq, decide_eq_false_iff_not, Int.not_lt, Int.not_le, gt_iff_lt, ge_iff_le] at h) <;> first | exact absurd h Bool.false_ne_true | exact absurd h.symm Bool.false_ne_true | conv => whnf))
    | (refine VL.drawS hTb hMix (by kernel_rfl) (by kernel_rfl) (by kernel_rfl) ?_; conv => whnf)
    | (refine Need.mk ?_; kernel_rfl) | (refine Need.mk ⟨rfl, ?_⟩; decide)
    | (refine VR.fun hTb rfl rfl (o_funN (c0) false [] (fun h => by cases h) (by simp) rfl rfl rfl rfl rfl ⟨rfl, rfl, rfl, rfl⟩ rfl rfl) ?_; conv => whnf)
    | (refine DT.fun hTb rfl (o_funN (c0) false [] (fun h => by cases h) (by simp) rfl rfl rfl rfl rfl ⟨rfl, rfl, rfl, rfl⟩ rfl rfl) rfl ?_; conv => whnf)
    | (refine VR.pure hTb rfl rfl (o_purN (cA) rfl rfl rfl ⟨rfl, rfl, rfl, rfl⟩ rfl) ?_; conv => whnf)
    | (refine DT.pure hTb rfl (o_purN (cA) rfl rfl rfl ⟨rfl, rfl, rfl, rfl⟩ rfl) ?_; conv => whnf)
    | (refine VR.opk hTb rfl rfl (o_app1 (q := 124) (a := ⟨_, _, _⟩) hTb rfl rfl rfl rfl rfl rfl rfl rfl rfl rfl rfl rfl (by omega) (by show _ * 32 ≤ _; omega) (by unfold maxLen; omega)) ?_; conv => whnf)
    | (refine DT.opk hTb rfl (o_app1 (q := 124) (a := ⟨_, _, _⟩) hTb rfl rfl rfl rfl rfl rfl rfl rfl rfl rfl rfl rfl (by omega) (by show _ * 32 ≤ _; omega) (by unfold maxLen; omega)) ?_; conv => whnf)
    | (refine VR.fun hTb rfl rfl (o_funN (cC) true [] (fun _ => grNewVal _ _) (by simp) rfl rfl rfl rfl rfl ⟨rfl, rfl, rfl, rfl⟩ ?_ rfl) ?_; exact congrArg (fun s => [s]) (brwG (by simp)); conv => whnf)
    | (refine DT.fun hTb rfl (o_funN (cC) true [] (fun _ => grNewVal _ _) (by simp) rfl rfl rfl rfl rfl ⟨rfl, rfl, rfl, rfl⟩ ?_ rfl) rfl ?_; exact congrArg (fun s => [s]) (brwG (by simp)); conv => whnf))
    exact endW [1184] rfl rfl rfl rfl rfl (LeS.refl _) rfl rfl
  rw [if_neg k1]
  by_cases k2 : kd = 2
  · subst k2
    rw [if_pos rfl]
    obtain ⟨j, hj, hn⟩ := hat (.inl rfl)
    rw [hn] at cA ⊢
    rw [Int.toNat_natCast]
    have ew : IntKind.i64.wrap ((j : Int) + 1) = ((j + 1 : Nat) : Int) := by rw [IntKind.wrap_i64]; omega
    have cD := c_DeleteVal row j hj (by omega)
    have hlen := List.length_eraseIdx_le row j
    have cC := c_cloneVal (row.eraseIdx j) (by omega)
    (conv => whnf); repeat' (first
    | (refine And.intro ?_ ?_ <;> ((try intro h) <;> (try simp only [Bool.not_true, Bool.not_false, decide_eq_true_eq, decide_eq_false_iff_not, Int.not_lt, Int.not_le, gt_iff_lt, ge_iff_le] at h) <;> first | exact absurd h Bool.false_ne_true | exact absurd h.symm Bool.false_ne_true | conv => whnf))
    | (refine VL.drawS hTb hMix (by kernel_rfl) (by kernel_rfl) (by kernel_rfl) ?_; conv => whnf)
    | (refine Need.mk ?_; kernel_rfl) | (refine Need.mk ⟨rfl, ?_⟩; decide)
    | (refine VR.fun hTb rfl rfl (o_funN (c0) false [] (fun h => by cases h) (by simp) rfl rfl rfl rfl rfl ⟨rfl, rfl, rfl, rfl⟩ rfl rfl) ?_; conv => whnf)
    | (refine DT.fun hTb rfl (o_funN (c0) false [] (fun h => by cases h) (by simp) rfl rfl rfl rfl rfl ⟨rfl, rfl, rfl, rfl⟩ rfl rfl) rfl ?_; conv => whnf)
    | (refine VR.pure hTb rfl rfl (o_purN (cA) rfl rfl rfl ⟨rfl, rfl, rfl, rfl⟩ rfl) ?_; conv => whnf)
    | (refine DT.pure hTb rfl (o_purN (cA) rfl rfl rfl ⟨rfl, rfl, rfl, rfl⟩ rfl) ?_; conv => whnf)
    | (refine VR.fun hTb rfl rfl (o_funN cD false [1040] (fun h => by cases h) (by simp) rfl rfl rfl rfl rfl ⟨rfl, rfl, rfl, rfl⟩ ?_ rfl) ?_; exact congrArg (fun x => [Slot.one (.own 0 0 row.length), iS j, .one (.g (.int .i64 x))]) ew; conv => whnf)
    | (refine VR.fun hTb rfl rfl (o_funN (cC) true [] (fun _ => grNewVal _ _) (by simp) rfl rfl rfl rfl rfl ⟨rfl, rfl, rfl, rfl⟩ ?_ rfl) ?_; exact congrArg (fun s => [s]) (brwEV hj _); conv => whnf)
    | (refine DT.fun hTb rfl (o_funN (cC) true [] (fun _ => grNewVal _ _) (by simp) rfl rfl rfl rfl rfl ⟨rfl, rfl, rfl, rfl⟩ ?_ rfl) rfl ?_; exact congrArg (fun s => [s]) (brwEV hj _); conv => whnf))
    exact endW [1184] rfl rfl rfl rfl rfl (LeS.refl _) rfl rfl
  rw [if_neg k2]
  by_cases k4 : kd = 4
  · subst k4
    rw [if_pos rfl]
    obtain ⟨j, hj, hn⟩ := hat (.inr rfl)
    rw [hn] at cA ⊢
    rw [Int.toNat_natCast]
    have eg : row.getD j ⟨0, 0, ⟨#[]⟩⟩ = row[j] := by simp [List.getD, hj]
    rw [eg]
    have hmj : row[j].md := hrow _ (List.getElem_mem hj)
    have hrw : row[0 + ((j : Nat) : Int).toNat]? = some row[j] := by rw [Int.toNat_natCast, Nat.zero_add, List.getElem?_eq_getElem hj]
    have hset : ∀ v : Val, row.set j v = row.set (0 + ((j : Nat) : Int).toNat) v := fun v => by rw [Int.toNat_natCast, Nat.zero_add]
    generalize row[j] = vj at hrw hmj
    obtain ⟨x1, x2, x3⟩ := vj
    have cV := c_implValAs x1 x2 x3 ck (by have : x3.size ≤ 1048576 := hmj; omega)
    obtain ⟨⟨y1, y2, y3⟩, hy⟩ : ∃ y, valAs ⟨x1, x2, x3⟩ ck = y := ⟨_, rfl⟩
    rw [hy] at cV ⊢
    rw [hset]
    have cC := c_cloneVal (row.set (0 + ((j : Nat) : Int).toNat) ⟨y1, y2, y3⟩) (by simp; omega)
    (conv => whnf); repeat' (first
    | (refine And.intro ?_ ?_ <;> ((try intro h) <;> (try simp only [Bool.not_true, Bool.not_false, decide_eq_true_eq, decide_eq_false_iff_not, Int.not_lt, Int.not_le, gt_iff_lt, ge_iff_le] at h) <;> first | exact absurd h Bool.false_ne_true | exact absurd h.symm Bool.false_ne_true | conv => whnf))
    | (refine VL.drawS hTb hMix (by kernel_rfl) (by kernel_rfl) (by kernel_rfl) ?_; conv => whnf)
    | (refine Need.mk ?_; kernel_rfl) | (refine Need.mk ⟨rfl, ?_⟩; decide)
    | (refine VR.fun hTb rfl rfl (o_funN (c0) false [] (fun h => by cases h) (by simp) rfl rfl rfl rfl rfl ⟨rfl, rfl, rfl, rfl⟩ rfl rfl) ?_; conv => whnf)
    | (refine DT.fun hTb rfl (o_funN (c0) false [] (fun h => by cases h) (by simp) rfl rfl rfl rfl rfl ⟨rfl, rfl, rfl, rfl⟩ rfl rfl) rfl ?_; conv => whnf)
    | (refine VR.pure hTb rfl rfl (o_purN (cA) rfl rfl rfl ⟨rfl, rfl, rfl, rfl⟩ rfl) ?_; conv => whnf)
    | (refine DT.pure hTb rfl (o_purN (cA) rfl rfl rfl ⟨rfl, rfl, rfl, rfl⟩ rfl) ?_; conv => whnf)
    | (refine Need.mk ?_; exact ⟨rfl, by omega, by omega⟩)
    | (refine VR.op hTb rfl rfl (o_loadM hTb rfl rfl rfl rfl (hrw) ⟨by decide, by decide⟩) rfl ?_; conv => whnf)
    | (refine DT.op hTb rfl (o_loadM hTb rfl rfl rfl rfl (hrw) ⟨by decide, by decide⟩) rfl ?_; conv => whnf)
    | (refine VR.pure hTb rfl rfl (o_purN (cV) rfl rfl rfl ⟨rfl, rfl, rfl, rfl⟩ rfl) ?_; conv => whnf)
    | (refine DT.pure hTb rfl (o_purN (cV) rfl rfl rfl ⟨rfl, rfl, rfl, rfl⟩ rfl) ?_; conv => whnf)
    | (refine VR.op hTb rfl rfl (o_storeM hTb rfl rfl rfl rfl rfl (hrw) rfl rfl rfl ⟨rfl, by decide⟩ (c' := ⟨_, _, _⟩) rfl) rfl ?_; conv => whnf)
    | (refine DT.op hTb rfl (o_storeM hTb rfl rfl rfl rfl rfl (hrw) rfl rfl rfl ⟨rfl, by decide⟩ (c' := ⟨_, _, _⟩) rfl) rfl ?_; conv => whnf)
    | (refine VR.fun hTb rfl rfl (o_funN (cC) true [] (fun _ => grNewVal _ _) (by simp) rfl rfl rfl rfl rfl ⟨rfl, rfl, rfl, rfl⟩ ?_ rfl) ?_; exact congrArg (fun s => [s]) (brwG (by simp)); conv => whnf)
    | (refine DT.fun hTb rfl (o_funN (cC) true [] (fun _ => grNewVal _ _) (by simp) rfl rfl rfl rfl rfl ⟨rfl, rfl, rfl, rfl⟩ ?_ rfl) rfl ?_; exact congrArg (fun s => [s]) (brwG (by simp)); conv => whnf))
    exact endW [1184] rfl rfl rfl rfl rfl (LeS.refl _) rfl rfl
  rw [if_neg k4]
  (conv => whnf); repeat' (first
    | (exact absurd (beq_iff_eq.1 h) k1)
    | (exact absurd (beq_iff_eq.1 h) k2)
    | (exact absurd (beq_iff_eq.1 h) k4)
    | (refine And.intro ?_ ?_ <;> ((try intro h) <;> (try simp only [Bool.not_true, Bool.not_false, decide_eq_true_eq, decide_eq_false_iff_not, Int.not_lt, Int.not_le, gt_iff_lt, ge_iff_le] at h) <;> first | exact absurd h Bool.false_ne_true | exact absurd h.symm Bool.false_ne_true | conv => whnf))
    | (refine VL.drawS hTb hMix (by kernel_rfl) (by kernel_rfl) (by kernel_rfl) ?_; conv => whnf)
    | (refine Need.mk ?_; kernel_rfl) | (refine Need.mk ⟨rfl, ?_⟩; decide)
    | (refine VR.fun hTb rfl rfl (o_funN (c0) false [] (fun h => by cases h) (by simp) rfl rfl rfl rfl rfl ⟨rfl, rfl, rfl, rfl⟩ rfl rfl) ?_; conv => whnf)
    | (refine DT.fun hTb rfl (o_funN (c0) false [] (fun h => by cases h) (by simp) rfl rfl rfl rfl rfl ⟨rfl, rfl, rfl, rfl⟩ rfl rfl) rfl ?_; conv => whnf)
    | (refine VR.pure hTb rfl rfl (o_purN (cA) rfl rfl rfl ⟨rfl, rfl, rfl, rfl⟩ rfl) ?_; conv => whnf)
    | (refine DT.pure hTb rfl (o_purN (cA) rfl rfl rfl ⟨rfl, rfl, rfl, rfl⟩ rfl) ?_; conv => whnf)
    | (refine VR.fun hTb rfl rfl (o_funN (c0) true [] (fun _ => grNewVal _ _) (by simp) rfl rfl rfl rfl rfl ⟨rfl, rfl, rfl, rfl⟩ ?_ rfl) ?_; exact congrArg (fun s => [s]) brw; conv => whnf)
    | (refine DT.fun hTb rfl (o_funN (c0) true [] (fun _ => grNewVal _ _) (by simp) rfl rfl rfl rfl rfl ⟨rfl, rfl, rfl, rfl⟩ ?_ rfl) rfl ?_; exact congrArg (fun s => [s]) brw; conv => whnf))
  exact endW [1184] rfl rfl rfl rfl rfl (LeS.refl _) rfl rfl
theorem c_l2Row (s : List Col) (c : Change) (row : List Val) (hl : s.length ≤ 1900000) (hr : row.length ≤ 1900000) (hs : mdCols s) (hrow : mdVals row) (hat : chAt s c row.length) :
    CallsV Tryz.prog 214 [colsI s, .agg (encChange c), valsI row] [] (funQ (.one (.own 0 0 (rwCh s c row).length)) [] [.arr 47 3 ((rwCh s c row).map encVal)]) := by
  obtain ⟨kd, nm, nw, ⟨cn, ck, c1, c2, ⟨d1, d2, d3⟩⟩⟩ := c
  have cA := c_l2At s nm (by unfold maxLen; omega)
  simp only [chAt] at hat
  unfold rwCh
  simp only
  refine funF_walk hTb Tryz.func214 rfl rfl Tryz.ntmps214 (by simp) (by simp) ?_
  by_cases k1 : kd = 1
  · subst k1
    rw [if_pos rfl]
    (conv => whnf); repeat' (first
    | (refine And.intro ?_ ?_ <;> ((try intro h) <;> (try simp only [Bool.not_true, Bool.not_false, decide_eq_true_eq, decide_eq_false_iff_not, Int.not_lt, Int.not_le, gt_iff_lt, ge_iff_le] at h) <;> first | exact absurd h Bool.false_ne_true | exact absurd h.symm Bool.false_ne_true | conv => whnf))
    | (refine VL.drawS hTb hMix (by kernel_rfl) (by kernel_rfl) (by kernel_rfl) ?_; conv => whnf)
    | (refine Need.mk ?_; kernel_rfl) | (refine Need.mk ⟨rfl, ?_⟩; decide)
    | (refine VR.pure hTb rfl rfl (o_purN (cA) rfl rfl rfl ⟨rfl, rfl, rfl, rfl⟩ rfl) ?_; conv => whnf)
    | (refine DT.pure hTb rfl (o_purN (cA) rfl rfl rfl ⟨rfl, rfl, rfl, rfl⟩ rfl) ?_; conv => whnf)
    | (refine VR.opk hTb rfl rfl (o_app0 (f := encVal) (m := row) (q := 115) hTb rfl rfl rfl rfl rfl rfl rfl rfl rfl rfl (by omega) (by show _ * 32 ≤ _; omega) (by unfold maxLen; omega)) ?_; conv => whnf)
    | (refine DT.opk hTb rfl (o_app0 (f := encVal) (m := row) (q := 115) hTb rfl rfl rfl rfl rfl rfl rfl rfl rfl rfl (by omega) (by show _ * 32 ≤ _; omega) (by unfold maxLen; omega)) ?_; conv => whnf)
    | (refine VR.opk hTb rfl rfl (o_app1 (q := 125) (a := ⟨_, _, _⟩) hTb rfl rfl rfl rfl rfl rfl rfl rfl rfl rfl rfl rfl (by omega) (by show _ * 32 ≤ _; omega) (by unfold maxLen; omega)) ?_; conv => whnf)
    | (refine DT.opk hTb rfl (o_app1 (q := 125) (a := ⟨_, _, _⟩) hTb rfl rfl rfl rfl rfl rfl rfl rfl rfl rfl rfl rfl (by omega) (by show _ * 32 ≤ _; omega) (by unfold maxLen; omega)) ?_; conv => whnf))
    exact endW [125] rfl rfl rfl rfl rfl (LeS.of_eq (congrArg (fun n => Slot.one (.own 0 0 n)) (by simp))) rfl rfl
  rw [if_neg k1]
  by_cases k2 : kd = 2
  · subst k2
    rw [if_pos rfl]
    obtain ⟨j, hj, hn⟩ := hat (.inl rfl)
    rw [hn] at cA ⊢
    rw [Int.toNat_natCast]
    have ew : IntKind.i64.wrap ((j : Int) + 1) = ((j + 1 : Nat) : Int) := by rw [IntKind.wrap_i64]; omega
    have e1 : (row.take j).length = j := by simp; omega
    have e2 : (row.drop (j + 1)).length = row.length - (j + 1) := by simp
    have el : (row.eraseIdx j).length = row.length - 1 := by rw [List.length_eraseIdx, if_pos hj]
    (conv => whnf); repeat' (first
    | (refine And.intro ?_ ?_ <;> ((try intro h) <;> (try simp only [Bool.not_true, Bool.not_false, decide_eq_true_eq, decide_eq_false_iff_not, Int.not_lt, Int.not_le, gt_iff_lt, ge_iff_le] at h) <;> first | exact absurd h Bool.false_ne_true | exact absurd h.symm Bool.false_ne_true | conv => whnf))
    | (refine VL.drawS hTb hMix (by kernel_rfl) (by kernel_rfl) (by kernel_rfl) ?_; conv => whnf)
    | (refine Need.mk ?_; kernel_rfl) | (refine Need.mk ⟨rfl, ?_⟩; decide)
    | (refine VR.pure hTb rfl rfl (o_purN (cA) rfl rfl rfl ⟨rfl, rfl, rfl, rfl⟩ rfl) ?_; conv => whnf)
    | (refine DT.pure hTb rfl (o_purN (cA) rfl rfl rfl ⟨rfl, rfl, rfl, rfl⟩ rfl) ?_; conv => whnf)
    | (refine VR.opk hTb rfl rfl (o_app0 (f := encVal) (m := row) (q := 115) hTb rfl rfl rfl rfl rfl rfl rfl rfl rfl rfl (by omega) (by show _ * 32 ≤ _; omega) (by unfold maxLen; omega)) ?_; conv => whnf)
    | (refine DT.opk hTb rfl (o_app0 (f := encVal) (m := row) (q := 115) hTb rfl rfl rfl rfl rfl rfl rfl rfl rfl rfl (by omega) (by show _ * 32 ≤ _; omega) (by unfold maxLen; omega)) ?_; conv => whnf)
    | (refine DT.op hTb rfl (o_slice_imm (n1 := 0) (n2 := j) (rows' := (row.take j).map encVal) hTb rfl rfl rfl rfl rfl rfl bnd_none (bnd_some rfl) (Nat.zero_le _) (by simp; omega) (by rw [List.drop_zero, Nat.sub_zero, List.map_take])) rfl ?_; conv => whnf)
    | (refine DT.op hTb rfl (o_slice_imm (n1 := j + 1) (n2 := (row.map encVal).length) (rows' := (row.drop (j + 1)).map encVal) hTb rfl rfl rfl rfl rfl rfl (bnd_wr rfl ew) bnd_none (by simp; omega) (by simp) (by rw [← List.map_drop]; exact List.take_of_length_le (by simp))) rfl ?_; conv => whnf)
    | (refine VR.opk hTb rfl rfl (o_app0 (f := encVal) (m := (row.take j)) (q := 132) hTb rfl rfl rfl rfl rfl rfl rfl rfl rfl rfl (by omega) (by show _ * 32 ≤ _; omega) (by unfold maxLen; omega)) ?_; conv => whnf)
    | (refine DT.opk hTb rfl (o_app0 (f := encVal) (m := (row.take j)) (q := 132) hTb rfl rfl rfl rfl rfl rfl rfl rfl rfl rfl (by omega) (by show _ * 32 ≤ _; omega) (by unfold maxLen; omega)) ?_; conv => whnf)
    | (refine DT.opk hTb rfl (o_appN (f := encVal) (l := row.take j) (m := row.drop (j + 1)) (q := 137) hTb rfl rfl rfl rfl rfl rfl rfl rfl rfl rfl rfl (by omega) (by show _ * 32 ≤ _; omega) (by unfold maxLen; omega)) ?_; conv => whnf))
    exact endW [137] rfl rfl rfl rfl rfl (LeS.of_eq (congrArg (fun n => Slot.one (.own 0 0 n)) (by rw [e1, e2, el]; omega))) rfl (congrArg (fun r => [Ob.arr 47 3 r]) (by rw [List.eraseIdx_eq_take_drop_succ]))
  rw [if_neg k2]
  by_cases k4 : kd = 4
  · subst k4
    rw [if_pos rfl]
    obtain ⟨j, hj, hn⟩ := hat (.inr rfl)
    rw [hn] at cA ⊢
    rw [Int.toNat_natCast]
    have eg : row.getD j ⟨0, 0, ⟨#[]⟩⟩ = row[j] := by simp [List.getD, hj]
    rw [eg]
    have hmj : row[j].md := hrow _ (List.getElem_mem hj)
    have hrw : row[0 + ((j : Nat) : Int).toNat]? = some row[j] := by rw [Int.toNat_natCast, Nat.zero_add, List.getElem?_eq_getElem hj]
    have hrI : (row.map encVal)[((j : Nat) : Int).toNat]? = some (encVal row[j]) := by rw [Int.toNat_natCast, List.getElem?_map, List.getElem?_eq_getElem hj]; rfl
    have hset : ∀ v : Val, row.set j v = row.set (0 + ((j : Nat) : Int).toNat) v := fun v => by rw [Int.toNat_natCast, Nat.zero_add]
    generalize row[j] = vj at hrw hmj hrI
    obtain ⟨x1, x2, x3⟩ := vj
    have cV := c_specValAs x1 x2 x3 ck (by have : x3.size ≤ 1048576 := hmj; unfold maxLen; omega)
    obtain ⟨⟨y1, y2, y3⟩, hy⟩ : ∃ y, valAs ⟨x1, x2, x3⟩ ck = y := ⟨_, rfl⟩
    rw [hy] at cV ⊢
    rw [hset]
    (conv => whnf); repeat' (first
    | (refine And.intro ?_ ?_ <;> ((try intro h) <;> (try simp only [Bool.not_true, Bool.not_false, decide_eq_true_eq, decide_eq_false_iff_not, Int.not_lt, Int.not_le, gt_iff_lt, ge_iff_le] at h) <;> first | exact absurd h Bool.false_ne_true | exact absurd h.symm Bool.false_ne_true | conv => whnf))
    | (refine VL.drawS hTb hMix (by kernel_rfl) (by kernel_rfl) (by kernel_rfl) ?_; conv => whnf)
    | (refine Need.mk ?_; kernel_rfl) | (refine Need.mk ⟨rfl, ?_⟩; decide)
    | (refine VR.pure hTb rfl rfl (o_purN (cA) rfl rfl rfl ⟨rfl, rfl, rfl, rfl⟩ rfl) ?_; conv => whnf)
    | (refine DT.pure hTb rfl (o_purN (cA) rfl rfl rfl ⟨rfl, rfl, rfl, rfl⟩ rfl) ?_; conv => whnf)
    | (refine VR.opk hTb rfl rfl (o_app0 (f := encVal) (m := row) (q := 115) hTb rfl rfl rfl rfl rfl rfl rfl rfl rfl rfl (by omega) (by show _ * 32 ≤ _; omega) (by unfold maxLen; omega)) ?_; conv => whnf)
    | (refine DT.opk hTb rfl (o_app0 (f := encVal) (m := row) (q := 115) hTb rfl rfl rfl rfl rfl rfl rfl rfl rfl rfl (by omega) (by show _ * 32 ≤ _; omega) (by unfold maxLen; omega)) ?_; conv => whnf)
    | (refine VR.op hTb rfl rfl (o_index_imm hTb rfl rfl rfl rfl rfl rfl rfl (by omega) (hrI)) rfl ?_; conv => whnf)
    | (refine DT.op hTb rfl (o_index_imm hTb rfl rfl rfl rfl rfl rfl rfl (by omega) (hrI)) rfl ?_; conv => whnf)
    | (refine Need.mk ?_; exact ⟨rfl, by omega, by omega⟩)
    | (refine VR.pure hTb rfl rfl (o_purN (cV) rfl rfl rfl ⟨rfl, rfl, rfl, rfl⟩ rfl) ?_; conv => whnf)
    | (refine DT.pure hTb rfl (o_purN (cV) rfl rfl rfl ⟨rfl, rfl, rfl, rfl⟩ rfl) ?_; conv => whnf)
    | (refine VR.op hTb rfl rfl (o_storeM hTb rfl rfl rfl rfl rfl (hrw) rfl rfl rfl ⟨rfl, by decide⟩ (c' := ⟨_, _, _⟩) rfl) rfl ?_; conv => whnf)
    | (refine DT.op hTb rfl (o_storeM hTb rfl rfl rfl rfl rfl (hrw) rfl rfl rfl ⟨rfl, by decide⟩ (c' := ⟨_, _, _⟩) rfl) rfl ?_; conv => whnf))
    exact endW [115] rfl rfl rfl rfl rfl (LeS.of_eq (congrArg (fun n => Slot.one (.own 0 0 n)) (by simp))) rfl rfl
  rw [if_neg k4]
  (conv => whnf); repeat' (first
    | (exact absurd (beq_iff_eq.1 h) k1)
    | (exact absurd (beq_iff_eq.1 h) k2)
    | (exact absurd (beq_iff_eq.1 h) k4)
    | (refine And.intro ?_ ?_ <;> ((try intro h) <;> (try simp only [Bool.not_true, Bool.not_false, decide_eq_true_eq, decide_eq_false_iff_not, Int.not_lt, Int.not_le, gt_iff_lt, ge_iff_le] at h) <;> first | exact absurd h Bool.false_ne_true | exact absurd h.symm Bool.false_ne_true | conv => whnf))
    | (refine VL.drawS hTb hMix (by kernel_rfl) (by kernel_rfl) (by kernel_rfl) ?_; conv => whnf)
    | (refine Need.mk ?_; kernel_rfl) | (refine Need.mk ⟨rfl, ?_⟩; decide)
    | (refine VR.pure hTb rfl rfl (o_purN (cA) rfl rfl rfl ⟨rfl, rfl, rfl, rfl⟩ rfl) ?_; conv => whnf)
    | (refine DT.pure hTb rfl (o_purN (cA) rfl rfl rfl ⟨rfl, rfl, rfl, rfl⟩ rfl) ?_; conv => whnf)
    | (refine VR.opk hTb rfl rfl (o_app0 (f := encVal) (m := row) (q := 115) hTb rfl rfl rfl rfl rfl rfl rfl rfl rfl rfl (by omega) (by show _ * 32 ≤ _; omega) (by unfold maxLen; omega)) ?_; conv => whnf)
    | (refine DT.opk hTb rfl (o_app0 (f := encVal) (m := row) (q := 115) hTb rfl rfl rfl rfl rfl rfl rfl rfl rfl rfl (by omega) (by show _ * 32 ≤ _; omega) (by unfold maxLen; omega)) ?_; conv => whnf))
  exact endW [115] rfl rfl rfl rfl rfl (LeS.refl _) rfl rfl
end Go.Vl

namespace Go.Vl
open Go Go.RowKit Go.Proofs
set_option maxRecDepth 100000
set_option linter.unusedSimpArgs false
set_option linter.unusedVariables false
set_option maxHeartbeats 4000000

theorem wk_freeze (n : Nat) {L : LS} (q : Nat) {E sz : Nat} {rows : List (List Leaf)} (hq : L.st.obj q = some (.arr E sz rows)) : Wk n L.st (L.freeze q sz rows).st := by
  rw [LS.st_freeze]; exact fun C B a w hn hR => ⟨B, hR.freeze hq⟩
theorem shDo_at {s : List Col} {c : Change} (h : (shDo s c).2 = true) : chAt s c s.length := by
  obtain ⟨_, L, h1, _⟩ := shDo_ok h
  intro hk
  unfold chDo at h1
  split at h1; cases h1
  split at h1
  · omega
  split at h1; cases h1
  rename_i hn
  rcases nameAt_spec s c.name with ⟨h4, _⟩ | ⟨j, hj, h4, _⟩
  · omega
  · exact ⟨j, hj, h4⟩
theorem sdo_sh {s : List Col} {c : Change} (h : (sdo s c).2 = true) : shapeOk s = true ∧ (shDo s c).2 = true := by
  unfold sdo at h
  split at h
  · exact ⟨‹_›, h⟩
  · cases h
-- several changes
def chGo : List Col → List Change → Option (List Col)
  | s, [] => some s
  | s, c :: cs => if (shDo s c).2 = true then chGo (shDo s c).1 cs else none
def allS : Option (List Col) → List Col × Bool
  | some L => (L, true)
  | none => ([], false)
def mdChs (l : List Change) : Prop := ∀ x ∈ l, x.md
theorem chGo_step {s : List Col} {l : List Change} {i : Nat} (h : i < l.length) : chGo s (l.drop i) = if (shDo s l[i]).2 = true then chGo (shDo s l[i]).1 (l.drop (i + 1)) else none := by
  rw [List.drop_eq_getElem_cons h, chGo]
theorem chGo_end {s : List Col} {l : List Change} {i : Nat} (h : l.length ≤ i) : chGo s (l.drop i) = some s := by
  rw [List.drop_of_length_le h, chGo]
theorem grShS (x : List Col × Bool) : GrS (shS x) ∧ (∀ ob, some ob ∈ ([] : List (Option Ob)) → GrO ob) ∧ ∀ ob ∈ shN x, GrO ob := by
  refine ⟨?_, fun _ h => by simp at h, fun ob h => by simp at h; subst h; exact grCols _⟩
  intro y hy l hl
  simp at hy
  rcases hy with rfl | rfl <;> simp at hl <;> subst hl <;> rfl
theorem c_changes (s : List Col) (list : List Change) (hl : s.length + list.length ≤ 1900000) (hs : mdCols s) (hc : mdChs list) : CallsV Tryz.prog 78 [colsI s, changesI list] [] (funQ (shS (allS (chGo s list))) [] (shN (allS (chGo s list)))) := by
  refine funF_walk hTb Tryz.func78 rfl rfl Tryz.ntmps78 (by simp) (by simp) ?_
  have c0 := c_cloneCol s (by omega)
  (conv => whnf); repeat' (first
    | (refine And.intro ?_ ?_ <;> ((try intro h) <;> (try simp only [Bool.not_true, Bool.not_false, decide_eq_true_eq, decide_eq_false_iff_not, Int.not_lt, Int.not_le, gt_iff_lt, ge_iff_le] at h) <;> first | exact absurd h Bool.false_ne_true | exact absurd h.symm Bool.false_ne_true | conv => whnf))
    | (refine VL.drawS hTb hMix (by kernel_rfl) (by kernel_rfl) (by kernel_rfl) ?_; conv => whnf)
    | (refine Need.mk ?_; kernel_rfl) | (refine Need.mk ⟨rfl, ?_⟩; decide)
    | (refine VR.fun hTb rfl rfl (o_funN (c0) false [] (fun h => by cases h) (by simp) rfl rfl rfl rfl rfl ⟨rfl, rfl, rfl, rfl⟩ rfl rfl) ?_; conv => whnf)
    | (refine DT.fun hTb rfl (o_funN (c0) false [] (fun h => by cases h) (by simp) rfl rfl rfl rfl rfl ⟨rfl, rfl, rfl, rfl⟩ rfl rfl) rfl ?_; conv => whnf))
  refine VL.loopI hTb (α := Nat × List Col) (fun x => x.1 ≤ list.length ∧ chGo s list = chGo x.2 (list.drop x.1) ∧ mdCols x.2 ∧ x.2.length ≤ s.length + x.1) (fun x => ⟨[(6, .one (.own 1048 0 x.2.length)), (13, changesI list), (14, iS ((list.map encChange).length : Nat)), (15, iS x.1)], [(1048, .arr 49 7 (x.2.map encCol))], []⟩) (fun x => list.length - x.1) (0, s) ⟨Nat.zero_le _, rfl, hs, by simp⟩
    (wk_to [(1048, 1048)] rfl rfl rfl ⟨rfl, rfl, rfl, rfl, trivial⟩ ⟨rfl, ⟨_, rfl, rfl⟩, trivial⟩) (fun x hx => ?_)
  obtain ⟨i, out⟩ := x
  obtain ⟨hi, hf, hm, hn⟩ := hx
  simp only at hi hf hm hn
  (conv => whnf)
  refine And.intro (fun h2 => ?_) (fun h2 => ?_)
  · have hlt : i < list.length := by simpa using h2
    have hrow := rowChange hlt
    have hst := chGo_step (s := out) hlt
    have cX := c_change out list[i] (by omega) hm (hc _ (List.getElem_mem hlt))
    have hm2 := shDo_md hm (hc _ (List.getElem_mem hlt))
    have hn2 := @shDo_len out list[i]
    generalize list[i] = ci at hrow hst cX hm2 hn2
    obtain ⟨kd, nm, nw, ⟨cn, ck, k1, k2, ⟨d1, d2, d3⟩⟩⟩ := ci
    generalize shDo out ⟨kd, nm, nw, ⟨cn, ck, k1, k2, ⟨d1, d2, d3⟩⟩⟩ = y at cX hst hm2 hn2
    obtain ⟨y1, b⟩ := y
    cases b
    · rw [hf, hst, if_neg (by simp)]
      (conv => whnf); repeat' (first
    | (refine And.intro ?_ ?_ <;> ((try intro h) <;> (try simp only [Bool.not_true, Bool.not_false, decide_eq_true_eq, decide_eq_false_iff_not, Int.not_lt, Int.not_le, gt_iff_lt, ge_iff_le] at h) <;> first | exact absurd h Bool.false_ne_true | exact absurd h.symm Bool.false_ne_true | conv => whnf))
    | (refine VL.drawS hTb hMix (by kernel_rfl) (by kernel_rfl) (by kernel_rfl) ?_; conv => whnf)
    | (refine Need.mk ?_; kernel_rfl) | (refine Need.mk ⟨rfl, ?_⟩; decide)
    | (refine VR.op hTb rfl rfl (o_index_imm hTb rfl rfl rfl rfl rfl rfl rfl (by omega) (hrow)) rfl ?_; conv => whnf)
    | (refine DT.op hTb rfl (o_index_imm hTb rfl rfl rfl rfl rfl rfl rfl (by omega) (hrow)) rfl ?_; conv => whnf)
    | (refine VR.fun hTb rfl rfl (o_funN (cX) true [] (fun _ => grShS _) (by simp) rfl rfl rfl rfl rfl ⟨rfl, rfl, rfl, rfl⟩ ?_ rfl) ?_; exact congrArg (fun s => [s, _]) brw; conv => whnf)
    | (refine DT.fun hTb rfl (o_funN (cX) true [] (fun _ => grShS _) (by simp) rfl rfl rfl rfl rfl ⟨rfl, rfl, rfl, rfl⟩ ?_ rfl) rfl ?_; exact congrArg (fun s => [s, _]) brw; conv => whnf))
      exact EndV.nil 4 104 7 49 rfl rfl (by decide) (endW [104] rfl rfl rfl rfl rfl (LeS.refl _) rfl rfl)
    · rw [if_pos rfl] at hst
      simp only at hst hm2 hn2
      (conv => whnf); repeat' (first
    | (refine And.intro ?_ ?_ <;> ((try intro h) <;> (try simp only [Bool.not_true, Bool.not_false, decide_eq_true_eq, decide_eq_false_iff_not, Int.not_lt, Int.not_le, gt_iff_lt, ge_iff_le] at h) <;> first | exact absurd h Bool.false_ne_true | exact absurd h.symm Bool.false_ne_true | conv => whnf))
    | (refine VL.drawS hTb hMix (by kernel_rfl) (by kernel_rfl) (by kernel_rfl) ?_; conv => whnf)
    | (refine Need.mk ?_; kernel_rfl) | (refine Need.mk ⟨rfl, ?_⟩; decide)
    | (refine VR.op hTb rfl rfl (o_index_imm hTb rfl rfl rfl rfl rfl rfl rfl (by omega) (hrow)) rfl ?_; conv => whnf)
    | (refine DT.op hTb rfl (o_index_imm hTb rfl rfl rfl rfl rfl rfl rfl (by omega) (hrow)) rfl ?_; conv => whnf)
    | (refine VR.fun hTb rfl rfl (o_funN (cX) true [] (fun _ => grShS _) (by simp) rfl rfl rfl rfl rfl ⟨rfl, rfl, rfl, rfl⟩ ?_ rfl) ?_; exact congrArg (fun s => [s, _]) brw; conv => whnf)
    | (refine DT.fun hTb rfl (o_funN (cX) true [] (fun _ => grShS _) (by simp) rfl rfl rfl rfl rfl ⟨rfl, rfl, rfl, rfl⟩ ?_ rfl) rfl ?_; exact congrArg (fun s => [s, _]) brw; conv => whnf))
      exact ⟨(i + 1, y1), ⟨hlt, hf.trans hst, hm2, (by show y1.length ≤ s.length + (i + 1); omega)⟩, by show _ - (i + 1) < _ - i; omega, wk_to [(1088, 1048)] rfl rfl rfl ⟨rfl, rfl, rfl, congrArg (fun x => Slot.one (.g (.int .i64 x))) (wrap64' (by unfold maxLen; omega)), trivial⟩ ⟨rfl, ⟨_, rfl, rfl⟩, trivial⟩⟩
  · have hge : list.length ≤ i := by simp at h2; omega
    rw [hf, chGo_end hge]
    (conv => whnf)
    exact endW [1048] rfl rfl rfl rfl rfl (LeS.refl _) rfl rfl
def shAll (s : List Col) (list : List Change) : List Col × Bool := if shapeOk s = true then allS (chGo s list) else ([], false)
theorem c_implShapeAll (s : List Col) (list : List Change) (hl : s.length + list.length ≤ 1900000) (hs : mdCols s) (hc : mdChs list) : CallsV Tryz.prog 76 [colsI s, changesI list] [] (funQ (shS (shAll s list)) [] (shN (shAll s list))) := by
  have c1 := c_implShapeOk s (by unfold maxLen; omega) hs.ok
  have c2 := c_changes s list hl hs hc
  unfold shAll
  obtain ⟨b, hb⟩ : ∃ b, shapeOk s = b := ⟨_, rfl⟩
  rw [hb] at c1 ⊢
  refine funF_walk hTb Tryz.func76 rfl rfl Tryz.ntmps76 (by simp) (by simp) ?_
  cases b
  · rw [if_neg (by simp)]
    (conv => whnf); repeat' (first
    | (refine And.intro ?_ ?_ <;> ((try intro h) <;> (try simp only [Bool.not_true, Bool.not_false, decide_eq_true_eq, decide_eq_false_iff_not, Int.not_lt, Int.not_le, gt_iff_lt, ge_iff_le] at h) <;> first | exact absurd h Bool.false_ne_true | exact absurd h.symm Bool.false_ne_true | conv => whnf))
    | (refine VL.drawS hTb hMix (by kernel_rfl) (by kernel_rfl) (by kernel_rfl) ?_; conv => whnf)
    | (refine Need.mk ?_; kernel_rfl) | (refine Need.mk ⟨rfl, ?_⟩; decide)
    | (refine VR.pure hTb rfl rfl (o_purN (c1) rfl rfl rfl ⟨rfl, rfl, rfl, rfl⟩ rfl) ?_; conv => whnf)
    | (refine DT.pure hTb rfl (o_purN (c1) rfl rfl rfl ⟨rfl, rfl, rfl, rfl⟩ rfl) ?_; conv => whnf))
    exact EndV.nil 4 104 7 49 rfl rfl (by decide) (endW [104] rfl rfl rfl rfl rfl (LeS.refl _) rfl rfl)
  · rw [if_pos rfl]
    generalize allS (chGo s list) = y at c2
    obtain ⟨y1, y2⟩ := y
    (conv => whnf); repeat' (first
    | (refine And.intro ?_ ?_ <;> ((try intro h) <;> (try simp only [Bool.not_true, Bool.not_false, decide_eq_true_eq, decide_eq_false_iff_not, Int.not_lt, Int.not_le, gt_iff_lt, ge_iff_le] at h) <;> first | exact absurd h Bool.false_ne_true | exact absurd h.symm Bool.false_ne_true | conv => whnf))
    | (refine VL.drawS hTb hMix (by kernel_rfl) (by kernel_rfl) (by kernel_rfl) ?_; conv => whnf)
    | (refine Need.mk ?_; kernel_rfl) | (refine Need.mk ⟨rfl, ?_⟩; decide)
    | (refine VR.pure hTb rfl rfl (o_purN (c1) rfl rfl rfl ⟨rfl, rfl, rfl, rfl⟩ rfl) ?_; conv => whnf)
    | (refine DT.pure hTb rfl (o_purN (c1) rfl rfl rfl ⟨rfl, rfl, rfl, rfl⟩ rfl) ?_; conv => whnf)
    | (refine VR.fun hTb rfl rfl (o_funN (c2) false [] (fun h => by cases h) (by simp) rfl rfl rfl rfl rfl ⟨rfl, rfl, rfl, rfl⟩ rfl rfl) ?_; conv => whnf)
    | (refine DT.fun hTb rfl (o_funN (c2) false [] (fun h => by cases h) (by simp) rfl rfl rfl rfl rfl ⟨rfl, rfl, rfl, rfl⟩ rfl rfl) rfl ?_; conv => whnf))
    exact endW [1044] rfl rfl rfl rfl rfl (LeS.refl _) rfl rfl
theorem c_specShapeAll (s : List Col) (list : List Change) (hl : s.length + list.length ≤ 1900000) (hs : mdCols s) (hc : mdChs list) : CallsV Tryz.prog 68 [colsI s, changesI list] [] (funQ (shS (shAll s list)) [] (shN (shAll s list))) := by
  have c1 := c_specShapeOk s (by unfold maxLen; omega) hs.ok
  unfold shAll
  obtain ⟨b, hb⟩ : ∃ b, shapeOk s = b := ⟨_, rfl⟩
  rw [hb] at c1 ⊢
  refine funF_walk hTb Tryz.func68 rfl rfl Tryz.ntmps68 (by simp) (by simp) ?_
  cases b
  · rw [if_neg (by simp)]
    (conv => whnf); repeat' (first
    | (refine And.intro ?_ ?_ <;> ((try intro h) <;> (try simp only [Bool.not_true, Bool.not_false, decide_eq_true_eq, decide_eq_false_iff_not, Int.not_lt, Int.not_le, gt_iff_lt, ge_iff_le] at h) <;> first | exact absurd h Bool.false_ne_true | exact absurd h.symm Bool.false_ne_true | conv => whnf))
    | (refine VL.drawS hTb hMix (by kernel_rfl) (by kernel_rfl) (by kernel_rfl) ?_; conv => whnf)
    | (refine Need.mk ?_; kernel_rfl) | (refine Need.mk ⟨rfl, ?_⟩; decide)
    | (refine VR.pure hTb rfl rfl (o_purN (c1) rfl rfl rfl ⟨rfl, rfl, rfl, rfl⟩ rfl) ?_; conv => whnf)
    | (refine DT.pure hTb rfl (o_purN (c1) rfl rfl rfl ⟨rfl, rfl, rfl, rfl⟩ rfl) ?_; conv => whnf))
    exact endW [112] rfl rfl rfl rfl rfl (LeS.refl _) rfl rfl
  rw [if_pos rfl]
  (conv => whnf); repeat' (first
    | (refine And.intro ?_ ?_ <;> ((try intro h) <;> (try simp only [Bool.not_true, Bool.not_false, decide_eq_true_eq, decide_eq_false_iff_not, Int.not_lt, Int.not_le, gt_iff_lt, ge_iff_le] at h) <;> first | exact absurd h Bool.false_ne_true | exact absurd h.symm Bool.false_ne_true | conv => whnf))
    | (refine VL.drawS hTb hMix (by kernel_rfl) (by kernel_rfl) (by kernel_rfl) ?_; conv => whnf)
    | (refine Need.mk ?_; kernel_rfl) | (refine Need.mk ⟨rfl, ?_⟩; decide)
    | (refine VR.pure hTb rfl rfl (o_purN (c1) rfl rfl rfl ⟨rfl, rfl, rfl, rfl⟩ rfl) ?_; conv => whnf)
    | (refine DT.pure hTb rfl (o_purN (c1) rfl rfl rfl ⟨rfl, rfl, rfl, rfl⟩ rfl) ?_; conv => whnf)
    | (refine VR.opk hTb rfl rfl (o_app0 (f := encCol) (m := s) (q := 115) hTb rfl rfl rfl rfl rfl rfl rfl rfl rfl rfl (by omega) (by show _ * 64 ≤ _; omega) (by unfold maxLen; omega)) ?_; conv => whnf)
    | (refine DT.opk hTb rfl (o_app0 (f := encCol) (m := s) (q := 115) hTb rfl rfl rfl rfl rfl rfl rfl rfl rfl rfl (by omega) (by show _ * 64 ≤ _; omega) (by unfold maxLen; omega)) ?_; conv => whnf))
  refine VL.loopI hTb (α := Nat × List Col) (fun x => x.1 ≤ list.length ∧ chGo s list = chGo x.2 (list.drop x.1) ∧ mdCols x.2 ∧ x.2.length ≤ s.length + x.1 ∧ shapeOk x.2 = true) (fun x => ⟨[(1, changesI list), (6, .one (.own 115 0 x.2.length)), (7, iS x.1)], [(115, .arr 49 7 (x.2.map encCol))], []⟩) (fun x => list.length - x.1) (0, s) ⟨Nat.zero_le _, rfl, hs, by simp, hb⟩
    (wk_to [(115, 115)] rfl rfl rfl ⟨rfl, rfl, rfl, trivial⟩ ⟨rfl, ⟨_, rfl, rfl⟩, trivial⟩) (fun x hx => ?_)
  obtain ⟨i, out⟩ := x
  obtain ⟨hi, hf, hm, hn, ho⟩ := hx
  simp only at hi hf hm hn ho
  (conv => whnf)
  refine And.intro (fun h2 => ?_) (fun h2 => ?_)
  · have hlt : i < list.length := by simpa using h2
    have hrow := rowChange hlt
    have hst := chGo_step (s := out) hlt
    have cX := c_specShapeDo out list[i] (by omega) hm (hc _ (List.getElem_mem hlt))
    have hsd : sdo out list[i] = shDo out list[i] := by unfold sdo; rw [if_pos ho]
    have hm2 := shDo_md hm (hc _ (List.getElem_mem hlt))
    have hn2 := @shDo_len out list[i]
    have ho2 := @shDo_ok out list[i]
    rw [hsd] at cX
    generalize list[i] = ci at hrow hst cX hm2 hn2 ho2
    obtain ⟨kd, nm, nw, ⟨cn, ck, k1, k2, ⟨d1, d2, d3⟩⟩⟩ := ci
    generalize shDo out ⟨kd, nm, nw, ⟨cn, ck, k1, k2, ⟨d1, d2, d3⟩⟩⟩ = y at cX hst hm2 hn2 ho2
    obtain ⟨y1, b⟩ := y
    cases b
    · rw [hf, hst, if_neg (by simp)]
      (conv => whnf); repeat' (first
    | (refine And.intro ?_ ?_ <;> ((try intro h) <;> (try simp only [Bool.not_true, Bool.not_false, decide_eq_true_eq, decide_eq_false_iff_not, Int.not_lt, Int.not_le, gt_iff_lt, ge_iff_le] at h) <;> first | exact absurd h Bool.false_ne_true | exact absurd h.symm Bool.false_ne_true | conv => whnf))
    | (refine VL.drawS hTb hMix (by kernel_rfl) (by kernel_rfl) (by kernel_rfl) ?_; conv => whnf)
    | (refine Need.mk ?_; kernel_rfl) | (refine Need.mk ⟨rfl, ?_⟩; decide)
    | (refine VR.op hTb rfl rfl (o_index_imm hTb rfl rfl rfl rfl rfl rfl rfl (by omega) (hrow)) rfl ?_; conv => whnf)
    | (refine DT.op hTb rfl (o_index_imm hTb rfl rfl rfl rfl rfl rfl rfl (by omega) (hrow)) rfl ?_; conv => whnf)
    | (refine VR.fun hTb rfl rfl (o_funN (cX) true [] (fun _ => grShS _) (by simp) rfl rfl rfl rfl rfl ⟨rfl, rfl, rfl, rfl⟩ ?_ rfl) ?_; exact congrArg (fun s => [s, _]) brw; conv => whnf)
    | (refine DT.fun hTb rfl (o_funN (cX) true [] (fun _ => grShS _) (by simp) rfl rfl rfl rfl rfl ⟨rfl, rfl, rfl, rfl⟩ ?_ rfl) rfl ?_; exact congrArg (fun s => [s, _]) brw; conv => whnf))
      exact endW [133] rfl rfl rfl rfl rfl (LeS.refl _) rfl rfl
    · rw [if_pos rfl] at hst
      simp only at hst hm2 hn2
      have ho3 := (ho2 rfl).1
      (conv => whnf); repeat' (first
    | (refine And.intro ?_ ?_ <;> ((try intro h) <;> (try simp only [Bool.not_true, Bool.not_false, decide_eq_true_eq, decide_eq_false_iff_not, Int.not_lt, Int.not_le, gt_iff_lt, ge_iff_le] at h) <;> first | exact absurd h Bool.false_ne_true | exact absurd h.symm Bool.false_ne_true | conv => whnf))
    | (refine VL.drawS hTb hMix (by kernel_rfl) (by kernel_rfl) (by kernel_rfl) ?_; conv => whnf)
    | (refine Need.mk ?_; kernel_rfl) | (refine Need.mk ⟨rfl, ?_⟩; decide)
    | (refine VR.op hTb rfl rfl (o_index_imm hTb rfl rfl rfl rfl rfl rfl rfl (by omega) (hrow)) rfl ?_; conv => whnf)
    | (refine DT.op hTb rfl (o_index_imm hTb rfl rfl rfl rfl rfl rfl rfl (by omega) (hrow)) rfl ?_; conv => whnf)
    | (refine VR.fun hTb rfl rfl (o_funN (cX) true [] (fun _ => grShS _) (by simp) rfl rfl rfl rfl rfl ⟨rfl, rfl, rfl, rfl⟩ ?_ rfl) ?_; exact congrArg (fun s => [s, _]) brw; conv => whnf)
    | (refine DT.fun hTb rfl (o_funN (cX) true [] (fun _ => grShS _) (by simp) rfl rfl rfl rfl rfl ⟨rfl, rfl, rfl, rfl⟩ ?_ rfl) rfl ?_; exact congrArg (fun s => [s, _]) brw; conv => whnf))
      exact ⟨(i + 1, y1), ⟨hlt, hf.trans hst, hm2, (by show y1.length ≤ s.length + (i + 1); omega), ho3⟩, by show _ - (i + 1) < _ - i; omega, wk_to [(1112, 115)] rfl rfl rfl ⟨rfl, rfl, congrArg (fun x => Slot.one (.g (.int .i64 x))) (wrap64' (by unfold maxLen; omega)), trivial⟩ ⟨rfl, ⟨_, rfl, rfl⟩, trivial⟩⟩
  · have hge : list.length ≤ i := by simp at h2; omega
    rw [hf, chGo_end hge]
    (conv => whnf)
    exact endW [115] rfl rfl rfl rfl rfl (LeS.refl _) rfl rfl
end Go.Vl
