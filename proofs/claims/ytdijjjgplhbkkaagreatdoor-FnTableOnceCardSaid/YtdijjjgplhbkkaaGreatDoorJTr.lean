/- Law: in a right table a column that is once holds each value in one row. -/
import Derived.Test.YtdijjjgplhbkkaaGreatDoorJTq
import Derived.Test.YtdijjjgplhbkkaaGreatDoorJTb
set_option linter.unusedSimpArgs false
set_option linter.unusedVariables false
set_option linter.unnecessarySimpa false

namespace Go.Vl
open Go Go.RowKit Go.Proofs
set_option maxRecDepth 100000
set_option linter.unusedSimpArgs false
set_option linter.unusedVariables false
set_option linter.unnecessarySimpa false
set_option maxHeartbeats 8000000

theorem need_k {c : Col} {v : Val} (h : cellOk c v = true) (hn : c.need = true) : v.k ≠ 0 := fun e => by
  unfold cellOk at h
  rw [hn, e] at h
  simp at h
theorem dup_no2 : ∀ {vs seen : List Val}, dupGo seen vs = false → ∀ i (h : i < vs.length), vs[i].k ≠ 0 → (∀ x ∈ seen, x ≠ vs[i]) ∧ ∀ j (hj : j < i), (vs[j]'(by omega)) ≠ vs[i]
  | [], _, _, i, h, _ => by simp at h
  | v :: vs, seen, hd, i, h, hk => by
    rw [dupGo, Bool.or_eq_false_iff] at hd
    cases i with
    | zero =>
      refine ⟨fun x hx e => ?_, fun j hj => by omega⟩
      have hk : v.k ≠ 0 := hk
      have h1 := hd.1
      rw [Bool.and_eq_false_iff] at h1
      rcases h1 with h1 | h1
      · exact hk (by simpa using h1)
      · rw [List.any_eq_false] at h1
        exact h1 x hx (qV_iff.2 e.symm)
    | succ i =>
      obtain ⟨h1, h2⟩ := dup_no2 hd.2 i (by simpa using h) hk
      refine ⟨fun x hx => h1 x (by simp [hx]), fun j hj => ?_⟩
      cases j with
      | zero => exact h1 v (by simp)
      | succ j => exact h2 j (by omega)
theorem once_cnt {f : VRow → List Val} {rows : List VRow} {L : List Col} {k : Nat} (hO : onceB L (rows.map f) = true) (hk : k < L.length) (hc : L[k].once = true) {i : Nat} (hi : i < rows.length) (hv : ((f rows[i]).getD k zVal).k ≠ 0) : (fdL f k ((f rows[i]).getD k zVal) rows).length = 1 := by
  have h1 : onceAt L (rows.map f) k = true := by
    unfold onceB at hO
    rw [List.all_eq_true] at hO
    exact hO k (List.mem_range.2 hk)
  have h2 : dupGo [] (rows.map fun r => (f r).getD k zVal) = false := by
    unfold onceAt at h1
    have e : L.getD k (kCol 0) = L[k] := by simp [hk]
    rw [e, hc] at h1
    have e2 : colVs (rows.map f) k = rows.map fun r => (f r).getD k zVal := by unfold colVs; rw [List.map_map]; rfl
    rw [e2] at h1
    simpa using h1
  have D := dup_no2 h2
  have hne : ∀ j (hj : j < rows.length), j ≠ i → (f rows[j]).getD k zVal ≠ (f rows[i]).getD k zVal := by
    intro j hj hji e
    rcases Nat.lt_or_gt_of_ne hji with h | h
    · have := (D i (by simpa using hi) (by simpa using hv)).2 j h
      exact this (by simpa using e)
    · have := (D j (by simpa using hj) (by simp only [List.getElem_map]; rw [e]; exact hv)).2 i h
      exact this (by simpa using e.symm)
  have hV : q_Val ((f rows[i]).getD k zVal) ((f rows[i]).getD k zVal) = true := qV_iff.2 rfl
  generalize hVe : (f rows[i]).getD k zVal = V at hne hv hV
  have none : ∀ (l : List VRow), (∀ r ∈ l, (f r).getD k zVal ≠ V) → fdL f k V l = [] := fun l hl => by
    unfold fdL
    rw [List.map_eq_nil_iff, List.filter_eq_nil_iff]
    exact fun r hr h => hl r hr (qV_iff.1 h)
  rw [fdL_split f k V rows (i + 1), fdL_yes hi (by rw [hVe]; exact hV), none (rows.take i) (fun r hr => ?_), none (rows.drop (i + 1)) (fun r hr => ?_)]
  · rfl
  · obtain ⟨j, hj, rfl⟩ := List.mem_iff_getElem.1 hr
    rw [List.length_drop] at hj
    rw [List.getElem_drop]
    exact hne (i + 1 + j) (by omega) (by omega)
  · obtain ⟨j, hj, rfl⟩ := List.mem_iff_getElem.1 hr
    rw [List.length_take] at hj
    rw [List.getElem_take]
    exact hne j (by omega) (by omega)
theorem c_FnTableOnce {bs : List Int} (hl : bs.length ≤ maxLen) (hb : ∀ x ∈ bs, 0 ≤ x ∧ x < 256) : CallsV Tryz.prog 3 [bytesI bs] [] (pureQ (bS true)) := by
  refine pure_walk hTb Tryz.func3 rfl rfl Tryz.ntmps3 (by simp) ?_
  (conv => whnf); repeat' (first
    | (refine And.intro ?_ ?_ <;> ((try intro h) <;> (try simp only [Bool.not_true, Bool.not_false, decide_eq_true_eq, decide_eq_false_iff_not, Int.not_lt, Int.not_le, gt_iff_lt, ge_iff_le] at h) <;> first | exact absurd h Bool.false_ne_true | exact absurd h.symm Bool.false_ne_true | conv => whnf))
    | (refine VL.drawS hTb hMix (by kernel_rfl) (by kernel_rfl) (by kernel_rfl) ?_; conv => whnf)
    | (refine Need.mk ?_; kernel_rfl) | (refine Need.mk ⟨rfl, ?_⟩; decide)
    | (refine VR.rel hTb rfl rfl (o_relN (c_DrawTableShape hl hb) false [] (fun _ _ => ⟨by simp, fun h => by cases h⟩) rfl rfl rfl rfl rfl ⟨rfl, rfl, rfl, rfl⟩ rfl rfl) ?_; rintro t ht; (try simp only at ht); conv => whnf)
    | (refine DT.rel hTb rfl (o_relN (c_DrawTableShape hl hb) false [] (fun _ _ => ⟨by simp, fun h => by cases h⟩) rfl rfl rfl rfl rfl ⟨rfl, rfl, rfl, rfl⟩ rfl rfl) [] (by kernel_rfl) (by kernel_rfl) ?_; rintro t ht; (try simp only at ht); refine And.intro rfl (And.intro rfl ?_); conv => whnf))
  · rfl
  have hm := ht.md
  have hrl := ht.rl
  have cS := (c_implTableShape t hm).pure (s' := colsI (tSp t)) (by show Slot.one (.imm 7 ((((tSp t).map encCol).drop 0).take (tSp t).length)) = _; rw [fzC]; rfl)
  have cP := c_specTableShape t hm
  have hSl := tSp_len t
  have hfc := hm.fc
  have cE := c_implShapeSame (tSp t) (tSp t) (by unfold maxLen; omega)
  rw [leq_refl qC_refl] at cE
  have cR := fun n => (c_implTableRow t n hm).pure (pureRv _)
  have cF := fun c v => (c_implTableFind t c v hm).pure (pureInts _)
  have cO := c_specTableOk t hm
  cases hk : tabOk t with
  | false =>
    have hS : tSp t = [] := by unfold tSp; rw [hk]; rfl
    rw [hS] at cS cP cE
    rw [hk] at cO
    (conv => whnf); repeat' (first
    | (refine And.intro ?_ ?_ <;> ((try intro h) <;> (try simp only [Bool.not_true, Bool.not_false, decide_eq_true_eq, decide_eq_false_iff_not, Int.not_lt, Int.not_le, gt_iff_lt, ge_iff_le] at h) <;> first | exact absurd h Bool.false_ne_true | exact absurd h.symm Bool.false_ne_true | conv => whnf))
    | (refine VL.drawS hTb hMix (by kernel_rfl) (by kernel_rfl) (by kernel_rfl) ?_; conv => whnf)
    | (refine Need.mk ?_; kernel_rfl) | (refine Need.mk ⟨rfl, ?_⟩; decide)
    | (refine VR.pure hTb rfl rfl (o_purF (cS) rfl rfl rfl ⟨rfl, rfl, rfl, rfl⟩ rfl) ?_; conv => whnf)
    | (refine DT.pure hTb rfl (o_purF (cS) rfl rfl rfl ⟨rfl, rfl, rfl, rfl⟩ rfl) ?_; conv => whnf)
    | (refine VR.pure hTb rfl rfl (o_purF (cP) rfl rfl rfl ⟨rfl, rfl, rfl, rfl⟩ rfl) ?_; conv => whnf)
    | (refine DT.pure hTb rfl (o_purF (cP) rfl rfl rfl ⟨rfl, rfl, rfl, rfl⟩ rfl) ?_; conv => whnf)
    | (refine VR.pure hTb rfl rfl (o_purN (cE) rfl rfl rfl ⟨rfl, rfl, rfl, rfl⟩ rfl) ?_; conv => whnf)
    | (refine DT.pure hTb rfl (o_purN (cE) rfl rfl rfl ⟨rfl, rfl, rfl, rfl⟩ rfl) ?_; conv => whnf))
    refine VL.loopI hTb (fun k => k = 0) (fun _ => ⟨[(3, .one (.ptr 103 0)), (4, colsI []), (5, iS (0 : Nat))], [(103, .box (encVTable t))], []⟩) (fun k => k) 0 rfl
      (wk_to [(103, 103)] rfl rfl rfl ⟨rfl, rfl, rfl, trivial⟩ ⟨rfl, ⟨_, rfl, rfl⟩, trivial⟩) (fun k hk0 => ?_)
    (conv => whnf); repeat' (first
    | (refine absurd h ?_; (simp; done))
    | (refine And.intro ?_ ?_ <;> ((try intro h) <;> (try simp only [Bool.not_true, Bool.not_false, decide_eq_true_eq, decide_eq_false_iff_not, Int.not_lt, Int.not_le, gt_iff_lt, ge_iff_le] at h) <;> first | exact absurd h Bool.false_ne_true | exact absurd h.symm Bool.false_ne_true | conv => whnf))
    | (refine VL.drawS hTb hMix (by kernel_rfl) (by kernel_rfl) (by kernel_rfl) ?_; conv => whnf)
    | (refine Need.mk ?_; kernel_rfl) | (refine Need.mk ⟨rfl, ?_⟩; decide)
    | (refine VR.pure hTb rfl rfl (o_purN (cO) rfl rfl rfl ⟨rfl, rfl, rfl, rfl⟩ rfl) ?_; conv => whnf)
    | (refine DT.pure hTb rfl (o_purN (cO) rfl rfl rfl ⟨rfl, rfl, rfl, rfl⟩ rfl) ?_; conv => whnf))
    all_goals first
      | rfl
      | trace_state
  | true =>
    have hT := tabOk_iff.1 hk
    have hS : tSp t = tL t := by unfold tSp; rw [if_pos hk]
    rw [hS] at cS cP cE hSl
    rw [hk] at cO
    have hsh : shapeOk (tL t) = true := (tSh_cut hT.sh 0).2.2.2.2.2
    have hL1 : 1 ≤ (tL t).length := by
      unfold shapeOk at hsh
      simp at hsh; omega
    have hrow := fun i (h : i < t.rows.length) => (stGo_at hT.st i h).2.2.2.1
    have hcell : ∀ k (hk : k < (tL t).length) i (hi : i < t.rows.length), (tL t)[k].need = true → ((tNow t t.rows[i]).getD k zVal).k ≠ 0 := fun k hk i hi hn => by
      have h1 := hrow i hi
      unfold rowSt at h1
      rw [Bool.and_eq_true] at h1
      obtain ⟨h2, h3⟩ := (rowOk_iff hsh).1 h1.2
      have h4 := h3 k hk (by omega)
      have e : (tNow t t.rows[i]).getD k zVal = (tNow t t.rows[i])[k]'(by omega) := by simp [show k < (tNow t t.rows[i]).length by omega]
      rw [e]; exact need_k h4 hn
    have hlen : ∀ i (hi : i < t.rows.length), (tNow t t.rows[i]).length = (tL t).length := fun i hi => (tNow_go hT.sh (rowFacts hk hi).2).2
    have hfd : ∀ k (hk : k < (tL t).length) i (hi : i < t.rows.length), (tL t)[k].once = true → ((tNow t t.rows[i]).getD k zVal).k ≠ 0 → (tFd t (tL t)[k].name ((tNow t t.rows[i]).getD k zVal)).length = 1 := fun k hk2 i hi hc hv => by
      have e := nameAt_of hsh hk2 rfl
      unfold tFd
      rw [e, if_pos ⟨hk, by omega⟩, Int.toNat_natCast]
      exact once_cnt hT.on hk2 hc hi hv
    have hRw := fun i (h : i < t.rows.length) => tRw_row hk h
    generalize hfe : tNow t = f at hcell hlen hfd hRw
    generalize tL t = L at cS cP cE hSl hL1 hcell hlen hfd
    clear hrow hsh hT hS
    (conv => whnf); repeat' (first
    | (refine And.intro ?_ ?_ <;> ((try intro h) <;> (try simp only [Bool.not_true, Bool.not_false, decide_eq_true_eq, decide_eq_false_iff_not, Int.not_lt, Int.not_le, gt_iff_lt, ge_iff_le] at h) <;> first | exact absurd h Bool.false_ne_true | exact absurd h.symm Bool.false_ne_true | conv => whnf))
    | (refine VL.drawS hTb hMix (by kernel_rfl) (by kernel_rfl) (by kernel_rfl) ?_; conv => whnf)
    | (refine Need.mk ?_; kernel_rfl) | (refine Need.mk ⟨rfl, ?_⟩; decide)
    | (refine VR.pure hTb rfl rfl (o_purF (cS) rfl rfl rfl ⟨rfl, rfl, rfl, rfl⟩ rfl) ?_; conv => whnf)
    | (refine DT.pure hTb rfl (o_purF (cS) rfl rfl rfl ⟨rfl, rfl, rfl, rfl⟩ rfl) ?_; conv => whnf)
    | (refine VR.pure hTb rfl rfl (o_purF (cP) rfl rfl rfl ⟨rfl, rfl, rfl, rfl⟩ rfl) ?_; conv => whnf)
    | (refine DT.pure hTb rfl (o_purF (cP) rfl rfl rfl ⟨rfl, rfl, rfl, rfl⟩ rfl) ?_; conv => whnf)
    | (refine VR.pure hTb rfl rfl (o_purN (cE) rfl rfl rfl ⟨rfl, rfl, rfl, rfl⟩ rfl) ?_; conv => whnf)
    | (refine DT.pure hTb rfl (o_purN (cE) rfl rfl rfl ⟨rfl, rfl, rfl, rfl⟩ rfl) ?_; conv => whnf))
    refine VL.loopI hTb (fun k => k ≤ L.length) (fun k => ⟨[(3, .one (.ptr 103 0)), (4, colsI L), (5, iS k)], [(103, .box (encVTable t))], []⟩) (fun k => L.length - k) 0 (Nat.zero_le _)
      (wk_to [(103, 103)] rfl rfl rfl ⟨rfl, rfl, rfl, trivial⟩ ⟨rfl, ⟨_, rfl, rfl⟩, trivial⟩) (fun k hk0 => ?_)
    (conv => whnf)
    refine And.intro (fun h2 => ?_) (fun h2 => ?_)
    · have hkl : k < L.length := by simpa using h2
      have hcol := rowCol hkl
      have hcell := hcell k hkl
      have hfd := hfd k hkl
      have cF := cF L[k].name
      generalize L[k] = c at hcol hcell hfd cF
      refine VL.loopI hTb (fun i => i ≤ t.rows.length) (fun i => ⟨[(3, .one (.ptr 103 0)), (4, colsI L), (5, iS k), (6, iS i)], [(103, .box (encVTable t))], []⟩) (fun i => t.rows.length - i) 0 (Nat.zero_le _)
        (wk_to [(103, 103)] rfl rfl rfl ⟨rfl, rfl, rfl, rfl, trivial⟩ ⟨rfl, ⟨_, rfl, rfl⟩, trivial⟩) (fun i hi0 => ?_)
      (conv => whnf)
      refine And.intro (fun h3 => ?_) (fun h3 => ?_)
      · have hil : i < t.rows.length := by simpa using h3
        have hrw := rowVRow hil
        have hc := cR t.rows[i].id
        rw [hRw i hil] at hc
        have hv := valAtZ (l := f t.rows[i]) (z := (k : Int)) (by omega) (by rw [hlen i hil]; omega)
        rw [Int.toNat_natCast] at hv
        have hcell := hcell i hil
        have hfd := hfd i hil
        have cF := cF ((f t.rows[i]).getD k zVal)
        generalize (f t.rows[i]).getD k zVal = V at hv hcell hfd cF
        generalize tFd t c.name V = M at hfd cF
        generalize f t.rows[i] = w at hc hv
        generalize t.rows[i] = ri at hrw hc
        (conv => whnf); repeat' (first
    | (refine absurd h ?_; (simp; done))
    | (refine And.intro ?_ ?_ <;> ((try intro h) <;> (try simp only [Bool.not_true, Bool.not_false, decide_eq_true_eq, decide_eq_false_iff_not, Int.not_lt, Int.not_le, gt_iff_lt, ge_iff_le] at h) <;> first | exact absurd h Bool.false_ne_true | exact absurd h.symm Bool.false_ne_true | conv => whnf))
    | (refine VL.drawS hTb hMix (by kernel_rfl) (by kernel_rfl) (by kernel_rfl) ?_; conv => whnf)
    | (refine Need.mk ?_; kernel_rfl) | (refine Need.mk ⟨rfl, ?_⟩; decide)
    | (refine VR.op hTb rfl rfl (o_index_imm hTb rfl rfl rfl rfl rfl rfl rfl (by omega) (hrw)) rfl ?_; conv => whnf)
    | (refine DT.op hTb rfl (o_index_imm hTb rfl rfl rfl rfl rfl rfl rfl (by omega) (hrw)) rfl ?_; conv => whnf)
    | (refine VR.pure hTb rfl rfl (o_purF (hc) rfl rfl rfl ⟨rfl, rfl, rfl, rfl⟩ rfl) ?_; conv => whnf)
    | (refine DT.pure hTb rfl (o_purF (hc) rfl rfl rfl ⟨rfl, rfl, rfl, rfl⟩ rfl) ?_; conv => whnf)
    | (refine VR.op hTb rfl rfl (o_index_imm hTb rfl rfl rfl rfl rfl rfl rfl (by omega) (hcol)) rfl ?_; conv => whnf)
    | (refine DT.op hTb rfl (o_index_imm hTb rfl rfl rfl rfl rfl rfl rfl (by omega) (hcol)) rfl ?_; conv => whnf)
    | (refine VR.op hTb rfl rfl (o_index_imm hTb rfl rfl rfl rfl rfl rfl rfl (by omega) (hv)) rfl ?_; conv => whnf)
    | (refine DT.op hTb rfl (o_index_imm hTb rfl rfl rfl rfl rfl rfl rfl (by omega) (hv)) rfl ?_; conv => whnf)
    | (refine VR.pure hTb rfl rfl (o_purF (cF) rfl rfl rfl ⟨rfl, rfl, rfl, rfl⟩ rfl) ?_; conv => whnf)
    | (refine DT.pure hTb rfl (o_purF (cF) rfl rfl rfl ⟨rfl, rfl, rfl, rfl⟩ rfl) ?_; conv => whnf))
        all_goals first
          | exact ⟨i + 1, hil, by omega, wk_to [(103, 103)] rfl rfl rfl ⟨rfl, rfl, rfl, congrArg (fun x => Slot.one (.g (.int .i64 x))) (wrap64' (by unfold maxLen; omega)), trivial⟩ ⟨rfl, ⟨_, rfl, rfl⟩, trivial⟩⟩
          | (exfalso; have h9 := hcell (by assumption); exact h9 (by simpa using h))
          | (exfalso; have h9 := hfd (by assumption) (by simp_all); rw [List.length_map, h9] at h; exact absurd h (by decide))
          | trace_state
      · exact ⟨k + 1, hkl, by omega, wk_to [(103, 103)] rfl rfl rfl ⟨rfl, rfl, congrArg (fun x => Slot.one (.g (.int .i64 x))) (wrap64' (by unfold maxLen; omega)), trivial⟩ ⟨rfl, ⟨_, rfl, rfl⟩, trivial⟩⟩
    · (conv => whnf); repeat' (first
    | (refine And.intro ?_ ?_ <;> ((try intro h) <;> (try simp only [Bool.not_true, Bool.not_false, decide_eq_true_eq, decide_eq_false_iff_not, Int.not_lt, Int.not_le, gt_iff_lt, ge_iff_le] at h) <;> first | exact absurd h Bool.false_ne_true | exact absurd h.symm Bool.false_ne_true | conv => whnf))
    | (refine VL.drawS hTb hMix (by kernel_rfl) (by kernel_rfl) (by kernel_rfl) ?_; conv => whnf)
    | (refine Need.mk ?_; kernel_rfl) | (refine Need.mk ⟨rfl, ?_⟩; decide)
    | (refine VR.pure hTb rfl rfl (o_purN (cO) rfl rfl rfl ⟨rfl, rfl, rfl, rfl⟩ rfl) ?_; conv => whnf)
    | (refine DT.pure hTb rfl (o_purN (cO) rfl rfl rfl ⟨rfl, rfl, rfl, rfl⟩ rfl) ?_; conv => whnf))
      all_goals first
        | rfl
        | (exfalso; rw [List.length_map] at h; omega)
        | trace_state
end Go.Vl
