/- Laws: columns and rows behind changes: the program's are the reference's; what it gives back is its own. -/
import Derived.Test.YtegjajojckbkjaaDoorKa
import Derived.Test.YtegjajojckbkjaaDoorGd
namespace Go.Vl
open Go Go.RowKit Go.Proofs
set_option maxRecDepth 100000
set_option linter.unusedSimpArgs false
set_option linter.unusedVariables false
set_option maxHeartbeats 8000000

theorem two_sl {a b c d : Slot} (h1 : a = b) (h2 : c = d) : [a, c] = [b, d] := by rw [h1, h2]
theorem three_sl {a b c d e f : Slot} (h1 : a = b) (h2 : c = d) (h3 : e = f) : [a, c, e] = [b, d, f] := by rw [h1, h2, h3]
theorem mdv_ok {l : List Val} (h : mdVals l) : ∀ v ∈ l, v.ok := fun v hv => by have : v.t.size ≤ 1048576 := h v hv; show v.t.size ≤ maxLen; unfold maxLen; omega
theorem lmax {n : Nat} (h : n ≤ 3000000) : n ≤ maxLen := by unfold maxLen; omega
theorem c_FnExactShapeDo (cs : List Col) (c : Change) (la : cs.length ≤ maxLen) (oa : ∀ x ∈ cs, x.ok) (oc : c.ok) : CallsV Tryd.prog 8 [colsI cs, .agg (encChange c)] [] (pureQ (bS true)) := by
  have za := fun n h0 h1 => y_Cols cs la oa n h0 h1
  have zc := fun n h0 h1 => y_Change c oc n h0 h1
  have tC2 := t_Change c
  have cD := c_implShapeDo cs c
  have cE := c_specShapeDo cs c
  have hxm0 := @sdo_md cs c
  have hxl0 := @sdo_len cs c
  obtain ⟨kd, nm, nw, ⟨cn, ck, k1, k2, ⟨d1, d2, d3⟩⟩⟩ := c
  refine pure_walk hTb Tryd.func8 rfl rfl Tryd.ntmps8 (by simp) ?_
  (conv => whnf); repeat' (first
    | (refine And.intro ?_ ?_ <;> ((try intro h) <;> (try simp only [Bool.not_true, Bool.not_false, decide_eq_true_eq, decide_eq_false_iff_not, Int.not_lt, Int.not_le, gt_iff_lt, ge_iff_le] at h) <;> first | exact absurd h Bool.false_ne_true | exact absurd h.symm Bool.false_ne_true | conv => whnf))
    | (refine VL.drawS hTb hMix (by kernel_rfl) (by kernel_rfl) (by kernel_rfl) ?_; conv => whnf)
    | (refine Need.mk ?_; kernel_rfl) | (refine Need.mk ⟨rfl, ?_⟩; decide)
    | (refine VR.rel hTb rfl rfl (o_relN (za _ (by omega) (by omega)) false [] (fun _ _ => ⟨by simp, fun h => by cases h⟩) rfl rfl rfl rfl rfl ⟨rfl, rfl, rfl, rfl⟩ rfl rfl) ?_; rintro y1 hy1; (try simp only at hy1); conv => whnf)
    | (refine DT.rel hTb rfl (o_relN (za _ (by omega) (by omega)) false [] (fun _ _ => ⟨by simp, fun h => by cases h⟩) rfl rfl rfl rfl rfl ⟨rfl, rfl, rfl, rfl⟩ rfl rfl) [] (by kernel_rfl) (by kernel_rfl) ?_; rintro y1 hy1; (try simp only at hy1); refine And.intro rfl (And.intro rfl ?_); conv => whnf))
  · rfl
  have h1 : 0 ≤ y1 := by first | omega | (simp at h; omega)
  (conv => whnf); repeat' (first
    | (refine And.intro ?_ ?_ <;> ((try intro h) <;> (try simp only [Bool.not_true, Bool.not_false, decide_eq_true_eq, decide_eq_false_iff_not, Int.not_lt, Int.not_le, gt_iff_lt, ge_iff_le] at h) <;> first | exact absurd h Bool.false_ne_true | exact absurd h.symm Bool.false_ne_true | conv => whnf))
    | (refine VL.drawS hTb hMix (by kernel_rfl) (by kernel_rfl) (by kernel_rfl) ?_; conv => whnf)
    | (refine Need.mk ?_; kernel_rfl) | (refine Need.mk ⟨rfl, ?_⟩; decide)
    | (refine VR.rel hTb rfl rfl (o_relN (zc _ h1 (by omega)) false [] (fun _ _ => ⟨by simp, fun h => by cases h⟩) rfl rfl rfl rfl rfl ⟨rfl, rfl, rfl, rfl⟩ rfl rfl) ?_; rintro y2 hy2; (try simp only at hy2); conv => whnf)
    | (refine DT.rel hTb rfl (o_relN (zc _ h1 (by omega)) false [] (fun _ _ => ⟨by simp, fun h => by cases h⟩) rfl rfl rfl rfl rfl ⟨rfl, rfl, rfl, rfl⟩ rfl rfl) [] (by kernel_rfl) (by kernel_rfl) ?_; rintro y2 hy2; (try simp only at hy2); refine And.intro rfl (And.intro rfl ?_); conv => whnf))
  · rfl
  have h2 : 0 ≤ y2 := by first | omega | (simp at h; omega)
  obtain ⟨hn, hm⟩ : cs.length ≤ 1048576 ∧ mdCols cs := hy1.2 h1
  have hcm := hy2.2 h2
  have c1 := cD (by omega) hm hcm
  have c2 := cE (by omega) hm hcm
  have hxm := hxm0 hm hcm
  have tC := t_Cols cs ⟨hn, fun _ _ => trivial⟩
  have tD := tC2 trivial
  have uC := u_Cols cs ⟨hn, fun _ _ => trivial⟩
  have eS := e_Cols cs ⟨lmax (by omega), hm.ok⟩
  generalize sdo cs ⟨kd, nm, nw, ⟨cn, ck, k1, k2, ⟨d1, d2, d3⟩⟩⟩ = y at c1 c2 hxm hxl0
  obtain ⟨x, ok⟩ := y
  simp only at hxm hxl0
  have eX := e_Cols x ⟨lmax (by omega), hxm.ok⟩
  have mS := c_markCols cs 1 (by omega) (by omega) (by omega)
  have mX := c_markCols x 1 (by omega) (by omega) (by omega)
  have hX := c_heldCols x.length 1 (by omega) (by omega) (by omega)
  have n1 : ¬ (((1 + 7 * cs.length : Nat) : Int) < 0) := by omega
  have n2 : ¬ (((1 + 7 * x.length : Nat) : Int) < 0) := by omega
  cases ok <;> (conv => whnf); repeat' (first
    | (exact absurd h n1)
    | (exact absurd h n2)
    | (refine absurd h ?_; (simp; done))
    | (refine VL.freeze 1124 rfl rfl ?_; conv => whnf; rw [fzC])
    | (refine VL.freeze 1216 rfl rfl ?_; conv => whnf; rw [fzC])
    | (refine And.intro ?_ ?_ <;> ((try intro h) <;> (try simp only [Bool.not_true, Bool.not_false, decide_eq_true_eq, decide_eq_false_iff_not, Int.not_lt, Int.not_le, gt_iff_lt, ge_iff_le] at h) <;> first | exact absurd h Bool.false_ne_true | exact absurd h.symm Bool.false_ne_true | conv => whnf))
    | (refine VL.drawS hTb hMix (by kernel_rfl) (by kernel_rfl) (by kernel_rfl) ?_; conv => whnf)
    | (refine Need.mk ?_; kernel_rfl) | (refine Need.mk ⟨rfl, ?_⟩; decide)
    | (refine VR.freeze hTb rfl 1124 rfl rfl ?_; conv => whnf; rw [fzC])
    | (refine VR.freeze hTb rfl 1216 rfl rfl ?_; conv => whnf; rw [fzC])
    | (refine DT.pure hTb rfl (o_purF tC rfl rfl rfl ⟨rfl, rfl, rfl, rfl⟩ rfl) ?_; conv => whnf)
    | (refine VR.fun hTb rfl rfl (o_funN (uC) false [] (fun h => by cases h) (by simp) rfl rfl rfl rfl rfl ⟨rfl, rfl, rfl, rfl⟩ rfl rfl) ?_; conv => whnf)
    | (refine DT.fun hTb rfl (o_funN (uC) false [] (fun h => by cases h) (by simp) rfl rfl rfl rfl rfl ⟨rfl, rfl, rfl, rfl⟩ rfl rfl) rfl ?_; conv => whnf)
    | (refine VR.pure hTb rfl rfl (o_purN (tD) rfl rfl rfl ⟨rfl, rfl, rfl, rfl⟩ rfl) ?_; conv => whnf)
    | (refine DT.pure hTb rfl (o_purN (tD) rfl rfl rfl ⟨rfl, rfl, rfl, rfl⟩ rfl) ?_; conv => whnf)
    | (refine VR.fun hTb rfl rfl (o_funN (c1) false [] (fun h => by cases h) (by simp) rfl rfl rfl rfl rfl ⟨rfl, rfl, rfl, rfl⟩ rfl rfl) ?_; conv => whnf)
    | (refine DT.fun hTb rfl (o_funN (c1) false [] (fun h => by cases h) (by simp) rfl rfl rfl rfl rfl ⟨rfl, rfl, rfl, rfl⟩ rfl rfl) rfl ?_; conv => whnf)
    | (refine VR.fun hTb rfl rfl (o_funN (c2) false [] (fun h => by cases h) (by simp) rfl rfl rfl rfl rfl ⟨rfl, rfl, rfl, rfl⟩ rfl rfl) ?_; conv => whnf)
    | (refine DT.fun hTb rfl (o_funN (c2) false [] (fun h => by cases h) (by simp) rfl rfl rfl rfl rfl ⟨rfl, rfl, rfl, rfl⟩ rfl rfl) rfl ?_; conv => whnf)
    | (refine VR.fun hTb rfl rfl (o_funN (c1) true [] (fun _ => grShS _) (by simp) rfl rfl rfl rfl rfl ⟨rfl, rfl, rfl, rfl⟩ ?_ rfl) ?_; exact congrArg (fun s => [s, _]) brw; conv => whnf)
    | (refine DT.fun hTb rfl (o_funN (c1) true [] (fun _ => grShS _) (by simp) rfl rfl rfl rfl rfl ⟨rfl, rfl, rfl, rfl⟩ ?_ rfl) rfl ?_; exact congrArg (fun s => [s, _]) brw; conv => whnf)
    | (refine VR.pure hTb rfl rfl (o_purN (eX) rfl rfl rfl ⟨rfl, rfl, rfl, rfl⟩ (congrArg (fun s => [s, _]) brw)) ?_; conv => whnf)
    | (refine DT.pure hTb rfl (o_purN (eX) rfl rfl rfl ⟨rfl, rfl, rfl, rfl⟩ (congrArg (fun s => [s, _]) brw)) ?_; conv => whnf)
    | (refine VR.pure hTb rfl rfl (o_purN (eX) rfl rfl rfl ⟨rfl, rfl, rfl, rfl⟩ (congrArg (fun s => [s, _]) brw')) ?_; conv => whnf)
    | (refine DT.pure hTb rfl (o_purN (eX) rfl rfl rfl ⟨rfl, rfl, rfl, rfl⟩ (congrArg (fun s => [s, _]) brw')) ?_; conv => whnf)
    | (refine VR.pure hTb rfl rfl (o_purN (eX) rfl rfl rfl ⟨rfl, rfl, rfl, rfl⟩ (congrArg (fun s => [s, _]) (brwG (by simp)))) ?_; conv => whnf)
    | (refine DT.pure hTb rfl (o_purN (eX) rfl rfl rfl ⟨rfl, rfl, rfl, rfl⟩ (congrArg (fun s => [s, _]) (brwG (by simp)))) ?_; conv => whnf)
    | (refine VR.pure hTb rfl rfl (o_purN (eS) rfl rfl rfl ⟨rfl, rfl, rfl, rfl⟩ (congrArg (fun s => [s, _]) brw)) ?_; conv => whnf)
    | (refine DT.pure hTb rfl (o_purN (eS) rfl rfl rfl ⟨rfl, rfl, rfl, rfl⟩ (congrArg (fun s => [s, _]) brw)) ?_; conv => whnf)
    | (refine VR.pure hTb rfl rfl (o_purN (eS) rfl rfl rfl ⟨rfl, rfl, rfl, rfl⟩ (congrArg (fun s => [s, _]) brw')) ?_; conv => whnf)
    | (refine DT.pure hTb rfl (o_purN (eS) rfl rfl rfl ⟨rfl, rfl, rfl, rfl⟩ (congrArg (fun s => [s, _]) brw')) ?_; conv => whnf)
    | (refine VR.pure hTb rfl rfl (o_purN (eS) rfl rfl rfl ⟨rfl, rfl, rfl, rfl⟩ (congrArg (fun s => [s, _]) (brwG (by simp)))) ?_; conv => whnf)
    | (refine DT.pure hTb rfl (o_purN (eS) rfl rfl rfl ⟨rfl, rfl, rfl, rfl⟩ (congrArg (fun s => [s, _]) (brwG (by simp)))) ?_; conv => whnf)
    | (refine VR.fun hTb rfl rfl (o_funN (mS) false [1140] (fun h => by cases h) (by simp) rfl rfl rfl rfl rfl ⟨rfl, rfl, rfl, rfl⟩ rfl rfl) ?_; conv => whnf)
    | (refine DT.fun hTb rfl (o_funN (mS) false [1140] (fun h => by cases h) (by simp) rfl rfl rfl rfl rfl ⟨rfl, rfl, rfl, rfl⟩ rfl rfl) rfl ?_; conv => whnf)
    | (refine VR.fun hTb rfl rfl (o_funN (mX) false [1160] (fun h => by cases h) (by simp) rfl rfl rfl rfl rfl ⟨rfl, rfl, rfl, rfl⟩ rfl rfl) ?_; conv => whnf)
    | (refine DT.fun hTb rfl (o_funN (mX) false [1160] (fun h => by cases h) (by simp) rfl rfl rfl rfl rfl ⟨rfl, rfl, rfl, rfl⟩ rfl rfl) rfl ?_; conv => whnf)
    | (refine VR.pure hTb rfl rfl (o_purN hX rfl rfl rfl ⟨rfl, rfl, rfl, rfl⟩ ?_) ?_; exact two_sl (brwG (by simp [mkCols])) rfl; conv => whnf))
  all_goals first
    | rfl
    | trace_state

theorem y_ColsN (l : List Col) (hl : l.length ≤ maxLen) (hv : ∀ x ∈ l, x.ok) (n : Int) (h0 : 0 ≤ n) (h1 : n ≤ 1048576) : CallsV Tryd.prog 29 [colsI l, iS n] [] (relQ (fun y : Int => y ≤ n ∧ (0 ≤ y → y + l.length ≤ n ∧ ∀ x ∈ l, x.md)) iS (fun _ => []) (fun _ => [])) := by
  refine funF_walk hTb Tryd.func29 rfl rfl Tryd.ntmps29 (by simp) (by simp) ?_
  have e1 : IntKind.i64.wrap (n - ((l.map encCol).length : Int)) = n - l.length := by rw [List.length_map]; exact wsub h0 h1 hl
  (conv => whnf); repeat' (first | (refine And.intro ?_ ?_ <;> ((try intro h) <;> (try simp only [Bool.not_true, Bool.not_false] at h) <;> first | exact absurd h Bool.false_ne_true | exact absurd h.symm Bool.false_ne_true | conv => whnf)) | (refine Need.mk ?_; kernel_rfl) | (refine Need.mk ⟨rfl, ?_⟩; decide))
  · rw [e1] at h
    refine endR [] _ rfl rfl rfl rfl rfl (LeS.refl _) rfl rfl ⟨by omega, fun hp => by omega⟩
  rw [e1] at h ⊢
  have h2 : (l.length : Int) ≤ n := by simp at h; omega
  refine VL.loopI hTb (fun (x : Nat × Int) => x.1 ≤ l.length ∧ 0 ≤ x.2 ∧ x.2 ≤ n - l.length ∧ ∀ j (hj : j < l.length), j < x.1 → (l[j]).md) (fun x => ⟨[(0, colsI l), (5, iS x.1), (1, iS x.2)], [], []⟩) (fun x => l.length - x.1) (0, n - l.length) ⟨Nat.zero_le _, by simp only; omega, by simp only; omega, fun j _ hj => absurd hj (Nat.not_lt_zero _)⟩
    (wk_to [] rfl rfl rfl ⟨rfl, rfl, rfl, trivial⟩ trivial) (fun x hx => ?_)
  obtain ⟨i, y0⟩ := x
  obtain ⟨hi, k0, k1, hs⟩ := hx
  simp only at hi k0 k1 hs
  (conv => whnf)
  refine And.intro (fun h3 => ?_) (fun h3 => ?_)
  · have hlt : i < l.length := by simpa using h3
    have hrow := rowCol hlt
    have hc := y_Col l[i] (hv _ (List.getElem_mem hlt)) y0 k0 (by omega)
    generalize hci : l[i] = ci at hrow hc
    obtain ⟨name, kind, need, once, ⟨d_k, d_n, d_t⟩⟩ := ci
    (conv => whnf); repeat' (first
    | (refine And.intro ?_ ?_ <;> ((try intro h) <;> (try simp only [Bool.not_true, Bool.not_false, decide_eq_true_eq, decide_eq_false_iff_not, Int.not_lt, Int.not_le, gt_iff_lt, ge_iff_le] at h) <;> first | exact absurd h Bool.false_ne_true | exact absurd h.symm Bool.false_ne_true | conv => whnf))
    | (refine VL.drawS hTb hMix (by kernel_rfl) (by kernel_rfl) (by kernel_rfl) ?_; conv => whnf)
    | (refine Need.mk ?_; kernel_rfl) | (refine Need.mk ⟨rfl, ?_⟩; decide)
    | (refine VR.op hTb rfl rfl (o_index_imm hTb rfl rfl rfl rfl rfl rfl rfl (by omega) (hrow)) rfl ?_; conv => whnf)
    | (refine DT.op hTb rfl (o_index_imm hTb rfl rfl rfl rfl rfl rfl rfl (by omega) (hrow)) rfl ?_; conv => whnf)
    | (refine VR.rel hTb rfl rfl (o_relN (hc) false [] (fun _ _ => ⟨by simp, fun h => by cases h⟩) rfl rfl rfl rfl rfl ⟨rfl, rfl, rfl, rfl⟩ rfl rfl) ?_; rintro y1 hy1; (try simp only at hy1); conv => whnf)
    | (refine DT.rel hTb rfl (o_relN (hc) false [] (fun _ _ => ⟨by simp, fun h => by cases h⟩) rfl rfl rfl rfl rfl ⟨rfl, rfl, rfl, rfl⟩ rfl rfl) [] (by kernel_rfl) (by kernel_rfl) ?_; rintro y1 hy1; (try simp only at hy1); refine And.intro rfl (And.intro rfl ?_); conv => whnf))
    · refine endR [] _ rfl rfl rfl rfl rfl (LeS.refl _) rfl rfl ⟨by omega, fun hp => by omega⟩
    · have h4 : 0 ≤ y1 := by first | omega | (simp at h; omega)
      refine ⟨(i + 1, y1), ⟨hlt, h4, by simp only; omega, fun j hj hj2 => ?_⟩, by show l.length - (i + 1) < l.length - i; omega, wk_to [] rfl rfl rfl ⟨rfl, congrArg (fun x => Slot.one (.g (.int .i64 x))) (wrap64' (by unfold maxLen; omega)), rfl, trivial⟩ trivial⟩
      by_cases hji : j = i
      · subst hji; rw [hci]; exact hy1.2 h4
      · exact hs j hj (by omega)
  · (conv => whnf)
    have hie : i = l.length := by simp at h3; omega
    subst hie
    refine endR [] _ rfl rfl rfl rfl rfl (LeS.refl _) rfl rfl ⟨by omega, fun hp => ⟨by omega, fun x hx => ?_⟩⟩
    obtain ⟨j, hj, rfl⟩ := List.getElem_of_mem hx
    exact hs j hj hj

theorem fzH (x : List Change) : ((x.map encChange).drop 0).take x.length = x.map encChange := by rw [List.drop_zero, List.take_of_length_le (by simp)]
theorem rwCh_le (s : List Col) (c : Change) (row : List Val) : (rwCh s c row).length ≤ row.length + 1 := by
  unfold rwCh
  split; · simp
  split; · have := List.length_eraseIdx_le row (nameAt s c.name).toNat; omega
  split <;> simp
theorem rwDo_le (s : List Col) (c : Change) (row : List Val) : (rwDo s c row).length ≤ row.length + 1 := by
  unfold rwDo
  split
  · exact rwCh_le s c row
  · simp
theorem rwDo_md {s : List Col} {c : Change} {row : List Val} (hc : c.md) (hr : mdVals row) : mdVals (rwDo s c row) := by
  unfold rwDo
  split
  · exact rwCh_md hc hr
  · exact fun x hx => by cases hx
theorem Change.md.ok {c : Change} (h : c.md) : c.ok := ⟨by have := h.1; unfold maxLen; omega, by have := h.2.1; unfold maxLen; omega, by have := h.2.2.1; unfold maxLen; omega, by have := h.2.2.2; show c.col.d.t.size ≤ maxLen; unfold maxLen; omega⟩
theorem c_FnExactRowDo (cs : List Col) (c : Change) (row : List Val) (la : cs.length ≤ maxLen) (oa : ∀ x ∈ cs, x.ok) (oc : c.ok) (lr : row.length ≤ maxLen) (or' : ∀ x ∈ row, x.ok) :
    CallsV Tryd.prog 12 [colsI cs, .agg (encChange c), valsI row] [] (pureQ (bS true)) := by
  have za := fun n h0 h1 => y_Cols cs la oa n h0 h1
  have zc := fun n h0 h1 => y_Change c oc n h0 h1
  have zr := fun n h0 h1 => y_Vals row lr or' n h0 h1
  have tC2 := t_Change c
  have cD := c_implRowDo cs c row
  have cE := c_specRowDo cs c row
  have hxm0 := @rwDo_md cs c row
  have hxl0 := rwDo_le cs c row
  obtain ⟨kd, nm, nw, ⟨cn, ck, k1, k2, ⟨d1, d2, d3⟩⟩⟩ := c
  refine pure_walk hTb Tryd.func12 rfl rfl Tryd.ntmps12 (by simp) ?_
  (conv => whnf); repeat' (first
    | (refine And.intro ?_ ?_ <;> ((try intro h) <;> (try simp only [Bool.not_true, Bool.not_false, decide_eq_true_eq, decide_eq_false_iff_not, Int.not_lt, Int.not_le, gt_iff_lt, ge_iff_le] at h) <;> first | exact absurd h Bool.false_ne_true | exact absurd h.symm Bool.false_ne_true | conv => whnf))
    | (refine VL.drawS hTb hMix (by kernel_rfl) (by kernel_rfl) (by kernel_rfl) ?_; conv => whnf)
    | (refine Need.mk ?_; kernel_rfl) | (refine Need.mk ⟨rfl, ?_⟩; decide)
    | (refine VR.rel hTb rfl rfl (o_relN (za _ (by omega) (by omega)) false [] (fun _ _ => ⟨by simp, fun h => by cases h⟩) rfl rfl rfl rfl rfl ⟨rfl, rfl, rfl, rfl⟩ rfl rfl) ?_; rintro y1 hy1; (try simp only at hy1); conv => whnf)
    | (refine DT.rel hTb rfl (o_relN (za _ (by omega) (by omega)) false [] (fun _ _ => ⟨by simp, fun h => by cases h⟩) rfl rfl rfl rfl rfl ⟨rfl, rfl, rfl, rfl⟩ rfl rfl) [] (by kernel_rfl) (by kernel_rfl) ?_; rintro y1 hy1; (try simp only at hy1); refine And.intro rfl (And.intro rfl ?_); conv => whnf))
  · rfl
  have h1 : 0 ≤ y1 := by first | omega | (simp at h; omega)
  (conv => whnf); repeat' (first
    | (refine And.intro ?_ ?_ <;> ((try intro h) <;> (try simp only [Bool.not_true, Bool.not_false, decide_eq_true_eq, decide_eq_false_iff_not, Int.not_lt, Int.not_le, gt_iff_lt, ge_iff_le] at h) <;> first | exact absurd h Bool.false_ne_true | exact absurd h.symm Bool.false_ne_true | conv => whnf))
    | (refine VL.drawS hTb hMix (by kernel_rfl) (by kernel_rfl) (by kernel_rfl) ?_; conv => whnf)
    | (refine Need.mk ?_; kernel_rfl) | (refine Need.mk ⟨rfl, ?_⟩; decide)
    | (refine VR.rel hTb rfl rfl (o_relN (zc _ h1 (by omega)) false [] (fun _ _ => ⟨by simp, fun h => by cases h⟩) rfl rfl rfl rfl rfl ⟨rfl, rfl, rfl, rfl⟩ rfl rfl) ?_; rintro y2 hy2; (try simp only at hy2); conv => whnf)
    | (refine DT.rel hTb rfl (o_relN (zc _ h1 (by omega)) false [] (fun _ _ => ⟨by simp, fun h => by cases h⟩) rfl rfl rfl rfl rfl ⟨rfl, rfl, rfl, rfl⟩ rfl rfl) [] (by kernel_rfl) (by kernel_rfl) ?_; rintro y2 hy2; (try simp only at hy2); refine And.intro rfl (And.intro rfl ?_); conv => whnf))
  · rfl
  have h2 : 0 ≤ y2 := by first | omega | (simp at h; omega)
  (conv => whnf); repeat' (first
    | (refine And.intro ?_ ?_ <;> ((try intro h) <;> (try simp only [Bool.not_true, Bool.not_false, decide_eq_true_eq, decide_eq_false_iff_not, Int.not_lt, Int.not_le, gt_iff_lt, ge_iff_le] at h) <;> first | exact absurd h Bool.false_ne_true | exact absurd h.symm Bool.false_ne_true | conv => whnf))
    | (refine VL.drawS hTb hMix (by kernel_rfl) (by kernel_rfl) (by kernel_rfl) ?_; conv => whnf)
    | (refine Need.mk ?_; kernel_rfl) | (refine Need.mk ⟨rfl, ?_⟩; decide)
    | (refine VR.rel hTb rfl rfl (o_relN (zr _ h2 (by omega)) false [] (fun _ _ => ⟨by simp, fun h => by cases h⟩) rfl rfl rfl rfl rfl ⟨rfl, rfl, rfl, rfl⟩ rfl rfl) ?_; rintro y3 hy3; (try simp only at hy3); conv => whnf)
    | (refine DT.rel hTb rfl (o_relN (zr _ h2 (by omega)) false [] (fun _ _ => ⟨by simp, fun h => by cases h⟩) rfl rfl rfl rfl rfl ⟨rfl, rfl, rfl, rfl⟩ rfl rfl) [] (by kernel_rfl) (by kernel_rfl) ?_; rintro y3 hy3; (try simp only at hy3); refine And.intro rfl (And.intro rfl ?_); conv => whnf))
  · rfl
  have h3 : 0 ≤ y3 := by first | omega | (simp at h; omega)
  obtain ⟨hn, hm⟩ : cs.length ≤ 1048576 ∧ mdCols cs := hy1.2 h1
  have hcm := hy2.2 h2
  obtain ⟨hr, hrm⟩ : row.length ≤ 1048576 ∧ mdVals row := hy3.2 h3
  have c1 := cD (by omega) (by omega) hm hcm hrm
  have c2 := cE (by omega) (by omega) hm hcm hrm
  have hxm := hxm0 hcm hrm
  have tC := t_Cols cs ⟨hn, fun _ _ => trivial⟩
  have tV := t_Vals row ⟨hr, fun _ _ => trivial⟩
  have tD := tC2 trivial
  have uC := u_Cols cs ⟨hn, fun _ _ => trivial⟩
  have uV := u_Vals row ⟨hr, fun _ _ => trivial⟩
  have eS := e_Cols cs ⟨lmax (by omega), hm.ok⟩
  have eR := e_Vals row ⟨lmax (by omega), mdv_ok hrm⟩
  generalize rwDo cs ⟨kd, nm, nw, ⟨cn, ck, k1, k2, ⟨d1, d2, d3⟩⟩⟩ row = x at c1 c2 hxm hxl0
  have eX := e_Vals x ⟨lmax (by omega), mdv_ok hxm⟩
  have mS := c_markCols cs 1 (by omega) (by omega) (by omega)
  have mR := c_markVals row (1 + 7 * cs.length) (by omega) (by omega) (by omega)
  have mX := c_markVals x 1 (by omega) (by omega) (by omega)
  have hX := c_heldVals x.length 1 (by omega) (by omega) (by omega)
  have n1 : ¬ (((1 + 7 * cs.length + 3 * row.length : Nat) : Int) < 0) := by omega
  have n2 : ¬ (((1 + 3 * x.length : Nat) : Int) < 0) := by omega
  (conv => whnf); repeat' (first
    | (exact absurd h n1)
    | (exact absurd h n2)
    | (refine absurd h ?_; (simp; done))
    | (refine VL.freeze 1148 rfl rfl ?_; conv => whnf; rw [fzV])
    | (refine VL.freeze 1212 rfl rfl ?_; conv => whnf; rw [fzC])
    | (refine VL.freeze 1232 rfl rfl ?_; conv => whnf; rw [fzV])
    | (refine And.intro ?_ ?_ <;> ((try intro h) <;> (try simp only [Bool.not_true, Bool.not_false, decide_eq_true_eq, decide_eq_false_iff_not, Int.not_lt, Int.not_le, gt_iff_lt, ge_iff_le] at h) <;> first | exact absurd h Bool.false_ne_true | exact absurd h.symm Bool.false_ne_true | conv => whnf))
    | (refine VL.drawS hTb hMix (by kernel_rfl) (by kernel_rfl) (by kernel_rfl) ?_; conv => whnf)
    | (refine Need.mk ?_; kernel_rfl) | (refine Need.mk ⟨rfl, ?_⟩; decide)
    | (refine VR.freeze hTb rfl 1148 rfl rfl ?_; conv => whnf; rw [fzV])
    | (refine VR.freeze hTb rfl 1212 rfl rfl ?_; conv => whnf; rw [fzC])
    | (refine VR.freeze hTb rfl 1232 rfl rfl ?_; conv => whnf; rw [fzV])
    | (refine DT.pure hTb rfl (o_purF tC rfl rfl rfl ⟨rfl, rfl, rfl, rfl⟩ rfl) ?_; conv => whnf)
    | (refine DT.pure hTb rfl (o_purF tV rfl rfl rfl ⟨rfl, rfl, rfl, rfl⟩ rfl) ?_; conv => whnf)
    | (refine VR.fun hTb rfl rfl (o_funN (uC) false [] (fun h => by cases h) (by simp) rfl rfl rfl rfl rfl ⟨rfl, rfl, rfl, rfl⟩ rfl rfl) ?_; conv => whnf)
    | (refine DT.fun hTb rfl (o_funN (uC) false [] (fun h => by cases h) (by simp) rfl rfl rfl rfl rfl ⟨rfl, rfl, rfl, rfl⟩ rfl rfl) rfl ?_; conv => whnf)
    | (refine VR.fun hTb rfl rfl (o_funN (uV) false [] (fun h => by cases h) (by simp) rfl rfl rfl rfl rfl ⟨rfl, rfl, rfl, rfl⟩ rfl rfl) ?_; conv => whnf)
    | (refine DT.fun hTb rfl (o_funN (uV) false [] (fun h => by cases h) (by simp) rfl rfl rfl rfl rfl ⟨rfl, rfl, rfl, rfl⟩ rfl rfl) rfl ?_; conv => whnf)
    | (refine VR.pure hTb rfl rfl (o_purN (tD) rfl rfl rfl ⟨rfl, rfl, rfl, rfl⟩ rfl) ?_; conv => whnf)
    | (refine DT.pure hTb rfl (o_purN (tD) rfl rfl rfl ⟨rfl, rfl, rfl, rfl⟩ rfl) ?_; conv => whnf)
    | (refine VR.fun hTb rfl rfl (o_funN (c1) false [] (fun h => by cases h) (by simp) rfl rfl rfl rfl rfl ⟨rfl, rfl, rfl, rfl⟩ rfl rfl) ?_; conv => whnf)
    | (refine DT.fun hTb rfl (o_funN (c1) false [] (fun h => by cases h) (by simp) rfl rfl rfl rfl rfl ⟨rfl, rfl, rfl, rfl⟩ rfl rfl) rfl ?_; conv => whnf)
    | (refine VR.fun hTb rfl rfl (o_funN (c2) false [] (fun h => by cases h) (by simp) rfl rfl rfl rfl rfl ⟨rfl, rfl, rfl, rfl⟩ rfl rfl) ?_; conv => whnf)
    | (refine DT.fun hTb rfl (o_funN (c2) false [] (fun h => by cases h) (by simp) rfl rfl rfl rfl rfl ⟨rfl, rfl, rfl, rfl⟩ rfl rfl) rfl ?_; conv => whnf)
    | (refine VR.fun hTb rfl rfl (o_funN (c1) true [] (fun _ => grNewVal _ _) (by simp) rfl rfl rfl rfl rfl ⟨rfl, rfl, rfl, rfl⟩ ?_ rfl) ?_; exact three_sl brw rfl brw; conv => whnf)
    | (refine DT.fun hTb rfl (o_funN (c1) true [] (fun _ => grNewVal _ _) (by simp) rfl rfl rfl rfl rfl ⟨rfl, rfl, rfl, rfl⟩ ?_ rfl) rfl ?_; exact three_sl brw rfl brw; conv => whnf)
    | (refine VR.pure hTb rfl rfl (o_purN (eX) rfl rfl rfl ⟨rfl, rfl, rfl, rfl⟩ (congrArg (fun s => [s, _]) brw)) ?_; conv => whnf)
    | (refine DT.pure hTb rfl (o_purN (eX) rfl rfl rfl ⟨rfl, rfl, rfl, rfl⟩ (congrArg (fun s => [s, _]) brw)) ?_; conv => whnf)
    | (refine VR.pure hTb rfl rfl (o_purN (eX) rfl rfl rfl ⟨rfl, rfl, rfl, rfl⟩ (congrArg (fun s => [s, _]) brw')) ?_; conv => whnf)
    | (refine DT.pure hTb rfl (o_purN (eX) rfl rfl rfl ⟨rfl, rfl, rfl, rfl⟩ (congrArg (fun s => [s, _]) brw')) ?_; conv => whnf)
    | (refine VR.pure hTb rfl rfl (o_purN (eX) rfl rfl rfl ⟨rfl, rfl, rfl, rfl⟩ (congrArg (fun s => [s, _]) (brwG (by simp)))) ?_; conv => whnf)
    | (refine DT.pure hTb rfl (o_purN (eX) rfl rfl rfl ⟨rfl, rfl, rfl, rfl⟩ (congrArg (fun s => [s, _]) (brwG (by simp)))) ?_; conv => whnf)
    | (refine VR.pure hTb rfl rfl (o_purN (eS) rfl rfl rfl ⟨rfl, rfl, rfl, rfl⟩ (congrArg (fun s => [s, _]) brw)) ?_; conv => whnf)
    | (refine DT.pure hTb rfl (o_purN (eS) rfl rfl rfl ⟨rfl, rfl, rfl, rfl⟩ (congrArg (fun s => [s, _]) brw)) ?_; conv => whnf)
    | (refine VR.pure hTb rfl rfl (o_purN (eS) rfl rfl rfl ⟨rfl, rfl, rfl, rfl⟩ (congrArg (fun s => [s, _]) brw')) ?_; conv => whnf)
    | (refine DT.pure hTb rfl (o_purN (eS) rfl rfl rfl ⟨rfl, rfl, rfl, rfl⟩ (congrArg (fun s => [s, _]) brw')) ?_; conv => whnf)
    | (refine VR.pure hTb rfl rfl (o_purN (eS) rfl rfl rfl ⟨rfl, rfl, rfl, rfl⟩ (congrArg (fun s => [s, _]) (brwG (by simp)))) ?_; conv => whnf)
    | (refine DT.pure hTb rfl (o_purN (eS) rfl rfl rfl ⟨rfl, rfl, rfl, rfl⟩ (congrArg (fun s => [s, _]) (brwG (by simp)))) ?_; conv => whnf)
    | (refine VR.pure hTb rfl rfl (o_purN (eR) rfl rfl rfl ⟨rfl, rfl, rfl, rfl⟩ (congrArg (fun s => [s, _]) brw)) ?_; conv => whnf)
    | (refine DT.pure hTb rfl (o_purN (eR) rfl rfl rfl ⟨rfl, rfl, rfl, rfl⟩ (congrArg (fun s => [s, _]) brw)) ?_; conv => whnf)
    | (refine VR.pure hTb rfl rfl (o_purN (eR) rfl rfl rfl ⟨rfl, rfl, rfl, rfl⟩ (congrArg (fun s => [s, _]) brw')) ?_; conv => whnf)
    | (refine DT.pure hTb rfl (o_purN (eR) rfl rfl rfl ⟨rfl, rfl, rfl, rfl⟩ (congrArg (fun s => [s, _]) brw')) ?_; conv => whnf)
    | (refine VR.pure hTb rfl rfl (o_purN (eR) rfl rfl rfl ⟨rfl, rfl, rfl, rfl⟩ (congrArg (fun s => [s, _]) (brwG (by simp)))) ?_; conv => whnf)
    | (refine DT.pure hTb rfl (o_purN (eR) rfl rfl rfl ⟨rfl, rfl, rfl, rfl⟩ (congrArg (fun s => [s, _]) (brwG (by simp)))) ?_; conv => whnf)
    | (refine VR.fun hTb rfl rfl (o_funN (mS) false [1156] (fun h => by cases h) (by simp) rfl rfl rfl rfl rfl ⟨rfl, rfl, rfl, rfl⟩ rfl rfl) ?_; conv => whnf)
    | (refine DT.fun hTb rfl (o_funN (mS) false [1156] (fun h => by cases h) (by simp) rfl rfl rfl rfl rfl ⟨rfl, rfl, rfl, rfl⟩ rfl rfl) rfl ?_; conv => whnf)
    | (refine VR.fun hTb rfl rfl (o_funN (mR) false [1164] (fun h => by cases h) (by simp) rfl rfl rfl rfl rfl ⟨rfl, rfl, rfl, rfl⟩ rfl rfl) ?_; conv => whnf)
    | (refine DT.fun hTb rfl (o_funN (mR) false [1164] (fun h => by cases h) (by simp) rfl rfl rfl rfl rfl ⟨rfl, rfl, rfl, rfl⟩ rfl rfl) rfl ?_; conv => whnf)
    | (refine VR.fun hTb rfl rfl (o_funN (mX) false [1184] (fun h => by cases h) (by simp) rfl rfl rfl rfl rfl ⟨rfl, rfl, rfl, rfl⟩ rfl rfl) ?_; conv => whnf)
    | (refine DT.fun hTb rfl (o_funN (mX) false [1184] (fun h => by cases h) (by simp) rfl rfl rfl rfl rfl ⟨rfl, rfl, rfl, rfl⟩ rfl rfl) rfl ?_; conv => whnf)
    | (refine VR.pure hTb rfl rfl (o_purN hX rfl rfl rfl ⟨rfl, rfl, rfl, rfl⟩ ?_) ?_; exact two_sl (brwG (by simp [mkVals])) rfl; conv => whnf))
  all_goals first
    | rfl
    | trace_state
theorem c_FnExactShapeAll (cs : List Col) (list : List Change) (la : cs.length ≤ maxLen) (oa : ∀ x ∈ cs, x.ok) (lr : list.length ≤ maxLen) (or' : ∀ x ∈ list, x.ok) :
    CallsV Tryd.prog 14 [colsI cs, changesI list] [] (pureQ (bS true)) := by
  have za := fun n h0 h1 => y_ColsN cs la oa n h0 h1
  have zr := fun n h0 h1 => y_Changes list lr or' n h0 h1
  refine pure_walk hTb Tryd.func14 rfl rfl Tryd.ntmps14 (by simp) ?_
  (conv => whnf); repeat' (first
    | (refine And.intro ?_ ?_ <;> ((try intro h) <;> (try simp only [Bool.not_true, Bool.not_false, decide_eq_true_eq, decide_eq_false_iff_not, Int.not_lt, Int.not_le, gt_iff_lt, ge_iff_le] at h) <;> first | exact absurd h Bool.false_ne_true | exact absurd h.symm Bool.false_ne_true | conv => whnf))
    | (refine VL.drawS hTb hMix (by kernel_rfl) (by kernel_rfl) (by kernel_rfl) ?_; conv => whnf)
    | (refine Need.mk ?_; kernel_rfl) | (refine Need.mk ⟨rfl, ?_⟩; decide)
    | (refine VR.rel hTb rfl rfl (o_relN (za _ (by omega) (by omega)) false [] (fun _ _ => ⟨by simp, fun h => by cases h⟩) rfl rfl rfl rfl rfl ⟨rfl, rfl, rfl, rfl⟩ rfl rfl) ?_; rintro y1 hy1; (try simp only at hy1); conv => whnf)
    | (refine DT.rel hTb rfl (o_relN (za _ (by omega) (by omega)) false [] (fun _ _ => ⟨by simp, fun h => by cases h⟩) rfl rfl rfl rfl rfl ⟨rfl, rfl, rfl, rfl⟩ rfl rfl) [] (by kernel_rfl) (by kernel_rfl) ?_; rintro y1 hy1; (try simp only at hy1); refine And.intro rfl (And.intro rfl ?_); conv => whnf))
  · rfl
  have h1 : 0 ≤ y1 := by first | omega | (simp at h; omega)
  (conv => whnf); repeat' (first
    | (refine And.intro ?_ ?_ <;> ((try intro h) <;> (try simp only [Bool.not_true, Bool.not_false, decide_eq_true_eq, decide_eq_false_iff_not, Int.not_lt, Int.not_le, gt_iff_lt, ge_iff_le] at h) <;> first | exact absurd h Bool.false_ne_true | exact absurd h.symm Bool.false_ne_true | conv => whnf))
    | (refine VL.drawS hTb hMix (by kernel_rfl) (by kernel_rfl) (by kernel_rfl) ?_; conv => whnf)
    | (refine Need.mk ?_; kernel_rfl) | (refine Need.mk ⟨rfl, ?_⟩; decide)
    | (refine VR.rel hTb rfl rfl (o_relN (zr _ h1 (by omega)) false [] (fun _ _ => ⟨by simp, fun h => by cases h⟩) rfl rfl rfl rfl rfl ⟨rfl, rfl, rfl, rfl⟩ rfl rfl) ?_; rintro y2 hy2; (try simp only at hy2); conv => whnf)
    | (refine DT.rel hTb rfl (o_relN (zr _ h1 (by omega)) false [] (fun _ _ => ⟨by simp, fun h => by cases h⟩) rfl rfl rfl rfl rfl ⟨rfl, rfl, rfl, rfl⟩ rfl rfl) [] (by kernel_rfl) (by kernel_rfl) ?_; rintro y2 hy2; (try simp only at hy2); refine And.intro rfl (And.intro rfl ?_); conv => whnf))
  · rfl
  have h2 : 0 ≤ y2 := by first | omega | (simp at h; omega)
  obtain ⟨hn, hm⟩ : y1 + cs.length ≤ 1048576 ∧ mdCols cs := hy1.2 h1
  obtain ⟨hr, hrm⟩ : (list.length : Int) ≤ y1 ∧ mdChs list := hy2.2 h2
  have c1 := c_implShapeAll cs list (by omega) hm hrm
  have c2 := c_specShapeAll cs list (by omega) hm hrm
  have hxm := shAll_md hm hrm
  have hxl := shAll_len cs list
  have uC := u_Cols cs ⟨by omega, fun _ _ => trivial⟩
  have uV := u_Changes list ⟨by omega, fun _ _ => trivial⟩
  have eS := e_Cols cs ⟨lmax (by omega), hm.ok⟩
  have eR := e_Changes list ⟨lmax (by omega), fun x hx => (hrm x hx).ok⟩
  generalize shAll cs list = y at c1 c2 hxm hxl
  obtain ⟨x, ok⟩ := y
  simp only at hxm hxl
  have eX := e_Cols x ⟨lmax (by omega), hxm.ok⟩
  have mS := c_markCols cs 1 (by omega) (by omega) (by omega)
  have mR := c_markChanges list (1 + 7 * cs.length) (by omega) (by omega) (by omega)
  have mX := c_markCols x 1 (by omega) (by omega) (by omega)
  have hX := c_heldCols x.length 1 (by omega) (by omega) (by omega)
  have n1 : ¬ (((1 + 7 * cs.length + 10 * list.length : Nat) : Int) < 0) := by omega
  have n2 : ¬ (((1 + 7 * x.length : Nat) : Int) < 0) := by omega
  cases ok <;> (conv => whnf); repeat' (first
    | (exact absurd h n1)
    | (exact absurd h n2)
    | (refine absurd h ?_; (simp; done))
    | (refine VL.freeze 1116 rfl rfl ?_; conv => whnf; rw [fzC])
    | (refine VL.freeze 1124 rfl rfl ?_; conv => whnf; rw [fzH])
    | (refine VL.freeze 1128 rfl rfl ?_; conv => whnf; rw [fzC])
    | (refine VL.freeze 1224 rfl rfl ?_; conv => whnf; rw [fzC])
    | (refine VL.freeze 1244 rfl rfl ?_; conv => whnf; rw [fzH])
    | (refine VL.freeze 1384 rfl rfl ?_; conv => whnf; rw [fzC])
    | (refine VL.freeze 1392 rfl rfl ?_; conv => whnf; rw [fzH])
    | (refine And.intro ?_ ?_ <;> ((try intro h) <;> (try simp only [Bool.not_true, Bool.not_false, decide_eq_true_eq, decide_eq_false_iff_not, Int.not_lt, Int.not_le, gt_iff_lt, ge_iff_le] at h) <;> first | exact absurd h Bool.false_ne_true | exact absurd h.symm Bool.false_ne_true | conv => whnf))
    | (refine VL.drawS hTb hMix (by kernel_rfl) (by kernel_rfl) (by kernel_rfl) ?_; conv => whnf)
    | (refine Need.mk ?_; kernel_rfl) | (refine Need.mk ⟨rfl, ?_⟩; decide)
    | (refine VR.freeze hTb rfl 1116 rfl rfl ?_; conv => whnf; rw [fzC])
    | (refine VR.freeze hTb rfl 1124 rfl rfl ?_; conv => whnf; rw [fzH])
    | (refine VR.freeze hTb rfl 1128 rfl rfl ?_; conv => whnf; rw [fzC])
    | (refine VR.freeze hTb rfl 1224 rfl rfl ?_; conv => whnf; rw [fzC])
    | (refine VR.freeze hTb rfl 1244 rfl rfl ?_; conv => whnf; rw [fzH])
    | (refine VR.freeze hTb rfl 1384 rfl rfl ?_; conv => whnf; rw [fzC])
    | (refine VR.freeze hTb rfl 1392 rfl rfl ?_; conv => whnf; rw [fzH])
    | (refine VR.fun hTb rfl rfl (o_funN (uC) false [] (fun h => by cases h) (by simp) rfl rfl rfl rfl rfl ⟨rfl, rfl, rfl, rfl⟩ rfl rfl) ?_; conv => whnf)
    | (refine DT.fun hTb rfl (o_funN (uC) false [] (fun h => by cases h) (by simp) rfl rfl rfl rfl rfl ⟨rfl, rfl, rfl, rfl⟩ rfl rfl) rfl ?_; conv => whnf)
    | (refine VR.fun hTb rfl rfl (o_funN (uV) false [] (fun h => by cases h) (by simp) rfl rfl rfl rfl rfl ⟨rfl, rfl, rfl, rfl⟩ rfl rfl) ?_; conv => whnf)
    | (refine DT.fun hTb rfl (o_funN (uV) false [] (fun h => by cases h) (by simp) rfl rfl rfl rfl rfl ⟨rfl, rfl, rfl, rfl⟩ rfl rfl) rfl ?_; conv => whnf)
    | (refine VR.fun hTb rfl rfl (o_funN (c1) false [] (fun h => by cases h) (by simp) rfl rfl rfl rfl rfl ⟨rfl, rfl, rfl, rfl⟩ rfl rfl) ?_; conv => whnf)
    | (refine DT.fun hTb rfl (o_funN (c1) false [] (fun h => by cases h) (by simp) rfl rfl rfl rfl rfl ⟨rfl, rfl, rfl, rfl⟩ rfl rfl) rfl ?_; conv => whnf)
    | (refine VR.fun hTb rfl rfl (o_funN (c2) false [] (fun h => by cases h) (by simp) rfl rfl rfl rfl rfl ⟨rfl, rfl, rfl, rfl⟩ rfl rfl) ?_; conv => whnf)
    | (refine DT.fun hTb rfl (o_funN (c2) false [] (fun h => by cases h) (by simp) rfl rfl rfl rfl rfl ⟨rfl, rfl, rfl, rfl⟩ rfl rfl) rfl ?_; conv => whnf)
    | (refine VR.fun hTb rfl rfl (o_funN (c1) true [] (fun _ => grShS _) (by simp) rfl rfl rfl rfl rfl ⟨rfl, rfl, rfl, rfl⟩ ?_ rfl) ?_; exact two_sl brw brw; conv => whnf)
    | (refine DT.fun hTb rfl (o_funN (c1) true [] (fun _ => grShS _) (by simp) rfl rfl rfl rfl rfl ⟨rfl, rfl, rfl, rfl⟩ ?_ rfl) rfl ?_; exact two_sl brw brw; conv => whnf)
    | (refine VR.pure hTb rfl rfl (o_purN (eX) rfl rfl rfl ⟨rfl, rfl, rfl, rfl⟩ (congrArg (fun s => [s, _]) brw)) ?_; conv => whnf)
    | (refine DT.pure hTb rfl (o_purN (eX) rfl rfl rfl ⟨rfl, rfl, rfl, rfl⟩ (congrArg (fun s => [s, _]) brw)) ?_; conv => whnf)
    | (refine VR.pure hTb rfl rfl (o_purN (eX) rfl rfl rfl ⟨rfl, rfl, rfl, rfl⟩ (congrArg (fun s => [s, _]) brw')) ?_; conv => whnf)
    | (refine DT.pure hTb rfl (o_purN (eX) rfl rfl rfl ⟨rfl, rfl, rfl, rfl⟩ (congrArg (fun s => [s, _]) brw')) ?_; conv => whnf)
    | (refine VR.pure hTb rfl rfl (o_purN (eX) rfl rfl rfl ⟨rfl, rfl, rfl, rfl⟩ (congrArg (fun s => [s, _]) (brwG (by simp)))) ?_; conv => whnf)
    | (refine DT.pure hTb rfl (o_purN (eX) rfl rfl rfl ⟨rfl, rfl, rfl, rfl⟩ (congrArg (fun s => [s, _]) (brwG (by simp)))) ?_; conv => whnf)
    | (refine VR.pure hTb rfl rfl (o_purN (eS) rfl rfl rfl ⟨rfl, rfl, rfl, rfl⟩ (congrArg (fun s => [s, _]) brw)) ?_; conv => whnf)
    | (refine DT.pure hTb rfl (o_purN (eS) rfl rfl rfl ⟨rfl, rfl, rfl, rfl⟩ (congrArg (fun s => [s, _]) brw)) ?_; conv => whnf)
    | (refine VR.pure hTb rfl rfl (o_purN (eS) rfl rfl rfl ⟨rfl, rfl, rfl, rfl⟩ (congrArg (fun s => [s, _]) brw')) ?_; conv => whnf)
    | (refine DT.pure hTb rfl (o_purN (eS) rfl rfl rfl ⟨rfl, rfl, rfl, rfl⟩ (congrArg (fun s => [s, _]) brw')) ?_; conv => whnf)
    | (refine VR.pure hTb rfl rfl (o_purN (eS) rfl rfl rfl ⟨rfl, rfl, rfl, rfl⟩ (congrArg (fun s => [s, _]) (brwG (by simp)))) ?_; conv => whnf)
    | (refine DT.pure hTb rfl (o_purN (eS) rfl rfl rfl ⟨rfl, rfl, rfl, rfl⟩ (congrArg (fun s => [s, _]) (brwG (by simp)))) ?_; conv => whnf)
    | (refine VR.pure hTb rfl rfl (o_purN (eR) rfl rfl rfl ⟨rfl, rfl, rfl, rfl⟩ (congrArg (fun s => [s, _]) brw)) ?_; conv => whnf)
    | (refine DT.pure hTb rfl (o_purN (eR) rfl rfl rfl ⟨rfl, rfl, rfl, rfl⟩ (congrArg (fun s => [s, _]) brw)) ?_; conv => whnf)
    | (refine VR.pure hTb rfl rfl (o_purN (eR) rfl rfl rfl ⟨rfl, rfl, rfl, rfl⟩ (congrArg (fun s => [s, _]) brw')) ?_; conv => whnf)
    | (refine DT.pure hTb rfl (o_purN (eR) rfl rfl rfl ⟨rfl, rfl, rfl, rfl⟩ (congrArg (fun s => [s, _]) brw')) ?_; conv => whnf)
    | (refine VR.pure hTb rfl rfl (o_purN (eR) rfl rfl rfl ⟨rfl, rfl, rfl, rfl⟩ (congrArg (fun s => [s, _]) (brwG (by simp)))) ?_; conv => whnf)
    | (refine DT.pure hTb rfl (o_purN (eR) rfl rfl rfl ⟨rfl, rfl, rfl, rfl⟩ (congrArg (fun s => [s, _]) (brwG (by simp)))) ?_; conv => whnf)
    | (refine VR.fun hTb rfl rfl (o_funN (mS) false [1144] (fun h => by cases h) (by simp) rfl rfl rfl rfl rfl ⟨rfl, rfl, rfl, rfl⟩ rfl rfl) ?_; conv => whnf)
    | (refine DT.fun hTb rfl (o_funN (mS) false [1144] (fun h => by cases h) (by simp) rfl rfl rfl rfl rfl ⟨rfl, rfl, rfl, rfl⟩ rfl rfl) rfl ?_; conv => whnf)
    | (refine VR.fun hTb rfl rfl (o_funN (mR) false [1152] (fun h => by cases h) (by simp) rfl rfl rfl rfl rfl ⟨rfl, rfl, rfl, rfl⟩ rfl rfl) ?_; conv => whnf)
    | (refine DT.fun hTb rfl (o_funN (mR) false [1152] (fun h => by cases h) (by simp) rfl rfl rfl rfl rfl ⟨rfl, rfl, rfl, rfl⟩ rfl rfl) rfl ?_; conv => whnf)
    | (refine VR.fun hTb rfl rfl (o_funN (mX) false [1168] (fun h => by cases h) (by simp) rfl rfl rfl rfl rfl ⟨rfl, rfl, rfl, rfl⟩ rfl rfl) ?_; conv => whnf)
    | (refine DT.fun hTb rfl (o_funN (mX) false [1168] (fun h => by cases h) (by simp) rfl rfl rfl rfl rfl ⟨rfl, rfl, rfl, rfl⟩ rfl rfl) rfl ?_; conv => whnf)
    | (refine VR.pure hTb rfl rfl (o_purN hX rfl rfl rfl ⟨rfl, rfl, rfl, rfl⟩ ?_) ?_; exact two_sl (brwG (by simp [mkCols])) rfl; conv => whnf))
  all_goals first
    | rfl
    | trace_state
theorem rwGo_le : ∀ (l : List Change) (s : List Col) (row : List Val), (rwGo s l row).length ≤ row.length + l.length
  | [], s, row => by simp [rwGo]
  | c :: l, s, row => by
    have h1 := rwGo_le l (shDo s c).1 (rwCh s c row)
    have h2 := rwCh_le s c row
    rw [rwGo, List.length_cons]; omega
theorem rwAll_le (s : List Col) (l : List Change) (row : List Val) : (rwAll s l row).length ≤ row.length + l.length := by
  unfold rwAll
  split
  · exact rwGo_le l s row
  · simp
theorem rwAll_md {s : List Col} {l : List Change} {row : List Val} (hc : mdChs l) (hr : mdVals row) : mdVals (rwAll s l row) := by
  unfold rwAll
  split
  · exact rwGo_md hc hr
  · exact fun x hx => by cases hx
end Go.Vl
