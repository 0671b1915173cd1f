/- Laws: a row behind a change of columns. -/
import Derived.Test.YtegjajojckbkjaaDoorHa
namespace Go.Vl
open Go Go.RowKit Go.Proofs
set_option maxRecDepth 100000
set_option linter.unusedSimpArgs false
set_option linter.unusedVariables false
set_option maxHeartbeats 4000000

theorem c_wpVals (us : List Val) (ha : us.length ≤ maxLen) : CallsV Tryd.prog 37 [valsI us, valsI us] [] (pureQ (bS true)) := by
  refine pure_walk hTb Tryd.func37 rfl rfl Tryd.ntmps37 (by simp) ?_
  (conv => whnf); repeat' (first
    | (refine And.intro ?_ ?_ <;> ((try intro h) <;> (try simp only [Bool.not_true, Bool.not_false, decide_eq_true_eq, decide_eq_false_iff_not, Int.not_lt, Int.not_le, gt_iff_lt, ge_iff_le] at h) <;> first | exact absurd h Bool.false_ne_true | exact absurd h.symm Bool.false_ne_true | conv => whnf))
    | (refine VL.drawS hTb hMix (by kernel_rfl) (by kernel_rfl) (by kernel_rfl) ?_; conv => whnf)
    | (refine Need.mk ?_; kernel_rfl) | (refine Need.mk ⟨rfl, ?_⟩; decide)
    | (fail))
  · exfalso; simp at h
  refine VL.loopI hTb (fun i => i ≤ us.length) (fun i => ⟨[(0, valsI us), (1, valsI us), (5, iS i)], [], []⟩) (fun i => us.length - i) 0 (Nat.zero_le _)
    (wk_to [] rfl rfl rfl ⟨rfl, rfl, rfl, trivial⟩ trivial) (fun i hi => ?_)
  (conv => whnf)
  refine And.intro (fun h2 => ?_) (fun h2 => ?_)
  · have hlt : i < us.length := by simpa using h2
    have hrow := rowVal hlt
    generalize us[i] = ci at hrow
    obtain ⟨a1, a2, a3⟩ := ci
    (conv => whnf); repeat' (first
    | (refine And.intro ?_ ?_ <;> ((try intro h) <;> (try simp only [Bool.not_true, Bool.not_false, decide_eq_true_eq, decide_eq_false_iff_not, Int.not_lt, Int.not_le, gt_iff_lt, ge_iff_le] at h) <;> first | exact absurd h Bool.false_ne_true | exact absurd h.symm Bool.false_ne_true | conv => whnf))
    | (refine VL.drawS hTb hMix (by kernel_rfl) (by kernel_rfl) (by kernel_rfl) ?_; conv => whnf)
    | (refine Need.mk ?_; kernel_rfl) | (refine Need.mk ⟨rfl, ?_⟩; decide)
    | (refine VR.op hTb rfl rfl (o_index_imm hTb rfl rfl rfl rfl rfl rfl rfl (by omega) (hrow)) rfl ?_; conv => whnf)
    | (refine DT.op hTb rfl (o_index_imm hTb rfl rfl rfl rfl rfl rfl rfl (by omega) (hrow)) rfl ?_; conv => whnf))
    all_goals first
      | (exfalso; simp at *; done)
      | exact ⟨i + 1, hlt, by omega, wk_to [] rfl rfl rfl ⟨rfl, rfl, congrArg (fun x => Slot.one (.g (.int .i64 x))) (wrap64' (by unfold maxLen at *; omega)), trivial⟩ trivial⟩
  · (conv => whnf)
    rfl

-- plain
theorem rowGo_iff : ∀ {cs : List Col} {vs : List Val}, rowGo cs vs = true ↔ cs.length = vs.length ∧ ∀ i (h : i < cs.length) (h2 : i < vs.length), cellOk cs[i] vs[i] = true
  | [], [] => by simp [rowGo]
  | [], _ :: _ => by simp [rowGo]
  | _ :: _, [] => by simp [rowGo]
  | c :: cs, v :: vs => by
    rw [rowGo, Bool.and_eq_true, rowGo_iff (cs := cs) (vs := vs)]
    constructor
    · rintro ⟨h1, h2, h3⟩
      refine ⟨by simp [h2], fun i hi hi2 => ?_⟩
      cases i with
      | zero => exact h1
      | succ i => exact h3 i (by simpa using hi) (by simpa using hi2)
    · rintro ⟨h1, h2⟩
      exact ⟨h2 0 (by simp) (by simp), by simpa using h1, fun i hi hi2 => h2 (i + 1) (by simpa using hi) (by simpa using hi2)⟩
theorem rowOk_iff {cs : List Col} {vs : List Val} (hs : shapeOk cs = true) : rowOk cs vs = true ↔ cs.length = vs.length ∧ ∀ i (h : i < cs.length) (h2 : i < vs.length), cellOk cs[i] vs[i] = true := by
  unfold rowOk rowIn
  rw [hs, Bool.true_and]
  split
  · rename_i h; simp; intro h3; omega
  · rw [rowGo_iff]
theorem rowOk_shape {cs : List Col} {vs : List Val} (h : rowOk cs vs = true) : shapeOk cs = true := by unfold rowOk at h; simp only [Bool.and_eq_true] at h; exact h.1
theorem cell_dflt {c : Col} (h : colOk c = true) (hd : ¬ (c.need = true ∧ c.d.k = 0)) : cellOk c c.d = true := by
  unfold colOk at h
  unfold cellOk
  simp only [Bool.and_eq_true, Bool.or_eq_true, beq_iff_eq, Bool.not_eq_true'] at h ⊢
  refine ⟨⟨h.1.1.2, h.1.2⟩, ?_⟩
  cases hn : c.need with
  | false => rfl
  | true => simp only [Bool.true_and, beq_eq_false_iff_ne]; exact fun e => hd ⟨hn, e⟩
theorem cell_as (c : Col) (v : Val) (k : Int) : cellOk (ccKind c k) (valAs v k) = (!c.need || !((valAs v k).k == 0)) := by
  unfold cellOk
  rw [valAs_ok, Bool.true_and]
  have : ((valAs v k).k == 0 || (valAs v k).k == (ccKind c k).kind) = true := by
    rcases valAs_kind v k with h | h
    · have : (ccKind c k).kind = k := rfl
      rw [this, h]; simp
    · rw [h]; rfl
  rw [this, Bool.true_and, Bool.not_and]; rfl
/-- What a change that is done does to a row. -/
theorem rwCh_eq {s x : List Col} {c : Change} {row : List Val} (D : Done s c x) : (c.kind = 1 ∧ x = s ++ [c.col] ∧ ¬ (c.col.need = true ∧ c.col.d.k = 0) ∧ rwCh s c row = row ++ [c.col.d]) ∨
    ∃ j, ∃ hj : j < s.length, s[j].name = c.name ∧ nameAt s c.name = (j : Int) ∧
      ((c.kind = 2 ∧ x = s.eraseIdx j ∧ rwCh s c row = row.eraseIdx j) ∨ (c.kind = 3 ∧ x = s.set j (ccName s[j] c.new) ∧ rwCh s c row = row) ∨
       (c.kind = 4 ∧ x = s.set j (ccKind s[j] c.col.kind) ∧ rwCh s c row = row.set j (valAs (row.getD j ⟨0, 0, ⟨#[]⟩⟩) c.col.kind))) := by
  rcases D.w with ⟨k, hnd, e⟩ | ⟨j, hj, en, ea, w⟩
  · exact .inl ⟨k, e, hnd, by unfold rwCh; rw [if_pos k]⟩
  · refine .inr ⟨j, hj, en, ea, ?_⟩
    rcases w with ⟨k, e⟩ | ⟨k, e⟩ | ⟨k, _, e⟩
    · exact .inl ⟨k, e, by unfold rwCh; rw [if_neg (by omega), if_pos k, ea, Int.toNat_natCast]⟩
    · exact .inr (.inl ⟨k, e, by unfold rwCh; rw [if_neg (by omega), if_neg (by omega), if_neg (by omega)]⟩)
    · exact .inr (.inr ⟨k, e, by unfold rwCh; rw [if_neg (by omega), if_neg (by omega), if_pos k, ea, Int.toNat_natCast]⟩)
theorem rw_len {s x : List Col} {c : Change} {row : List Val} (D : Done s c x) (h : row.length = s.length) : (rwCh s c row).length = x.length := by
  rcases rwCh_eq (row := row) D with ⟨_, e, _, e2⟩ | ⟨j, hj, _, _, ⟨_, e, e2⟩ | ⟨_, e, e2⟩ | ⟨_, e, e2⟩⟩
  · rw [e, e2]; simp [h]
  · rw [e, e2, List.length_eraseIdx, List.length_eraseIdx, h]
  · rw [e, e2]; simp [h]
  · rw [e, e2]; simp [h]
theorem rw_ok {s x : List Col} {c : Change} {row : List Val} (D : Done s c x) (h : rowOk s row = true) (k4 : c.kind ≠ 4) : rowOk x (rwCh s c row) = true := by
  obtain ⟨hl, hc⟩ := (rowOk_iff D.hs).1 h
  refine (rowOk_iff D.hx).2 ⟨(rw_len D hl.symm).symm, fun i h1 h2 => ?_⟩
  rcases rwCh_eq (row := row) D with ⟨_, e, hd, e2⟩ | ⟨j, hj, _, _, ⟨_, e, e2⟩ | ⟨_, e, e2⟩ | ⟨k, e, e2⟩⟩
  · have hco : colOk c.col = true := by
      have := (shapeOk_at D.hx s.length (by rw [e]; simp)).2
      simpa [e] using this
    simp only [e, e2] at h1 h2 ⊢
    by_cases hi : i < s.length
    · rw [List.getElem_append_left hi, List.getElem_append_left (by omega)]; exact hc i hi (by omega)
    · have : i = s.length := by simp at h1; omega
      subst this
      rw [List.getElem_append_right (by omega), List.getElem_append_right (by omega)]
      simp only [hl, Nat.sub_self, List.getElem_cons_zero]
      exact cell_dflt hco hd
  · simp only [e, e2] at h1 h2 ⊢
    have h3 : i + 1 < s.length := by rw [List.length_eraseIdx, if_pos hj] at h1; omega
    simp only [List.getElem_eraseIdx]
    split
    · exact hc i (by omega) (by omega)
    · exact hc (i + 1) h3 (by omega)
  · simp only [e, e2] at h1 h2 ⊢
    have h3 : i < s.length := by simpa using h1
    rw [List.getElem_set]
    split
    · rename_i hji; subst hji; exact hc j h3 h2
    · exact hc i h3 h2
  · exact absurd k k4
theorem rw_ok4 {s x : List Col} {c : Change} {row : List Val} {j : Nat} (D : Done s c x) (h : rowOk s row = true) (k4 : c.kind = 4) (hj : j < s.length) (ea : nameAt s c.name = (j : Int)) :
    ∃ y, (rwCh s c row)[j]? = some y ∧ rowOk x (rwCh s c row) = (!s[j].need || !(y.k == 0)) := by
  obtain ⟨hl, hc⟩ := (rowOk_iff D.hs).1 h
  have hlen := rw_len D hl.symm
  rcases rwCh_eq (row := row) D with ⟨k, _⟩ | ⟨j', hj', _, ea', ⟨k, _⟩ | ⟨k, _⟩ | ⟨k, e, e2⟩⟩
  · omega
  · omega
  · omega
  have : j' = j := by omega
  subst this
  refine ⟨_, by rw [e2, List.getElem?_set_self (by omega)], ?_⟩
  rw [Bool.eq_iff_iff, rowOk_iff D.hx]
  rw [← cell_as]
  constructor
  · rintro ⟨_, h3⟩
    have := h3 j' (by rw [e]; simpa using hj) (by rw [e2]; simp; omega)
    simpa [e, e2] using this
  · intro h3
    refine ⟨hlen.symm, fun i h1 h2 => ?_⟩
    simp only [e, e2] at h1 h2 ⊢
    have hi : i < s.length := by simpa using h1
    rw [List.getElem_set, List.getElem_set]
    split
    · exact h3
    · exact hc i hi (by simpa using h2)
theorem rwCh_md {s : List Col} {c : Change} {row : List Val} (hc : c.md) (hr : mdVals row) : mdVals (rwCh s c row) := by
  unfold rwCh
  split
  · intro x hx
    rcases List.mem_append.1 hx with hx | hx
    · exact hr x hx
    · simp at hx; subst hx; exact hc.2.2.2
  split
  · exact fun x hx => hr x (List.mem_of_mem_eraseIdx hx)
  split
  · intro x hx
    rcases List.mem_or_eq_of_mem_set hx with hx | rfl
    · exact hr x hx
    · have := valAs_size (row.getD (nameAt s c.name).toNat ⟨0, 0, ⟨#[]⟩⟩) c.col.kind
      have h0 : (row.getD (nameAt s c.name).toNat ⟨0, 0, ⟨#[]⟩⟩).t.size ≤ 1048576 := by
        by_cases hi : (nameAt s c.name).toNat < row.length
        · have e : row.getD (nameAt s c.name).toNat ⟨0, 0, ⟨#[]⟩⟩ = row[(nameAt s c.name).toNat] := by simp [List.getD, hi]
          rw [e]; exact hr _ (List.getElem_mem hi)
        · have e : row.getD (nameAt s c.name).toNat ⟨0, 0, ⟨#[]⟩⟩ = ⟨0, 0, ⟨#[]⟩⟩ := by simp [List.getD, Nat.le_of_not_lt hi]
          rw [e]; show (⟨#[]⟩ : ByteArray).size ≤ 1048576; decide
      show (valAs _ _).t.size ≤ _
      omega
  · exact hr
end Go.Vl
