/- Draws of several changes; laws: changes cut in two, changes swapped. -/
import Derived.Test.YtegjajojckbkjaaDoorGd
import Derived.Test.YtegjajojckbkjaaDoorHb
namespace Go.Vl
open Go Go.RowKit Go.Proofs
set_option maxRecDepth 100000
set_option linter.unusedSimpArgs false
set_option linter.unusedVariables false
set_option maxHeartbeats 4000000

theorem sml_getD2 {l : List Col} (h : smlCols l) (i : Nat) : (l.getD i (kCol 0)).sml := by
  by_cases hi : i < l.length
  · have e : l.getD i (kCol 0) = l[i] := by simp [List.getD, hi]
    rw [e]; exact h _ (List.getElem_mem hi)
  · have e : l.getD i (kCol 0) = kCol 0 := by simp [List.getD, Nat.le_of_not_lt hi]
    rw [e]; exact ⟨by show (⟨#[]⟩ : ByteArray).size ≤ 8; decide, by show (⟨#[]⟩ : ByteArray).size ≤ 8; decide⟩
theorem chDo_sml {s : List Col} {c : Change} {L : List Col} (hs : smlCols s) (hc : c.sml) (h : chDo s c = some L) : smlCols L := by
  obtain ⟨h1, h2, h3, h4⟩ := hc
  unfold chDo at h
  split at h; cases h
  split at h
  · split at h; cases h; cases h; exact hs.app ⟨h3, h4⟩
  split at h; cases h
  split at h
  · cases h; exact fun x hx => hs x (List.mem_of_mem_eraseIdx hx)
  split at h
  · cases h; exact hs.set ⟨h2, (sml_getD2 hs _).2⟩
  split at h; cases h; cases h
  exact hs.set ⟨(sml_getD2 hs _).1, by have := valAs_size (s.getD (nameAt s c.name).toNat (kCol 0)).d c.col.kind; show (valAs _ _).t.size ≤ _; omega⟩
theorem sdo_sml {s x : List Col} {c : Change} {b : Bool} (h : sdo s c = (x, b)) (hs : smlCols s) (hc : c.sml) : smlCols x := by
  have e : x = (sdo s c).1 := by rw [h]
  rw [e]
  unfold sdo
  split
  · unfold shDo okO
    cases e : chDo s c with
    | none => exact hs
    | some L => simp only; split; exact chDo_sml hs hc e; exact hs
  · exact fun x hx => by cases hx
def smlChs (l : List Change) : Prop := ∀ x ∈ l, x.sml
theorem smlChs.app {l : List Change} (h : smlChs l) {c : Change} (hc : c.sml) : smlChs (l ++ [c]) := by
  intro x hx
  rcases List.mem_append.1 hx with hx | hx
  · exact h x hx
  · simp at hx; subst hx; exact hc
theorem smlChs.md {l : List Change} (h : smlChs l) : mdChs l := fun c hc => (h c hc).md
theorem c_l2Changes {bs : List Int} (hb : BOk bs) (p : Nat) (s : List Col) (hs : smlCols s) (hl : s.length ≤ 100) (hp : p ≤ 1099511300000) : CallsV Tryd.prog 67 [rdS, colsI s] [rdO bs p]
    (relQ (fun y : List Change × Nat => smlChs y.1 ∧ y.1.length ≤ 5 ∧ y.2 ≤ p + 120) (fun y => changesI y.1) (fun y => [some (rdO bs y.2)]) (fun _ => [])) := by
  have e0 := bs0
  refine funF_walk hTb Tryd.func67 rfl rfl Tryd.ntmps67 (by simp) (by simp) ?_
  (conv => whnf); repeat' (first
    | (refine And.intro ?_ ?_ <;> ((try intro h) <;> (try simp only [Bool.not_true, Bool.not_false, decide_eq_true_eq, decide_eq_false_iff_not, Int.not_lt, Int.not_le, gt_iff_lt, ge_iff_le] at h) <;> first | exact absurd h Bool.false_ne_true | exact absurd h.symm Bool.false_ne_true | conv => whnf))
    | (refine VL.drawS hTb hMix (by kernel_rfl) (by kernel_rfl) (by kernel_rfl) ?_; conv => whnf)
    | (refine Need.mk ?_; kernel_rfl) | (refine Need.mk ⟨rfl, ?_⟩; decide)
    | (refine VR.rel hTb rfl rfl (o_relN (c_pick hb _ _ (by omega)) false [0] (fun _ _ => ⟨by simp, fun h => by cases h⟩) rfl rfl rfl rfl rfl ⟨rfl, rfl, rfl, rfl⟩ rfl rfl) ?_; intro y hy; conv => whnf)
    | (refine DT.rel hTb rfl (o_relN (c_pick hb _ _ (by omega)) false [0] (fun _ _ => ⟨by simp, fun h => by cases h⟩) rfl rfl rfl rfl rfl ⟨rfl, rfl, rfl, rfl⟩ rfl rfl) [0] (by kernel_rfl) (by kernel_rfl) ?_; intro y hy; refine And.intro rfl (And.intro rfl ?_); conv => whnf))
  refine VL.loopI hTb (fun (⟨k, cs, out, q⟩ : Nat × List Col × List Change × Nat) => k ≤ 5 ∧ smlCols cs ∧ cs.length + k ≤ s.length + 5 ∧ smlChs out ∧ out.length + k ≤ 5 ∧ q + 21 * k ≤ p + 110)
    (fun ⟨k, cs, out, q⟩ => ⟨[(0, rdS), (1, colsI cs), (5, .one (.own 110 0 out.length)), (6, iS k)], [(0, rdO bs q), (110, .arr 33 10 (out.map encChange))], []⟩) (fun x => x.1) (y.toNat, s, [], p + 1) ⟨by omega, hs, by omega, (fun x hx => by cases hx), by simp; omega, by omega⟩
    (wk_to [(0, 0), (110, 110)] rfl rfl rfl ⟨rfl, rfl, rfl, congrArg (fun x => Slot.one (.g (.int .i64 x))) (by omega), trivial⟩ ⟨rfl, ⟨_, rfl, rfl⟩, rfl, ⟨_, rfl, rfl⟩, trivial⟩) (fun x hx => ?_)
  obtain ⟨k, cs, out, q⟩ := x
  obtain ⟨i1, i2, i3, i4, i5, i6⟩ := hx
  (conv => whnf); repeat' (first
    | (refine And.intro ?_ ?_ <;> ((try intro h) <;> (try simp only [Bool.not_true, Bool.not_false, decide_eq_true_eq, decide_eq_false_iff_not, Int.not_lt, Int.not_le, gt_iff_lt, ge_iff_le] at h) <;> first | exact absurd h Bool.false_ne_true | exact absurd h.symm Bool.false_ne_true | conv => whnf))
    | (refine VL.drawS hTb hMix (by kernel_rfl) (by kernel_rfl) (by kernel_rfl) ?_; conv => whnf)
    | (refine Need.mk ?_; kernel_rfl) | (refine Need.mk ⟨rfl, ?_⟩; decide)
    | (refine VR.rel hTb rfl rfl (o_relN (c_l2Change hb _ _ i2 (by omega) (by omega)) false [0] (fun _ _ => ⟨by simp, fun h => by cases h⟩) rfl rfl rfl rfl rfl ⟨rfl, rfl, rfl, rfl⟩ rfl rfl) ?_; rintro ⟨⟨kd, nm, nw, ⟨cn, ck, k1, k2, ⟨d1, d2, d3⟩⟩⟩, q3⟩ h3; (try simp only at h3); conv => whnf)
    | (refine DT.rel hTb rfl (o_relN (c_l2Change hb _ _ i2 (by omega) (by omega)) false [0] (fun _ _ => ⟨by simp, fun h => by cases h⟩) rfl rfl rfl rfl rfl ⟨rfl, rfl, rfl, rfl⟩ rfl rfl) [0] (by kernel_rfl) (by kernel_rfl) ?_; rintro ⟨⟨kd, nm, nw, ⟨cn, ck, k1, k2, ⟨d1, d2, d3⟩⟩⟩, q3⟩ h3; (try simp only at h3); refine And.intro rfl (And.intro rfl ?_); conv => whnf))
  · have hk : 0 < k := by simp at h; omega
    have c2 := c_specShapeDo cs ⟨kd, nm, nw, ⟨cn, ck, k1, k2, ⟨d1, d2, d3⟩⟩⟩ (by omega) i2.md h3.1.md
    obtain ⟨⟨x, ok⟩, hx⟩ : ∃ y, sdo cs ⟨kd, nm, nw, ⟨cn, ck, k1, k2, ⟨d1, d2, d3⟩⟩⟩ = y := ⟨_, rfl⟩
    rw [hx] at c2
    have hxl := sdo_le hx
    have hxs := sdo_sml hx i2 h3.1
    cases ok <;> (conv => whnf); repeat' (first
    | (refine VL.freeze 1092 rfl rfl ?_; conv => whnf; rw [fzC])
    | (refine And.intro ?_ ?_ <;> ((try intro h) <;> (try simp only [Bool.not_true, Bool.not_false, decide_eq_true_eq, decide_eq_false_iff_not, Int.not_lt, Int.not_le, gt_iff_lt, ge_iff_le] at h) <;> first | exact absurd h Bool.false_ne_true | exact absurd h.symm Bool.false_ne_true | conv => whnf))
    | (refine VL.drawS hTb hMix (by kernel_rfl) (by kernel_rfl) (by kernel_rfl) ?_; conv => whnf)
    | (refine Need.mk ?_; kernel_rfl) | (refine Need.mk ⟨rfl, ?_⟩; decide)
    | (refine VR.freeze hTb rfl 1092 rfl rfl ?_; conv => whnf; rw [fzC])
    | (refine VR.fun hTb rfl rfl (o_funN (c2) false [] (fun h => by cases h) (by simp) rfl rfl rfl rfl rfl ⟨rfl, rfl, rfl, rfl⟩ rfl rfl) ?_; conv => whnf)
    | (refine DT.fun hTb rfl (o_funN (c2) false [] (fun h => by cases h) (by simp) rfl rfl rfl rfl rfl ⟨rfl, rfl, rfl, rfl⟩ rfl rfl) rfl ?_; conv => whnf)
    | (refine VR.rel hTb rfl rfl (o_relN (c_pick hb _ _ (by omega)) false [0] (fun _ _ => ⟨by simp, fun h => by cases h⟩) rfl rfl rfl rfl rfl ⟨rfl, rfl, rfl, rfl⟩ rfl rfl) ?_; rintro z hz; (try simp only at hz); conv => whnf)
    | (refine DT.rel hTb rfl (o_relN (c_pick hb _ _ (by omega)) false [0] (fun _ _ => ⟨by simp, fun h => by cases h⟩) rfl rfl rfl rfl rfl ⟨rfl, rfl, rfl, rfl⟩ rfl rfl) [0] (by kernel_rfl) (by kernel_rfl) ?_; rintro z hz; (try simp only at hz); refine And.intro rfl (And.intro rfl ?_); conv => whnf)
    | (refine VR.opk hTb rfl rfl (o_app1 (q := 135) (a := ⟨_, _, _, ⟨_, _, _, _, ⟨_, _, _⟩⟩⟩) hTb rfl rfl rfl rfl rfl rfl rfl rfl rfl rfl rfl rfl (by omega) (by show _ * 104 ≤ _; omega) (by unfold maxLen; omega)) ?_; conv => whnf)
    | (refine DT.opk hTb rfl (o_app1 (q := 135) (a := ⟨_, _, _, ⟨_, _, _, _, ⟨_, _, _⟩⟩⟩) hTb rfl rfl rfl rfl rfl rfl rfl rfl rfl rfl rfl rfl (by omega) (by show _ * 104 ≤ _; omega) (by unfold maxLen; omega)) ?_; conv => whnf))
    all_goals first
      | exact ⟨(k - 1, x, out ++ [⟨kd, nm, nw, ⟨cn, ck, k1, k2, ⟨d1, d2, d3⟩⟩⟩], _), ⟨by omega, hxs, by omega, i4.app h3.1, by simp; omega, by omega⟩, by show k - 1 < k; omega,
          wk_to [(0, 0), (135, 110)] rfl rfl rfl ⟨rfl, rfl, congrArg (fun n => Slot.one (.own 110 0 n)) (by simp), congrArg (fun x => Slot.one (.g (.int .i64 x))) (by rw [IntKind.wrap_i64]; omega), trivial⟩ ⟨rfl, ⟨_, rfl, rfl⟩, rfl, ⟨_, rfl, rfl⟩, trivial⟩⟩
      | exact ⟨(k - 1, cs, out, _), ⟨by omega, i2, by omega, i4, by omega, by omega⟩, by show k - 1 < k; omega,
          wk_to [(0, 0), (110, 110)] rfl rfl rfl ⟨rfl, rfl, rfl, congrArg (fun x => Slot.one (.g (.int .i64 x))) (by rw [IntKind.wrap_i64]; omega), trivial⟩ ⟨rfl, ⟨_, rfl, rfl⟩, rfl, ⟨_, rfl, rfl⟩, trivial⟩⟩
      | trace_state
  · exact endR [] (out, q) rfl rfl rfl rfl rfl (LeS.of_eq brw) rfl rfl ⟨i4, by show out.length ≤ 5; omega, by show q ≤ p + 120; omega⟩
theorem c_DrawShapeAll {bs : List Int} (hl : bs.length ≤ maxLen) (hb : ∀ x ∈ bs, 0 ≤ x ∧ x < 256) : CallsV Tryd.prog 26 [bytesI bs] []
    (relQ (fun y : List Col × List Change => smlCols y.1 ∧ y.1.length ≤ 10 ∧ smlChs y.2 ∧ y.2.length ≤ 5) (fun y => .tup [(false, [.imm 7 (y.1.map encCol)]), (false, [.imm 10 (y.2.map encChange)])]) (fun _ => []) (fun _ => [])) := by
  have hbk := BOk.of hb
  refine funF_walk hTb Tryd.func26 rfl rfl Tryd.ntmps26 (by simp) (by simp) ?_
  (conv => whnf); repeat' (first
    | (refine And.intro ?_ ?_ <;> ((try intro h) <;> (try simp only [Bool.not_true, Bool.not_false, decide_eq_true_eq, decide_eq_false_iff_not, Int.not_lt, Int.not_le, gt_iff_lt, ge_iff_le] at h) <;> first | exact absurd h Bool.false_ne_true | exact absurd h.symm Bool.false_ne_true | conv => whnf))
    | (refine VL.drawS hTb hMix (by kernel_rfl) (by kernel_rfl) (by kernel_rfl) ?_; conv => whnf)
    | (refine Need.mk ?_; kernel_rfl) | (refine Need.mk ⟨rfl, ?_⟩; decide)
    | (refine VR.fun hTb rfl rfl (o_funN (c_l10Open hl) false [] (fun h => by cases h) (by simp) rfl rfl rfl rfl rfl ⟨rfl, rfl, rfl, rfl⟩ rfl rfl) ?_; conv => whnf)
    | (refine DT.fun hTb rfl (o_funN (c_l10Open hl) false [] (fun h => by cases h) (by simp) rfl rfl rfl rfl rfl ⟨rfl, rfl, rfl, rfl⟩ rfl rfl) rfl ?_; conv => whnf)
    | (refine VR.rel hTb rfl rfl (o_relN (c_l2Shape hbk _ (by omega)) false [1028] (fun _ _ => ⟨by simp, fun h => by cases h⟩) rfl rfl rfl rfl rfl ⟨rfl, rfl, rfl, rfl⟩ rfl rfl) ?_; rintro ⟨cs, q⟩ h1; (try simp only at h1); conv => whnf)
    | (refine DT.rel hTb rfl (o_relN (c_l2Shape hbk _ (by omega)) false [1028] (fun _ _ => ⟨by simp, fun h => by cases h⟩) rfl rfl rfl rfl rfl ⟨rfl, rfl, rfl, rfl⟩ rfl rfl) [1028] (by kernel_rfl) (by kernel_rfl) ?_; rintro ⟨cs, q⟩ h1; (try simp only at h1); refine And.intro rfl (And.intro rfl ?_); conv => whnf)
    | (refine VR.rel hTb rfl rfl (o_relN (c_l2Bent hbk _ _ h1.1 (by omega) (by omega)) false [1028] (fun _ _ => ⟨by simp, fun h => by cases h⟩) rfl rfl rfl rfl rfl ⟨rfl, rfl, rfl, rfl⟩ rfl rfl) ?_; rintro ⟨cs2, q2⟩ h2; (try simp only at h2); conv => whnf)
    | (refine DT.rel hTb rfl (o_relN (c_l2Bent hbk _ _ h1.1 (by omega) (by omega)) false [1028] (fun _ _ => ⟨by simp, fun h => by cases h⟩) rfl rfl rfl rfl rfl ⟨rfl, rfl, rfl, rfl⟩ rfl rfl) [1028] (by kernel_rfl) (by kernel_rfl) ?_; rintro ⟨cs2, q2⟩ h2; (try simp only at h2); refine And.intro rfl (And.intro rfl ?_); conv => whnf)
    | (refine VR.rel hTb rfl rfl (o_relN (c_l2Changes hbk _ _ h2.1 (by omega) (by omega)) false [1028] (fun _ _ => ⟨by simp, fun h => by cases h⟩) rfl rfl rfl rfl rfl ⟨rfl, rfl, rfl, rfl⟩ rfl rfl) ?_; rintro ⟨chs, q3⟩ h3; (try simp only at h3); conv => whnf)
    | (refine DT.rel hTb rfl (o_relN (c_l2Changes hbk _ _ h2.1 (by omega) (by omega)) false [1028] (fun _ _ => ⟨by simp, fun h => by cases h⟩) rfl rfl rfl rfl rfl ⟨rfl, rfl, rfl, rfl⟩ rfl rfl) [1028] (by kernel_rfl) (by kernel_rfl) ?_; rintro ⟨chs, q3⟩ h3; (try simp only at h3); refine And.intro rfl (And.intro rfl ?_); conv => whnf))
  exact endR [] (cs2, chs) rfl rfl rfl rfl rfl (LeS.refl _) rfl rfl ⟨h2.1, (by (try simp only); omega), h3.1, h3.2.1⟩
theorem c_DrawRowAll {bs : List Int} (hl : bs.length ≤ maxLen) (hb : ∀ x ∈ bs, 0 ≤ x ∧ x < 256) : CallsV Tryd.prog 45 [bytesI bs] []
    (relQ (fun y : List Col × List Change × List Val => smlCols y.1 ∧ y.1.length ≤ 10 ∧ smlChs y.2.1 ∧ y.2.1.length ≤ 5 ∧ smlVals y.2.2 ∧ y.2.2.length ≤ 11) (fun y => .tup [(false, [.imm 7 (y.1.map encCol)]), (false, [.imm 10 (y.2.1.map encChange)]), (false, [.imm 3 (y.2.2.map encVal)])]) (fun _ => []) (fun _ => [])) := by
  have hbk := BOk.of hb
  refine funF_walk hTb Tryd.func45 rfl rfl Tryd.ntmps45 (by simp) (by simp) ?_
  (conv => whnf); repeat' (first
    | (refine And.intro ?_ ?_ <;> ((try intro h) <;> (try simp only [Bool.not_true, Bool.not_false, decide_eq_true_eq, decide_eq_false_iff_not, Int.not_lt, Int.not_le, gt_iff_lt, ge_iff_le] at h) <;> first | exact absurd h Bool.false_ne_true | exact absurd h.symm Bool.false_ne_true | conv => whnf))
    | (refine VL.drawS hTb hMix (by kernel_rfl) (by kernel_rfl) (by kernel_rfl) ?_; conv => whnf)
    | (refine Need.mk ?_; kernel_rfl) | (refine Need.mk ⟨rfl, ?_⟩; decide)
    | (refine VR.fun hTb rfl rfl (o_funN (c_l10Open hl) false [] (fun h => by cases h) (by simp) rfl rfl rfl rfl rfl ⟨rfl, rfl, rfl, rfl⟩ rfl rfl) ?_; conv => whnf)
    | (refine DT.fun hTb rfl (o_funN (c_l10Open hl) false [] (fun h => by cases h) (by simp) rfl rfl rfl rfl rfl ⟨rfl, rfl, rfl, rfl⟩ rfl rfl) rfl ?_; conv => whnf)
    | (refine VR.rel hTb rfl rfl (o_relN (c_l2Shape hbk _ (by omega)) false [1036] (fun _ _ => ⟨by simp, fun h => by cases h⟩) rfl rfl rfl rfl rfl ⟨rfl, rfl, rfl, rfl⟩ rfl rfl) ?_; rintro ⟨cs, q⟩ h1; (try simp only at h1); conv => whnf)
    | (refine DT.rel hTb rfl (o_relN (c_l2Shape hbk _ (by omega)) false [1036] (fun _ _ => ⟨by simp, fun h => by cases h⟩) rfl rfl rfl rfl rfl ⟨rfl, rfl, rfl, rfl⟩ rfl rfl) [1036] (by kernel_rfl) (by kernel_rfl) ?_; rintro ⟨cs, q⟩ h1; (try simp only at h1); refine And.intro rfl (And.intro rfl ?_); conv => whnf)
    | (refine VR.rel hTb rfl rfl (o_relN (c_l2Bent hbk _ _ h1.1 (by omega) (by omega)) false [1036] (fun _ _ => ⟨by simp, fun h => by cases h⟩) rfl rfl rfl rfl rfl ⟨rfl, rfl, rfl, rfl⟩ rfl rfl) ?_; rintro ⟨cs2, q2⟩ h2; (try simp only at h2); conv => whnf)
    | (refine DT.rel hTb rfl (o_relN (c_l2Bent hbk _ _ h1.1 (by omega) (by omega)) false [1036] (fun _ _ => ⟨by simp, fun h => by cases h⟩) rfl rfl rfl rfl rfl ⟨rfl, rfl, rfl, rfl⟩ rfl rfl) [1036] (by kernel_rfl) (by kernel_rfl) ?_; rintro ⟨cs2, q2⟩ h2; (try simp only at h2); refine And.intro rfl (And.intro rfl ?_); conv => whnf)
    | (refine VR.rel hTb rfl rfl (o_relN (c_l2Changes hbk _ _ h2.1 (by omega) (by omega)) false [1036] (fun _ _ => ⟨by simp, fun h => by cases h⟩) rfl rfl rfl rfl rfl ⟨rfl, rfl, rfl, rfl⟩ rfl rfl) ?_; rintro ⟨chs, q3⟩ h3; (try simp only at h3); conv => whnf)
    | (refine DT.rel hTb rfl (o_relN (c_l2Changes hbk _ _ h2.1 (by omega) (by omega)) false [1036] (fun _ _ => ⟨by simp, fun h => by cases h⟩) rfl rfl rfl rfl rfl ⟨rfl, rfl, rfl, rfl⟩ rfl rfl) [1036] (by kernel_rfl) (by kernel_rfl) ?_; rintro ⟨chs, q3⟩ h3; (try simp only at h3); refine And.intro rfl (And.intro rfl ?_); conv => whnf)
    | (refine VR.rel hTb rfl rfl (o_relN (c_l2Vals hbk _ _ h2.1 (by omega) (by omega)) false [1036] (fun _ _ => ⟨by simp, fun h => by cases h⟩) rfl rfl rfl rfl rfl ⟨rfl, rfl, rfl, rfl⟩ rfl rfl) ?_; rintro ⟨vs, q4⟩ h4; (try simp only at h4); conv => whnf)
    | (refine DT.rel hTb rfl (o_relN (c_l2Vals hbk _ _ h2.1 (by omega) (by omega)) false [1036] (fun _ _ => ⟨by simp, fun h => by cases h⟩) rfl rfl rfl rfl rfl ⟨rfl, rfl, rfl, rfl⟩ rfl rfl) [1036] (by kernel_rfl) (by kernel_rfl) ?_; rintro ⟨vs, q4⟩ h4; (try simp only at h4); refine And.intro rfl (And.intro rfl ?_); conv => whnf))
  exact endR [] (cs2, chs, vs) rfl rfl rfl rfl rfl (LeS.refl _) rfl rfl ⟨h2.1, (by (try simp only); omega), h3.1, h3.2.1, h4.1, (by (try simp only); omega)⟩
theorem c_FnShapeAll {bs bs2 : List Int} (hl : bs.length ≤ maxLen) (hb : ∀ x ∈ bs, 0 ≤ x ∧ x < 256) (hl2 : bs2.length ≤ maxLen) (hb2 : ∀ x ∈ bs2, 0 ≤ x ∧ x < 256) : CallsV Tryd.prog 7 [bytesI bs, bytesI bs2] [] (pureQ (bS true)) := by
  refine pure_walk hTb Tryd.func7 rfl rfl Tryd.ntmps7 (by simp) ?_
  (conv => whnf); repeat' (first
    | (refine And.intro ?_ ?_ <;> ((try intro h) <;> (try simp only [Bool.not_true, Bool.not_false, decide_eq_true_eq, decide_eq_false_iff_not, Int.not_lt, Int.not_le, gt_iff_lt, ge_iff_le] at h) <;> first | exact absurd h Bool.false_ne_true | exact absurd h.symm Bool.false_ne_true | conv => whnf))
    | (refine VL.drawS hTb hMix (by kernel_rfl) (by kernel_rfl) (by kernel_rfl) ?_; conv => whnf)
    | (refine Need.mk ?_; kernel_rfl) | (refine Need.mk ⟨rfl, ?_⟩; decide)
    | (refine VR.rel hTb rfl rfl (o_relN (c_DrawShapeAll hl hb) false [] (fun _ _ => ⟨by simp, fun h => by cases h⟩) rfl rfl rfl rfl rfl ⟨rfl, rfl, rfl, rfl⟩ rfl rfl) ?_; rintro ⟨cs, list⟩ h1; (try simp only at h1); conv => whnf)
    | (refine DT.rel hTb rfl (o_relN (c_DrawShapeAll hl hb) false [] (fun _ _ => ⟨by simp, fun h => by cases h⟩) rfl rfl rfl rfl rfl ⟨rfl, rfl, rfl, rfl⟩ rfl rfl) [] (by kernel_rfl) (by kernel_rfl) ?_; rintro ⟨cs, list⟩ h1; (try simp only at h1); refine And.intro rfl (And.intro rfl ?_); conv => whnf))
  all_goals try rfl
  have hm := h1.1.md
  have hcm := h1.2.2.1.md
  have hll := h1.2.2.2
  obtain ⟨K, hK, ek, ne⟩ := cut_at (n := (bytesL bs2).length) list hll
  have c1 := c_implShapeAll cs list (by omega) hm hcm
  have c2 := c_specShapeAll cs list (by omega) hm hcm
  have c3 := c_implShapeAll cs (list.take K) (by simp; omega) hm (hcm.take K)
  have c4 := c_implShapeAll (shAll cs (list.take K)).1 (list.drop K) (by have := shAll_len cs (list.take K); simp at this ⊢; omega) (shAll_md hm (hcm.take K)) (hcm.drop K)
  have hxl := shAll_len cs list
  have hxm := shAll_md hm hcm
  obtain ⟨⟨x, ok⟩, hx⟩ : ∃ y, shAll cs list = y := ⟨_, rfl⟩
  rw [hx] at c1 c2 hxl hxm
  simp only at hxl hxm
  have cS := c_implShapeSame x x (by unfold maxLen; omega)
  rw [lC_refl] at cS
  cases ok
  · have e := shAll_no (show (shAll cs list).2 = false by rw [hx])
    rw [hx] at e
    obtain rfl : x = [] := by simpa using e
    have hno := fun a b => @shAll_cutNo cs list (by rw [hx]) K a b
    obtain ⟨⟨a, p⟩, ha⟩ : ∃ y, shAll cs (list.take K) = y := ⟨_, rfl⟩
    rw [ha] at c3 c4
    simp only at c4
    obtain ⟨⟨b, q⟩, hb3⟩ : ∃ y, shAll a (list.drop K) = y := ⟨_, rfl⟩
    rw [hb3] at c4
    have hpq : ¬ (p = true ∧ q = true) := by rintro ⟨rfl, rfl⟩; exact hno a b ha hb3
    cases p <;> cases q <;> first
      | (exfalso; exact hpq ⟨rfl, rfl⟩)
      | skip
    all_goals (conv => whnf); repeat' (first
    | (refine VL.freeze 1128 rfl rfl ?_; conv => whnf; rw [(fzC [])])
    | (refine VL.freeze 1152 rfl rfl ?_; conv => whnf; rw [(fzC [])])
    | (refine VL.freeze 1244 rfl rfl ?_; conv => whnf; rw [fzC])
    | (refine VL.freeze 1276 rfl rfl ?_; conv => whnf; rw [fzC])
    | (refine And.intro ?_ ?_ <;> ((try intro h) <;> (try simp only [Bool.not_true, Bool.not_false, decide_eq_true_eq, decide_eq_false_iff_not, Int.not_lt, Int.not_le, gt_iff_lt, ge_iff_le] at h) <;> first | exact absurd h Bool.false_ne_true | exact absurd h.symm Bool.false_ne_true | conv => whnf))
    | (refine VL.drawS hTb hMix (by kernel_rfl) (by kernel_rfl) (by kernel_rfl) ?_; conv => whnf)
    | (refine Need.mk ?_; kernel_rfl) | (refine Need.mk ⟨rfl, ?_⟩; decide)
    | (refine VR.freeze hTb rfl 1128 rfl rfl ?_; conv => whnf; rw [(fzC [])])
    | (refine VR.freeze hTb rfl 1152 rfl rfl ?_; conv => whnf; rw [(fzC [])])
    | (refine VR.freeze hTb rfl 1244 rfl rfl ?_; conv => whnf; rw [fzC])
    | (refine VR.freeze hTb rfl 1276 rfl rfl ?_; conv => whnf; rw [fzC])
    | (refine VR.fun hTb rfl rfl (o_funN (c1) false [] (fun h => by cases h) (by simp) rfl rfl rfl rfl rfl ⟨rfl, rfl, rfl, rfl⟩ rfl rfl) ?_; conv => whnf)
    | (refine DT.fun hTb rfl (o_funN (c1) false [] (fun h => by cases h) (by simp) rfl rfl rfl rfl rfl ⟨rfl, rfl, rfl, rfl⟩ rfl rfl) rfl ?_; conv => whnf)
    | (refine VR.fun hTb rfl rfl (o_funN (c2) false [] (fun h => by cases h) (by simp) rfl rfl rfl rfl rfl ⟨rfl, rfl, rfl, rfl⟩ rfl rfl) ?_; conv => whnf)
    | (refine DT.fun hTb rfl (o_funN (c2) false [] (fun h => by cases h) (by simp) rfl rfl rfl rfl rfl ⟨rfl, rfl, rfl, rfl⟩ rfl rfl) rfl ?_; conv => whnf)
    | (refine VR.fun hTb rfl rfl (o_funN (c3) false [] (fun h => by cases h) (by simp) rfl rfl rfl rfl rfl ⟨rfl, rfl, rfl, rfl⟩ rfl rfl) ?_; conv => whnf)
    | (refine DT.fun hTb rfl (o_funN (c3) false [] (fun h => by cases h) (by simp) rfl rfl rfl rfl rfl ⟨rfl, rfl, rfl, rfl⟩ rfl rfl) rfl ?_; conv => whnf)
    | (refine VR.fun hTb rfl rfl (o_funN (c4) false [] (fun h => by cases h) (by simp) rfl rfl rfl rfl rfl ⟨rfl, rfl, rfl, rfl⟩ rfl rfl) ?_; conv => whnf)
    | (refine DT.fun hTb rfl (o_funN (c4) false [] (fun h => by cases h) (by simp) rfl rfl rfl rfl rfl ⟨rfl, rfl, rfl, rfl⟩ rfl rfl) rfl ?_; conv => whnf)
    | (refine VR.pure hTb rfl rfl (o_purN (cS) rfl rfl rfl ⟨rfl, rfl, rfl, rfl⟩ rfl) ?_; conv => whnf)
    | (refine DT.pure hTb rfl (o_purN (cS) rfl rfl rfl ⟨rfl, rfl, rfl, rfl⟩ rfl) ?_; conv => whnf)
    | (refine Need.mk ?_; exact ⟨rfl, ne⟩)
    | (refine VR.op hTb rfl rfl (o_slice_imm (n1 := 0) (n2 := K) (rows' := (list.take K).map encChange) hTb rfl rfl rfl rfl rfl rfl bnd_none (bnd_wr rfl ek) (Nat.zero_le _) (by simp; omega) (by rw [List.drop_zero, Nat.sub_zero, List.map_take])) rfl ?_; conv => whnf)
    | (refine VR.op hTb rfl rfl (o_slice_imm (n1 := K) (n2 := (list.map encChange).length) (rows' := (list.drop K).map encChange) hTb rfl rfl rfl rfl rfl rfl (bnd_wr rfl ek) bnd_none (by simp; omega) (Nat.le_refl _) (by rw [← List.map_drop]; exact List.take_of_length_le (by simp))) rfl ?_; conv => whnf))
    all_goals first
      | rfl
      | trace_state
  · obtain ⟨a, ha, hb3, hxo, _, _, _, _⟩ := shAll_cut hx K
    rw [ha] at c3 c4
    simp only at c4
    rw [hb3] at c4
    have cI := c_implShapeOk x (by unfold maxLen; omega) hxm.ok
    rw [hxo] at cI
    (conv => whnf); repeat' (first
    | (refine VL.freeze 1128 rfl rfl ?_; conv => whnf; rw [fzC])
    | (refine VL.freeze 1152 rfl rfl ?_; conv => whnf; rw [fzC])
    | (refine VL.freeze 1244 rfl rfl ?_; conv => whnf; rw [fzC])
    | (refine VL.freeze 1276 rfl rfl ?_; conv => whnf; rw [fzC])
    | (refine And.intro ?_ ?_ <;> ((try intro h) <;> (try simp only [Bool.not_true, Bool.not_false, decide_eq_true_eq, decide_eq_false_iff_not, Int.not_lt, Int.not_le, gt_iff_lt, ge_iff_le] at h) <;> first | exact absurd h Bool.false_ne_true | exact absurd h.symm Bool.false_ne_true | conv => whnf))
    | (refine VL.drawS hTb hMix (by kernel_rfl) (by kernel_rfl) (by kernel_rfl) ?_; conv => whnf)
    | (refine Need.mk ?_; kernel_rfl) | (refine Need.mk ⟨rfl, ?_⟩; decide)
    | (refine VR.freeze hTb rfl 1128 rfl rfl ?_; conv => whnf; rw [fzC])
    | (refine VR.freeze hTb rfl 1152 rfl rfl ?_; conv => whnf; rw [fzC])
    | (refine VR.freeze hTb rfl 1244 rfl rfl ?_; conv => whnf; rw [fzC])
    | (refine VR.freeze hTb rfl 1276 rfl rfl ?_; conv => whnf; rw [fzC])
    | (refine VR.fun hTb rfl rfl (o_funN (c1) false [] (fun h => by cases h) (by simp) rfl rfl rfl rfl rfl ⟨rfl, rfl, rfl, rfl⟩ rfl rfl) ?_; conv => whnf)
    | (refine DT.fun hTb rfl (o_funN (c1) false [] (fun h => by cases h) (by simp) rfl rfl rfl rfl rfl ⟨rfl, rfl, rfl, rfl⟩ rfl rfl) rfl ?_; conv => whnf)
    | (refine VR.fun hTb rfl rfl (o_funN (c2) false [] (fun h => by cases h) (by simp) rfl rfl rfl rfl rfl ⟨rfl, rfl, rfl, rfl⟩ rfl rfl) ?_; conv => whnf)
    | (refine DT.fun hTb rfl (o_funN (c2) false [] (fun h => by cases h) (by simp) rfl rfl rfl rfl rfl ⟨rfl, rfl, rfl, rfl⟩ rfl rfl) rfl ?_; conv => whnf)
    | (refine VR.fun hTb rfl rfl (o_funN (c3) false [] (fun h => by cases h) (by simp) rfl rfl rfl rfl rfl ⟨rfl, rfl, rfl, rfl⟩ rfl rfl) ?_; conv => whnf)
    | (refine DT.fun hTb rfl (o_funN (c3) false [] (fun h => by cases h) (by simp) rfl rfl rfl rfl rfl ⟨rfl, rfl, rfl, rfl⟩ rfl rfl) rfl ?_; conv => whnf)
    | (refine VR.fun hTb rfl rfl (o_funN (c4) false [] (fun h => by cases h) (by simp) rfl rfl rfl rfl rfl ⟨rfl, rfl, rfl, rfl⟩ rfl rfl) ?_; conv => whnf)
    | (refine DT.fun hTb rfl (o_funN (c4) false [] (fun h => by cases h) (by simp) rfl rfl rfl rfl rfl ⟨rfl, rfl, rfl, rfl⟩ rfl rfl) rfl ?_; conv => whnf)
    | (refine VR.pure hTb rfl rfl (o_purN (cS) rfl rfl rfl ⟨rfl, rfl, rfl, rfl⟩ rfl) ?_; conv => whnf)
    | (refine DT.pure hTb rfl (o_purN (cS) rfl rfl rfl ⟨rfl, rfl, rfl, rfl⟩ rfl) ?_; conv => whnf)
    | (refine VR.pure hTb rfl rfl (o_purN (cI) rfl rfl rfl ⟨rfl, rfl, rfl, rfl⟩ rfl) ?_; conv => whnf)
    | (refine DT.pure hTb rfl (o_purN (cI) rfl rfl rfl ⟨rfl, rfl, rfl, rfl⟩ rfl) ?_; conv => whnf)
    | (refine Need.mk ?_; exact ⟨rfl, ne⟩)
    | (refine VR.op hTb rfl rfl (o_slice_imm (n1 := 0) (n2 := K) (rows' := (list.take K).map encChange) hTb rfl rfl rfl rfl rfl rfl bnd_none (bnd_wr rfl ek) (Nat.zero_le _) (by simp; omega) (by rw [List.drop_zero, Nat.sub_zero, List.map_take])) rfl ?_; conv => whnf)
    | (refine VR.op hTb rfl rfl (o_slice_imm (n1 := K) (n2 := (list.map encChange).length) (rows' := (list.drop K).map encChange) hTb rfl rfl rfl rfl rfl rfl (bnd_wr rfl ek) bnd_none (by simp; omega) (Nat.le_refl _) (by rw [← List.map_drop]; exact List.take_of_length_le (by simp))) rfl ?_; conv => whnf))
    all_goals first
      | rfl
      | trace_state
theorem c_FnRowAll {bs bs2 : List Int} (hl : bs.length ≤ maxLen) (hb : ∀ x ∈ bs, 0 ≤ x ∧ x < 256) (hl2 : bs2.length ≤ maxLen) (hb2 : ∀ x ∈ bs2, 0 ≤ x ∧ x < 256) : CallsV Tryd.prog 13 [bytesI bs, bytesI bs2] [] (pureQ (bS true)) := by
  refine pure_walk hTb Tryd.func13 rfl rfl Tryd.ntmps13 (by simp) ?_
  (conv => whnf); repeat' (first
    | (refine And.intro ?_ ?_ <;> ((try intro h) <;> (try simp only [Bool.not_true, Bool.not_false, decide_eq_true_eq, decide_eq_false_iff_not, Int.not_lt, Int.not_le, gt_iff_lt, ge_iff_le] at h) <;> first | exact absurd h Bool.false_ne_true | exact absurd h.symm Bool.false_ne_true | conv => whnf))
    | (refine VL.drawS hTb hMix (by kernel_rfl) (by kernel_rfl) (by kernel_rfl) ?_; conv => whnf)
    | (refine Need.mk ?_; kernel_rfl) | (refine Need.mk ⟨rfl, ?_⟩; decide)
    | (refine VR.rel hTb rfl rfl (o_relN (c_DrawRowAll hl hb) false [] (fun _ _ => ⟨by simp, fun h => by cases h⟩) rfl rfl rfl rfl rfl ⟨rfl, rfl, rfl, rfl⟩ rfl rfl) ?_; rintro ⟨cs, list, row⟩ h1; (try simp only at h1); conv => whnf)
    | (refine DT.rel hTb rfl (o_relN (c_DrawRowAll hl hb) false [] (fun _ _ => ⟨by simp, fun h => by cases h⟩) rfl rfl rfl rfl rfl ⟨rfl, rfl, rfl, rfl⟩ rfl rfl) [] (by kernel_rfl) (by kernel_rfl) ?_; rintro ⟨cs, list, row⟩ h1; (try simp only at h1); refine And.intro rfl (And.intro rfl ?_); conv => whnf))
  all_goals try rfl
  have hm := h1.1.md
  have hcm := h1.2.2.1.md
  have hll := h1.2.2.2.1
  have hrm := h1.2.2.2.2.1.md
  obtain ⟨K, hK, ek, ne⟩ := cut_at (n := (bytesL bs2).length) list hll
  have c1 := c_implShapeAll cs list (by omega) hm hcm
  have c2 := c_implRowAll cs list row (by omega) (by omega) hm hcm hrm
  have c3 := c_specRowAll cs list row (by omega) (by omega) hm hcm hrm
  obtain ⟨⟨x, ok⟩, hx⟩ : ∃ y, shAll cs list = y := ⟨_, rfl⟩
  by_cases hno : ok = true ∧ row.length = cs.length
  rotate_left
  · rw [rwAll_no (by rw [hx]; exact hno)] at c2 c3
    rw [hx] at c1
    have cW := c_wpVals [] (by simp)
    by_cases hn : row.length = cs.length
    · have hok : ok = false := by cases ok with | false => rfl | true => exact absurd ⟨rfl, hn⟩ hno
      subst hok
      (conv => whnf); repeat' (first
    | (refine VL.freeze 1128 rfl rfl ?_; conv => whnf; rw [(fzV [])])
    | (refine VL.freeze 1148 rfl rfl ?_; conv => whnf; rw [(fzV [])])
    | (refine VL.freeze 1172 rfl rfl ?_; conv => whnf; rw [fzC])
    | (refine And.intro ?_ ?_ <;> ((try intro h) <;> (try simp only [Bool.not_true, Bool.not_false, decide_eq_true_eq, decide_eq_false_iff_not, Int.not_lt, Int.not_le, gt_iff_lt, ge_iff_le] at h) <;> first | exact absurd h Bool.false_ne_true | exact absurd h.symm Bool.false_ne_true | conv => whnf))
    | (refine VL.drawS hTb hMix (by kernel_rfl) (by kernel_rfl) (by kernel_rfl) ?_; conv => whnf)
    | (refine Need.mk ?_; kernel_rfl) | (refine Need.mk ⟨rfl, ?_⟩; decide)
    | (refine VR.freeze hTb rfl 1128 rfl rfl ?_; conv => whnf; rw [(fzV [])])
    | (refine VR.freeze hTb rfl 1148 rfl rfl ?_; conv => whnf; rw [(fzV [])])
    | (refine VR.freeze hTb rfl 1172 rfl rfl ?_; conv => whnf; rw [fzC])
    | (refine VR.fun hTb rfl rfl (o_funN (c1) false [] (fun h => by cases h) (by simp) rfl rfl rfl rfl rfl ⟨rfl, rfl, rfl, rfl⟩ rfl rfl) ?_; conv => whnf)
    | (refine DT.fun hTb rfl (o_funN (c1) false [] (fun h => by cases h) (by simp) rfl rfl rfl rfl rfl ⟨rfl, rfl, rfl, rfl⟩ rfl rfl) rfl ?_; conv => whnf)
    | (refine VR.fun hTb rfl rfl (o_funN (c2) false [] (fun h => by cases h) (by simp) rfl rfl rfl rfl rfl ⟨rfl, rfl, rfl, rfl⟩ rfl rfl) ?_; conv => whnf)
    | (refine DT.fun hTb rfl (o_funN (c2) false [] (fun h => by cases h) (by simp) rfl rfl rfl rfl rfl ⟨rfl, rfl, rfl, rfl⟩ rfl rfl) rfl ?_; conv => whnf)
    | (refine VR.fun hTb rfl rfl (o_funN (c3) false [] (fun h => by cases h) (by simp) rfl rfl rfl rfl rfl ⟨rfl, rfl, rfl, rfl⟩ rfl rfl) ?_; conv => whnf)
    | (refine DT.fun hTb rfl (o_funN (c3) false [] (fun h => by cases h) (by simp) rfl rfl rfl rfl rfl ⟨rfl, rfl, rfl, rfl⟩ rfl rfl) rfl ?_; conv => whnf)
    | (refine VR.pure hTb rfl rfl (o_purN (cW) rfl rfl rfl ⟨rfl, rfl, rfl, rfl⟩ rfl) ?_; conv => whnf)
    | (refine DT.pure hTb rfl (o_purN (cW) rfl rfl rfl ⟨rfl, rfl, rfl, rfl⟩ rfl) ?_; conv => whnf))
      all_goals first
        | rfl
        | trace_state
    · have hh : (((row.map encVal).length : Int) != ((cs.map encCol).length : Int)) = true := by simp; omega
      cases ok <;> (conv => whnf); repeat' (first
    | (exact absurd (h.symm.trans hh) Bool.false_ne_true)
    | (refine VL.freeze 1128 rfl rfl ?_; conv => whnf; rw [(fzV [])])
    | (refine VL.freeze 1148 rfl rfl ?_; conv => whnf; rw [(fzV [])])
    | (refine VL.freeze 1172 rfl rfl ?_; conv => whnf; rw [fzC])
    | (refine And.intro ?_ ?_ <;> ((try intro h) <;> (try simp only [Bool.not_true, Bool.not_false, decide_eq_true_eq, decide_eq_false_iff_not, Int.not_lt, Int.not_le, gt_iff_lt, ge_iff_le] at h) <;> first | exact absurd h Bool.false_ne_true | exact absurd h.symm Bool.false_ne_true | conv => whnf))
    | (refine VL.drawS hTb hMix (by kernel_rfl) (by kernel_rfl) (by kernel_rfl) ?_; conv => whnf)
    | (refine Need.mk ?_; kernel_rfl) | (refine Need.mk ⟨rfl, ?_⟩; decide)
    | (refine VR.freeze hTb rfl 1128 rfl rfl ?_; conv => whnf; rw [(fzV [])])
    | (refine VR.freeze hTb rfl 1148 rfl rfl ?_; conv => whnf; rw [(fzV [])])
    | (refine VR.freeze hTb rfl 1172 rfl rfl ?_; conv => whnf; rw [fzC])
    | (refine VR.fun hTb rfl rfl (o_funN (c1) false [] (fun h => by cases h) (by simp) rfl rfl rfl rfl rfl ⟨rfl, rfl, rfl, rfl⟩ rfl rfl) ?_; conv => whnf)
    | (refine DT.fun hTb rfl (o_funN (c1) false [] (fun h => by cases h) (by simp) rfl rfl rfl rfl rfl ⟨rfl, rfl, rfl, rfl⟩ rfl rfl) rfl ?_; conv => whnf)
    | (refine VR.fun hTb rfl rfl (o_funN (c2) false [] (fun h => by cases h) (by simp) rfl rfl rfl rfl rfl ⟨rfl, rfl, rfl, rfl⟩ rfl rfl) ?_; conv => whnf)
    | (refine DT.fun hTb rfl (o_funN (c2) false [] (fun h => by cases h) (by simp) rfl rfl rfl rfl rfl ⟨rfl, rfl, rfl, rfl⟩ rfl rfl) rfl ?_; conv => whnf)
    | (refine VR.fun hTb rfl rfl (o_funN (c3) false [] (fun h => by cases h) (by simp) rfl rfl rfl rfl rfl ⟨rfl, rfl, rfl, rfl⟩ rfl rfl) ?_; conv => whnf)
    | (refine DT.fun hTb rfl (o_funN (c3) false [] (fun h => by cases h) (by simp) rfl rfl rfl rfl rfl ⟨rfl, rfl, rfl, rfl⟩ rfl rfl) rfl ?_; conv => whnf)
    | (refine VR.pure hTb rfl rfl (o_purN (cW) rfl rfl rfl ⟨rfl, rfl, rfl, rfl⟩ rfl) ?_; conv => whnf)
    | (refine DT.pure hTb rfl (o_purN (cW) rfl rfl rfl ⟨rfl, rfl, rfl, rfl⟩ rfl) ?_; conv => whnf))
      all_goals first
        | rfl
        | trace_state
  obtain ⟨rfl, hn⟩ := hno
  obtain ⟨a, ha, hb3, hxo, g1, g2, so, ao⟩ := shAll_cut hx K
  have hg : chGo cs list = some x := by rw [take_drop_go K, g1]; exact g2
  have al := chGo_len g1
  have am := chGo_md g1 hm (hcm.take K)
  have htk : (list.take K).length ≤ 5 := by simp; omega
  have hdk : (list.drop K).length ≤ 5 := by simp; omega
  have c4 := c_implRowAll cs (list.take K) row (by omega) (by omega) hm (hcm.take K) hrm
  have c6 := c_implShapeAll cs (list.take K) (by simp; omega) hm (hcm.take K)
  rw [ha] at c6
  have rl := rwGo_len g1 so hn
  have xl := rwGo_len hg so hn
  have xl2 := chGo_len hg
  have c5 := c_implRowAll a (list.drop K) (rwGo cs (list.take K) row) (by omega) (by omega) am (hcm.drop K) (rwGo_md (hcm.take K) hrm)
  rw [rwAll_yes so hg hn] at c2 c3
  rw [rwAll_yes so g1 hn] at c4
  rw [rwAll_yes ao g2 rl, ← rwGo_app _ _ g1, List.take_append_drop] at c5
  rw [hx] at c1
  have cW := c_wpVals (rwGo cs list row) (by unfold maxLen; omega)
  generalize rwGo cs list row = w at c2 c3 c5 cW xl
  generalize rwGo cs (list.take K) row = v at c4 c5
  have hh : (((row.map encVal).length : Int) != ((cs.map encCol).length : Int)) = false := by simp; omega
  have hw : (((w.map encVal).length : Int) == ((x.map encCol).length : Int)) = true := by simp; omega
  (conv => whnf); repeat' (first
    | (exact absurd (hh.symm.trans h) Bool.false_ne_true)
    | (refine VL.freeze 1128 rfl rfl ?_; conv => whnf; rw [fzV])
    | (refine VL.freeze 1148 rfl rfl ?_; conv => whnf; rw [fzV])
    | (refine VL.freeze 1172 rfl rfl ?_; conv => whnf; rw [fzC])
    | (refine VL.freeze 1276 rfl rfl ?_; conv => whnf; rw [fzC])
    | (refine VL.freeze 1328 rfl rfl ?_; conv => whnf; rw [fzV])
    | (refine And.intro ?_ ?_ <;> ((try intro h) <;> (try simp only [Bool.not_true, Bool.not_false, decide_eq_true_eq, decide_eq_false_iff_not, Int.not_lt, Int.not_le, gt_iff_lt, ge_iff_le] at h) <;> first | exact absurd h Bool.false_ne_true | exact absurd h.symm Bool.false_ne_true | conv => whnf))
    | (refine VL.drawS hTb hMix (by kernel_rfl) (by kernel_rfl) (by kernel_rfl) ?_; conv => whnf)
    | (refine Need.mk ?_; kernel_rfl) | (refine Need.mk ⟨rfl, ?_⟩; decide)
    | (refine VR.freeze hTb rfl 1128 rfl rfl ?_; conv => whnf; rw [fzV])
    | (refine VR.freeze hTb rfl 1148 rfl rfl ?_; conv => whnf; rw [fzV])
    | (refine VR.freeze hTb rfl 1172 rfl rfl ?_; conv => whnf; rw [fzC])
    | (refine VR.freeze hTb rfl 1276 rfl rfl ?_; conv => whnf; rw [fzC])
    | (refine VR.freeze hTb rfl 1328 rfl rfl ?_; conv => whnf; rw [fzV])
    | (refine VR.fun hTb rfl rfl (o_funN (c1) false [] (fun h => by cases h) (by simp) rfl rfl rfl rfl rfl ⟨rfl, rfl, rfl, rfl⟩ rfl rfl) ?_; conv => whnf)
    | (refine DT.fun hTb rfl (o_funN (c1) false [] (fun h => by cases h) (by simp) rfl rfl rfl rfl rfl ⟨rfl, rfl, rfl, rfl⟩ rfl rfl) rfl ?_; conv => whnf)
    | (refine VR.fun hTb rfl rfl (o_funN (c2) false [] (fun h => by cases h) (by simp) rfl rfl rfl rfl rfl ⟨rfl, rfl, rfl, rfl⟩ rfl rfl) ?_; conv => whnf)
    | (refine DT.fun hTb rfl (o_funN (c2) false [] (fun h => by cases h) (by simp) rfl rfl rfl rfl rfl ⟨rfl, rfl, rfl, rfl⟩ rfl rfl) rfl ?_; conv => whnf)
    | (refine VR.fun hTb rfl rfl (o_funN (c3) false [] (fun h => by cases h) (by simp) rfl rfl rfl rfl rfl ⟨rfl, rfl, rfl, rfl⟩ rfl rfl) ?_; conv => whnf)
    | (refine DT.fun hTb rfl (o_funN (c3) false [] (fun h => by cases h) (by simp) rfl rfl rfl rfl rfl ⟨rfl, rfl, rfl, rfl⟩ rfl rfl) rfl ?_; conv => whnf)
    | (refine VR.fun hTb rfl rfl (o_funN (c4) false [] (fun h => by cases h) (by simp) rfl rfl rfl rfl rfl ⟨rfl, rfl, rfl, rfl⟩ rfl rfl) ?_; conv => whnf)
    | (refine DT.fun hTb rfl (o_funN (c4) false [] (fun h => by cases h) (by simp) rfl rfl rfl rfl rfl ⟨rfl, rfl, rfl, rfl⟩ rfl rfl) rfl ?_; conv => whnf)
    | (refine VR.fun hTb rfl rfl (o_funN (c6) false [] (fun h => by cases h) (by simp) rfl rfl rfl rfl rfl ⟨rfl, rfl, rfl, rfl⟩ rfl rfl) ?_; conv => whnf)
    | (refine DT.fun hTb rfl (o_funN (c6) false [] (fun h => by cases h) (by simp) rfl rfl rfl rfl rfl ⟨rfl, rfl, rfl, rfl⟩ rfl rfl) rfl ?_; conv => whnf)
    | (refine VR.fun hTb rfl rfl (o_funN (c5) true [] (fun _ => grNewVal _ _) (by simp) rfl rfl rfl rfl rfl ⟨rfl, rfl, rfl, rfl⟩ ?_ rfl) ?_; exact congrArg (fun s => [_, _, s]) brw; conv => whnf)
    | (refine DT.fun hTb rfl (o_funN (c5) true [] (fun _ => grNewVal _ _) (by simp) rfl rfl rfl rfl rfl ⟨rfl, rfl, rfl, rfl⟩ ?_ rfl) rfl ?_; exact congrArg (fun s => [_, _, s]) brw; conv => whnf)
    | (refine VR.pure hTb rfl rfl (o_purN (cW) rfl rfl rfl ⟨rfl, rfl, rfl, rfl⟩ rfl) ?_; conv => whnf)
    | (refine DT.pure hTb rfl (o_purN (cW) rfl rfl rfl ⟨rfl, rfl, rfl, rfl⟩ rfl) ?_; conv => whnf)
    | (refine Need.mk ?_; exact ⟨rfl, ne⟩)
    | (refine VR.op hTb rfl rfl (o_slice_imm (n1 := 0) (n2 := K) (rows' := (list.take K).map encChange) hTb rfl rfl rfl rfl rfl rfl bnd_none (bnd_wr rfl ek) (Nat.zero_le _) (by simp; omega) (by rw [List.drop_zero, Nat.sub_zero, List.map_take])) rfl ?_; conv => whnf)
    | (refine VR.op hTb rfl rfl (o_slice_imm (n1 := K) (n2 := (list.map encChange).length) (rows' := (list.drop K).map encChange) hTb rfl rfl rfl rfl rfl rfl (bnd_wr rfl ek) bnd_none (by simp; omega) (Nat.le_refl _) (by rw [← List.map_drop]; exact List.take_of_length_le (by simp))) rfl ?_; conv => whnf)
    | (refine DT.op hTb rfl (o_slice_imm (n1 := 0) (n2 := K) (rows' := (list.take K).map encChange) hTb rfl rfl rfl rfl rfl rfl bnd_none (bnd_wr rfl ek) (Nat.zero_le _) (by simp; omega) (by rw [List.drop_zero, Nat.sub_zero, List.map_take])) rfl ?_; conv => whnf)
    | (refine DT.op hTb rfl (o_slice_imm (n1 := K) (n2 := (list.map encChange).length) (rows' := (list.drop K).map encChange) hTb rfl rfl rfl rfl rfl rfl (bnd_wr rfl ek) bnd_none (by simp; omega) (Nat.le_refl _) (by rw [← List.map_drop]; exact List.take_of_length_le (by simp))) rfl ?_; conv => whnf))
  all_goals first
    | exact congrArg bS hw
    | rfl
    | trace_state
theorem okGo_of {all : List Col} : ∀ {cs : List Col} {i : Nat}, (∀ j (h : j < cs.length), nameAt all cs[j].name = ((i + j : Nat) : Int) ∧ colOk cs[j] = true) → okGo all cs i = true
  | [], _, _ => rfl
  | c :: cs, i, h => by
    have h0 := h 0 (by simp)
    simp only [List.getElem_cons_zero, Nat.add_zero] at h0
    unfold okGo
    rw [h0.2, h0.1, Bool.true_and, beq_self_eq_true, Bool.true_and]
    refine okGo_of fun j hj => ?_
    have := h (j + 1) (by simpa using hj)
    rw [show i + 1 + j = i + (j + 1) by omega]
    exact this

theorem shapeOk_of {l : List Col} (h1 : 1 ≤ l.length) (h5 : l.length ≤ 5) (hc : ∀ c ∈ l, colOk c = true) (hd : ∀ i j (hi : i < l.length) (hj : j < l.length), l[i].name = l[j].name → i = j) : shapeOk l = true := by
  unfold shapeOk
  rw [Bool.and_eq_true]
  refine ⟨okGo_of fun j hj => ⟨?_, hc _ (List.getElem_mem hj)⟩, by simp; omega⟩
  rw [Nat.zero_add]
  rcases nameAt_spec l l[j].name with ⟨_, h⟩ | ⟨i, hi, e, h⟩
  · have := h l[j] (List.getElem_mem hj)
    simp at this
  · have := hd i j hi hj (tl_beq.1 h)
    subst this; exact e
theorem colOk_mem {l : List Col} (h : shapeOk l = true) : ∀ c ∈ l, colOk c = true := by
  intro c hc
  obtain ⟨i, hi, rfl⟩ := List.mem_iff_getElem.1 hc
  exact (shapeOk_at h i hi).2
theorem ok_erase {s : List Col} {j : Nat} (hs : shapeOk s = true) (hj : j < s.length) : shapeOk (s.eraseIdx j) = decide (2 ≤ s.length) := by
  have hl : (s.eraseIdx j).length = s.length - 1 := by rw [List.length_eraseIdx, if_pos hj]
  have h5 := shapeOk_len hs
  by_cases h : 2 ≤ s.length
  · rw [decide_eq_true h]
    refine shapeOk_of (by omega) (by omega) (fun c hc => colOk_mem hs c (List.mem_of_mem_eraseIdx hc)) fun a b ha hb e => ?_
    rw [List.getElem_eraseIdx, List.getElem_eraseIdx] at e
    split at e <;> split at e
    · exact name_once hs _ _ e
    · have := name_once hs _ _ e; omega
    · have := name_once hs _ _ e; omega
    · have := name_once hs _ _ e; omega
  · rw [decide_eq_false h]
    cases e : shapeOk (s.eraseIdx j) with
    | false => rfl
    | true => have := shapeOk_len e; omega
theorem ok_set {s : List Col} {j : Nat} {c : Col} (hs : shapeOk s = true) (hj : j < s.length) (hn : c.name = s[j].name) : shapeOk (s.set j c) = colOk c := by
  have h5 := shapeOk_len hs
  cases e : colOk c with
  | true =>
    refine shapeOk_of (by simp; omega) (by simp; omega) (fun x hx => ?_) fun a b ha hb e => ?_
    · rcases List.mem_or_eq_of_mem_set hx with hx | rfl
      · exact colOk_mem hs x hx
      · exact e
    · have ha : a < s.length := by simpa using ha
      have hb : b < s.length := by simpa using hb
      rw [List.getElem_set, List.getElem_set] at e
      split at e <;> split at e
      · omega
      · rw [hn] at e; rename_i h1 h2; subst h1; exact name_once hs hj hb e
      · rw [hn] at e; rename_i h1 h2; subst h2; exact name_once hs ha hj e
      · exact name_once hs ha hb e
  | false =>
    cases e2 : shapeOk (s.set j c) with
    | false => rfl
    | true =>
      have := (shapeOk_at e2 j (by simpa using hj)).2
      simp only [List.getElem_set_self] at this
      rw [this] at e; cases e
/-- Whether a column can be taken out or turned. -/
def can (s : List Col) (b : Change) : Prop := namedB b = true ∧ ∃ c ∈ s, c.name = b.name ∧ ((b.kind = 2 ∧ 2 ≤ s.length) ∨ (b.kind = 4 ∧ b.col.kind ≠ c.kind ∧ colOk (ccKind c b.col.kind) = true))
theorem sdo_can {s : List Col} {b : Change} (hs : shapeOk s = true) (k1 : b.kind ≠ 1) (k3 : b.kind ≠ 3) : (sdo s b).2 = true ↔ can s b := by
  constructor
  · intro h
    have D := sdo_done (show sdo s b = ((sdo s b).1, true) by rw [← h])
    refine ⟨D.n, ?_⟩
    rcases D.w with ⟨k, _⟩ | ⟨j, hj, en, ea, ⟨k, e⟩ | ⟨k, _⟩ | ⟨k, hk, e⟩⟩
    · exact absurd k k1
    · refine ⟨s[j], List.getElem_mem hj, en, .inl ⟨k, ?_⟩⟩
      have := D.hx
      rw [e, ok_erase hs hj] at this
      simpa using this
    · exact absurd k k3
    · refine ⟨s[j], List.getElem_mem hj, en, .inr ⟨k, hk, ?_⟩⟩
      have := D.hx
      rw [e, ok_set hs hj (c := ccKind s[j] b.col.kind) rfl] at this
      exact this
  · rintro ⟨hn, c, hc, en, w⟩
    obtain ⟨j, hj, rfl⟩ := List.mem_iff_getElem.1 hc
    have hat := nameAt_of hs hj en
    have hd := chDo_at hn k1 hj hat
    rcases w with ⟨k, h2⟩ | ⟨k, hk, ho⟩
    · rw [if_pos k] at hd
      rw [sdo_some hs hd (by rw [ok_erase hs hj, decide_eq_true h2])]
    · rw [if_neg (by omega), if_neg (by omega), if_neg hk] at hd
      rw [sdo_some hs hd (by rw [ok_set hs hj (c := ccKind s[j] b.col.kind) rfl]; exact ho)]

/-- Such a change on columns with their values. -/
def fPair (c : Change) (z : List (Col × Val)) : List (Col × Val) :=
  if c.kind = 2 then z.filter fun x => !decide (x.1.name = c.name) else z.map fun x => if x.1.name = c.name then (ccKind x.1 c.col.kind, valAs x.2 c.col.kind) else x
theorem erase_filter {α : Type} {p : α → Bool} : ∀ {l : List α} {j : Nat} (hj : j < l.length), p l[j] = false → (∀ i (hi : i < l.length), i ≠ j → p l[i] = true) → l.eraseIdx j = l.filter p
  | [], j, hj, _, _ => by simp at hj
  | a :: l, 0, _, h, ho => by
    simp only [List.getElem_cons_zero] at h
    rw [List.eraseIdx_cons_zero, List.filter_cons, if_neg (by simp [h])]
    symm
    rw [List.filter_eq_self]
    intro x hx
    obtain ⟨i, hi, rfl⟩ := List.mem_iff_getElem.1 hx
    exact ho (i + 1) (by simpa using hi) (by omega)
  | a :: l, j + 1, hj, h, ho => by
    have h0 := ho 0 (by simp) (by omega)
    simp only [List.getElem_cons_zero] at h0
    rw [List.eraseIdx_cons_succ, List.filter_cons, if_pos h0]
    rw [erase_filter (by simpa using hj) (by simpa using h) fun i hi hne => ho (i + 1) (by simpa using hi) (by omega)]
theorem zip_erase {α β : Type} : ∀ (l : List α) (m : List β) (j : Nat), (l.eraseIdx j).zip (m.eraseIdx j) = (l.zip m).eraseIdx j
  | [], _, _ => by simp
  | _ :: _, [], j => by cases j <;> simp
  | a :: l, b :: m, 0 => by simp
  | a :: l, b :: m, j + 1 => by simp [zip_erase l m j]
theorem done_pair {s x : List Col} {c : Change} {row : List Val} (D : Done s c x) (k1 : c.kind ≠ 1) (k3 : c.kind ≠ 3) (hn : row.length = s.length) : x.zip (rwCh s c row) = fPair c (s.zip row) := by
  rcases rwCh_eq (row := row) D with ⟨k, _⟩ | ⟨j, hj, en, ea, ⟨k, e, e2⟩ | ⟨k, _⟩ | ⟨k, e, e2⟩⟩
  · exact absurd k k1
  · rw [e, e2, zip_erase]
    unfold fPair
    rw [if_pos k]
    refine erase_filter (by simp; omega) ?_ fun i hi hne => ?_
    · simp [en]
    · have hi2 : i < s.length := by simp at hi; omega
      simp only [List.getElem_zip, Bool.not_eq_true', decide_eq_false_iff_not]
      intro h
      exact hne (name_once D.hs hi2 hj (h.trans en.symm))
  · exact absurd k k3
  · rw [e, e2]
    unfold fPair
    rw [if_neg (by omega)]
    refine List.ext_getElem (by simp) fun i h1 h2 => ?_
    have hi : i < s.length := by simp at h1; omega
    have hi2 : i < row.length := by omega
    have eg : row.getD j ⟨0, 0, ⟨#[]⟩⟩ = row[j]'(by omega) := by simp [List.getD, show j < row.length by omega]
    simp only [List.getElem_zip, List.getElem_map, List.getElem_set, eg]
    by_cases hij : j = i
    · subst hij
      rw [if_pos rfl, if_pos rfl, if_pos en]
    · rw [if_neg hij, if_neg hij, if_neg (fun h => hij (name_once D.hs hi hj (h.trans en.symm)).symm)]
theorem fPair_comm {a b : Change} (h : a.name ≠ b.name) (z : List (Col × Val)) : fPair b (fPair a z) = fPair a (fPair b z) := by
  unfold fPair
  by_cases ka : a.kind = 2 <;> by_cases kb : b.kind = 2
  · simp only [if_pos ka, if_pos kb, List.filter_filter]
    exact List.filter_congr fun x _ => Bool.and_comm _ _
  · simp only [if_pos ka, if_neg kb, List.filter_map]
    congr 1
    refine List.filter_congr fun x _ => ?_
    simp only [Function.comp]
    split <;> rfl
  · simp only [if_neg ka, if_pos kb, List.filter_map]
    congr 1
    refine List.filter_congr fun x _ => ?_
    simp only [Function.comp]
    split <;> rfl
  · simp only [if_neg ka, if_neg kb, List.map_map]
    refine List.map_congr_left fun x _ => ?_
    simp only [Function.comp]
    by_cases h1 : x.1.name = a.name
    · have h2 : x.1.name ≠ b.name := fun e => h (h1.symm.trans e)
      have h3 : (ccKind x.1 a.col.kind).name ≠ b.name := h2
      rw [if_pos h1, if_neg h2, if_neg h3, if_pos h1]
    · rw [if_neg h1]
      by_cases h2 : x.1.name = b.name
      · have h3 : (ccKind x.1 b.col.kind).name ≠ a.name := h1
        rw [if_pos h2, if_neg h3]
      · rw [if_neg h2, if_neg h1]
theorem zip_inj {α β : Type} {l l' : List α} {m m' : List β} (h : l.length = m.length) (h' : l'.length = m'.length) (e : l.zip m = l'.zip m') : l = l' ∧ m = m' := by
  constructor
  · rw [← List.map_fst_zip (l₁ := l) (l₂ := m) (by omega), e, List.map_fst_zip (by omega)]
  · rw [← List.map_snd_zip (l₁ := l) (l₂ := m) (by omega), e, List.map_snd_zip (by omega)]
/-- The column that another change names stands as it was. -/
theorem done_mem {s x : List Col} {a b : Change} (D : Done s a x) (k1 : a.kind ≠ 1) (k3 : a.kind ≠ 3) (hab : a.name ≠ b.name) (c : Col) (hc : c.name = b.name) : c ∈ x ↔ c ∈ s := by
  rcases D.w with ⟨k, _⟩ | ⟨j, hj, en, ea, ⟨k, e⟩ | ⟨k, _⟩ | ⟨k, hk, e⟩⟩
  · exact absurd k k1
  · rw [e]
    refine ⟨fun h => List.mem_of_mem_eraseIdx h, fun h => ?_⟩
    obtain ⟨i, hi, rfl⟩ := List.mem_iff_getElem.1 h
    have hij : i ≠ j := fun h => by subst h; exact hab (en.symm.trans hc)
    rw [List.mem_iff_getElem]
    have hl : (s.eraseIdx j).length = s.length - 1 := by rw [List.length_eraseIdx, if_pos hj]
    by_cases h : i < j
    · exact ⟨i, by omega, by rw [List.getElem_eraseIdx, dif_pos h]⟩
    · obtain ⟨m, rfl⟩ : ∃ m, i = m + 1 := ⟨i - 1, by omega⟩
      exact ⟨m, by omega, by rw [List.getElem_eraseIdx, dif_neg (by omega)]⟩
  · exact absurd k k3
  · rw [e]
    constructor
    · intro h
      rcases List.mem_or_eq_of_mem_set h with h | rfl
      · exact h
      · exact absurd (en.symm.trans hc) hab
    · intro h
      obtain ⟨i, hi, rfl⟩ := List.mem_iff_getElem.1 h
      have hij : i ≠ j := fun h => by subst h; exact hab (en.symm.trans hc)
      rw [List.mem_iff_getElem]
      exact ⟨i, by simpa using hi, by rw [List.getElem_set, if_neg (Ne.symm hij)]⟩
theorem done_len {s x : List Col} {a : Change} (D : Done s a x) (k1 : a.kind ≠ 1) (k3 : a.kind ≠ 3) : (a.kind = 2 ∧ x.length + 1 = s.length) ∨ (a.kind = 4 ∧ x.length = s.length) := by
  rcases D.w with ⟨k, _⟩ | ⟨j, hj, en, ea, ⟨k, e⟩ | ⟨k, _⟩ | ⟨k, hk, e⟩⟩
  · exact absurd k k1
  · exact .inl ⟨k, by rw [e, List.length_eraseIdx, if_pos hj]; omega⟩
  · exact absurd k k3
  · exact .inr ⟨k, by rw [e]; simp⟩
theorem can_of {s x : List Col} {a b : Change} (D : Done s a x) (k1 : a.kind ≠ 1) (k3 : a.kind ≠ 3) (hab : a.name ≠ b.name) (h : b.kind = 2 → (2 ≤ x.length ↔ 2 ≤ s.length)) : can x b ↔ can s b := by
  unfold can
  constructor
  · rintro ⟨hn, c, hc, en, w⟩
    refine ⟨hn, c, (done_mem D k1 k3 hab c en).1 hc, en, ?_⟩
    rcases w with ⟨k, h2⟩ | w
    · exact .inl ⟨k, (h k).1 h2⟩
    · exact .inr w
  · rintro ⟨hn, c, hc, en, w⟩
    refine ⟨hn, c, (done_mem D k1 k3 hab c en).2 hc, en, ?_⟩
    rcases w with ⟨k, h2⟩ | w
    · exact .inl ⟨k, (h k).2 h2⟩
    · exact .inr w
theorem swap_same {s x : List Col} {a b : Change} (D : Done s a x) (a1 : a.kind ≠ 1) (a3 : a.kind ≠ 3) (b1 : b.kind ≠ 1) (b3 : b.kind ≠ 3) (hab : a.name ≠ b.name) (h2 : s.length ≠ 2) : (sdo s b).2 = (sdo x b).2 := by
  have h5 := shapeOk_len D.hx
  rw [Bool.eq_iff_iff, sdo_can D.hs b1 b3, sdo_can D.hx b1 b3]
  refine (can_of D a1 a3 hab fun _ => ?_).symm
  rcases done_len D a1 a3 with ⟨_, h⟩ | ⟨_, h⟩ <;> omega
theorem swap_then {s x y x2 : List Col} {a b : Change} (D : Done s a x) (E : Done s b y) (F : Done x b x2) (a1 : a.kind ≠ 1) (a3 : a.kind ≠ 3) (b1 : b.kind ≠ 1) (b3 : b.kind ≠ 3) (hab : a.name ≠ b.name) : (sdo y a).2 = true := by
  have ha := (sdo_can D.hs a1 a3).1 (by rw [sdo_some D.hs D.d D.hx])
  refine (sdo_can E.hx a1 a3).2 ((can_of E b1 b3 hab.symm fun k => ?_).2 ha)
  have h1 := shapeOk_len D.hx
  have h2 := shapeOk_len E.hx
  have h3 := shapeOk_len F.hx
  have h4 := shapeOk_len D.hs
  rcases done_len D a1 a3 with ⟨_, h⟩ | ⟨_, h⟩ <;> rcases done_len E b1 b3 with ⟨_, h'⟩ | ⟨_, h'⟩ <;> rcases done_len F b1 b3 with ⟨_, h''⟩ | ⟨_, h''⟩ <;> omega
theorem swap_eq {s x y x2 y2 : List Col} {a b : Change} {row : List Val} (D : Done s a x) (E : Done s b y) (F : Done x b x2) (G : Done y a y2) (a1 : a.kind ≠ 1) (a3 : a.kind ≠ 3) (b1 : b.kind ≠ 1) (b3 : b.kind ≠ 3) (hab : a.name ≠ b.name) (hn : row.length = s.length) :
    x2 = y2 ∧ rwCh x b (rwCh s a row) = rwCh y a (rwCh s b row) := by
  have l1 := rw_len (row := row) D hn
  have l2 := rw_len (row := row) E hn
  have p1 := done_pair (row := row) D a1 a3 hn
  have p2 := done_pair (row := row) E b1 b3 hn
  have p3 := done_pair F b1 b3 l1
  have p4 := done_pair G a1 a3 l2
  rw [p1] at p3
  rw [p2, fPair_comm hab.symm] at p4
  exact zip_inj (rw_len F l1).symm (rw_len G l2).symm (p3.trans p4.symm)
theorem rwAll_two {s x x2 : List Col} {a b : Change} {row : List Val} (D : sdo s a = (x, true)) (F : sdo x b = (x2, true)) (hn : row.length = s.length) : rwAll s [a, b] row = rwCh x b (rwCh s a row) := by
  have hD := sdo_done D
  have hF := sdo_done F
  have e1 : shDo s a = (x, true) := by rw [← sdo_sd hD.hs]; exact D
  have e2 : shDo x b = (x2, true) := by rw [← sdo_sd hF.hs]; exact F
  rw [rwAll_yes (a := x2) hD.hs (by simp [chGo, e1, e2]) hn]
  simp [rwGo, e1]

theorem two_eq {a b c d : Slot} (h1 : a = b) (h2 : c = d) : [a, c] = [b, d] := by rw [h1, h2]
theorem c_FnShapeSwap {bs bs2 : List Int} (hl : bs.length ≤ maxLen) (hb : ∀ x ∈ bs, 0 ≤ x ∧ x < 256) (hl2 : bs2.length ≤ maxLen) (hb2 : ∀ x ∈ bs2, 0 ≤ x ∧ x < 256) : CallsV Tryd.prog 10 [bytesI bs, bytesI bs2] [] (pureQ (bS true)) := by
  refine pure_walk hTb Tryd.func10 rfl rfl Tryd.ntmps10 (by simp) ?_
  (conv => whnf); repeat' (first
    | (refine And.intro ?_ ?_ <;> ((try intro h) <;> (try simp only [Bool.not_true, Bool.not_false, decide_eq_true_eq, decide_eq_false_iff_not, Int.not_lt, Int.not_le, gt_iff_lt, ge_iff_le] at h) <;> first | exact absurd h Bool.false_ne_true | exact absurd h.symm Bool.false_ne_true | conv => whnf))
    | (refine VL.drawS hTb hMix (by kernel_rfl) (by kernel_rfl) (by kernel_rfl) ?_; conv => whnf)
    | (refine Need.mk ?_; kernel_rfl) | (refine Need.mk ⟨rfl, ?_⟩; decide)
    | (refine VR.rel hTb rfl rfl (o_relN (c_DrawRowDo hl hb) false [] (fun _ _ => ⟨by simp, fun h => by cases h⟩) rfl rfl rfl rfl rfl ⟨rfl, rfl, rfl, rfl⟩ rfl rfl) ?_; rintro ⟨cs, ⟨kd, nm, nw, ⟨cn, ck, k1, k2, ⟨d1, d2, d3⟩⟩⟩, row⟩ h1; (try simp only at h1); conv => whnf)
    | (refine DT.rel hTb rfl (o_relN (c_DrawRowDo hl hb) false [] (fun _ _ => ⟨by simp, fun h => by cases h⟩) rfl rfl rfl rfl rfl ⟨rfl, rfl, rfl, rfl⟩ rfl rfl) [] (by kernel_rfl) (by kernel_rfl) ?_; rintro ⟨cs, ⟨kd, nm, nw, ⟨cn, ck, k1, k2, ⟨d1, d2, d3⟩⟩⟩, row⟩ h1; (try simp only at h1); refine And.intro rfl (And.intro rfl ?_); conv => whnf)
    | (refine VR.rel hTb rfl rfl (o_relN (c_DrawShapeDo hl2 hb2) false [] (fun _ _ => ⟨by simp, fun h => by cases h⟩) rfl rfl rfl rfl rfl ⟨rfl, rfl, rfl, rfl⟩ rfl rfl) ?_; rintro ⟨cs', ⟨bkd, bnm, bnw, ⟨bcn, bck, bk1, bk2, ⟨bd1, bd2, bd3⟩⟩⟩⟩ h2; (try simp only at h2); conv => whnf)
    | (refine DT.rel hTb rfl (o_relN (c_DrawShapeDo hl2 hb2) false [] (fun _ _ => ⟨by simp, fun h => by cases h⟩) rfl rfl rfl rfl rfl ⟨rfl, rfl, rfl, rfl⟩ rfl rfl) [] (by kernel_rfl) (by kernel_rfl) ?_; rintro ⟨cs', ⟨bkd, bnm, bnw, ⟨bcn, bck, bk1, bk2, ⟨bd1, bd2, bd3⟩⟩⟩⟩ h2; (try simp only at h2); refine And.intro rfl (And.intro rfl ?_); conv => whnf))
  all_goals try rfl
  have hm := h1.1.md
  have hcm := h1.2.2.1.md
  have hrm := h1.2.2.2.1.md
  have hbm := h2.2.2.md
  have c1 := c_implShapeDo cs ⟨kd, nm, nw, ⟨cn, ck, k1, k2, ⟨d1, d2, d3⟩⟩⟩ (by omega) hm hcm
  have c2 := c_specShapeDo cs ⟨kd, nm, nw, ⟨cn, ck, k1, k2, ⟨d1, d2, d3⟩⟩⟩ (by omega) hm hcm
  obtain ⟨⟨x, ok⟩, hx⟩ : ∃ y, sdo cs ⟨kd, nm, nw, ⟨cn, ck, k1, k2, ⟨d1, d2, d3⟩⟩⟩ = y := ⟨_, rfl⟩
  rw [hx] at c1 c2
  have hxl := sdo_le hx
  have hxm := sdo_sm hx hm hcm
  cases ok
  · (conv => whnf); repeat' (first
    | (refine VL.freeze 1160 rfl rfl ?_; conv => whnf; rw [fzC])
    | (refine VL.freeze 1184 rfl rfl ?_; conv => whnf; rw [fzC])
    | (refine VL.freeze 1384 rfl rfl ?_; conv => whnf; rw [fzC])
    | (refine VL.freeze 1408 rfl rfl ?_; conv => whnf; rw [fzC])
    | (refine VL.freeze 1488 rfl rfl ?_; conv => whnf; rw [fzC])
    | (refine And.intro ?_ ?_ <;> ((try intro h) <;> (try simp only [Bool.not_true, Bool.not_false, decide_eq_true_eq, decide_eq_false_iff_not, Int.not_lt, Int.not_le, gt_iff_lt, ge_iff_le] at h) <;> first | exact absurd h Bool.false_ne_true | exact absurd h.symm Bool.false_ne_true | conv => whnf))
    | (refine VL.drawS hTb hMix (by kernel_rfl) (by kernel_rfl) (by kernel_rfl) ?_; conv => whnf)
    | (refine Need.mk ?_; kernel_rfl) | (refine Need.mk ⟨rfl, ?_⟩; decide)
    | (refine VR.freeze hTb rfl 1160 rfl rfl ?_; conv => whnf; rw [fzC])
    | (refine VR.freeze hTb rfl 1184 rfl rfl ?_; conv => whnf; rw [fzC])
    | (refine VR.freeze hTb rfl 1384 rfl rfl ?_; conv => whnf; rw [fzC])
    | (refine VR.freeze hTb rfl 1408 rfl rfl ?_; conv => whnf; rw [fzC])
    | (refine VR.freeze hTb rfl 1488 rfl rfl ?_; conv => whnf; rw [fzC])
    | (refine VR.fun hTb rfl rfl (o_funN (c1) false [] (fun h => by cases h) (by simp) rfl rfl rfl rfl rfl ⟨rfl, rfl, rfl, rfl⟩ rfl rfl) ?_; conv => whnf)
    | (refine DT.fun hTb rfl (o_funN (c1) false [] (fun h => by cases h) (by simp) rfl rfl rfl rfl rfl ⟨rfl, rfl, rfl, rfl⟩ rfl rfl) rfl ?_; conv => whnf)
    | (refine VR.fun hTb rfl rfl (o_funN (c2) false [] (fun h => by cases h) (by simp) rfl rfl rfl rfl rfl ⟨rfl, rfl, rfl, rfl⟩ rfl rfl) ?_; conv => whnf)
    | (refine DT.fun hTb rfl (o_funN (c2) false [] (fun h => by cases h) (by simp) rfl rfl rfl rfl rfl ⟨rfl, rfl, rfl, rfl⟩ rfl rfl) rfl ?_; conv => whnf))
    all_goals rfl
  have D := sdo_done hx
  by_cases hn : row.length = cs.length
  rotate_left
  · have hh : (((row.map encVal).length : Int) != ((cs.map encCol).length : Int)) = true := by simp; omega
    (conv => whnf); repeat' (first
    | (exact absurd (h.symm.trans hh) Bool.false_ne_true)
    | (refine VL.freeze 1160 rfl rfl ?_; conv => whnf; rw [fzC])
    | (refine VL.freeze 1184 rfl rfl ?_; conv => whnf; rw [fzC])
    | (refine VL.freeze 1384 rfl rfl ?_; conv => whnf; rw [fzC])
    | (refine VL.freeze 1408 rfl rfl ?_; conv => whnf; rw [fzC])
    | (refine VL.freeze 1488 rfl rfl ?_; conv => whnf; rw [fzC])
    | (refine And.intro ?_ ?_ <;> ((try intro h) <;> (try simp only [Bool.not_true, Bool.not_false, decide_eq_true_eq, decide_eq_false_iff_not, Int.not_lt, Int.not_le, gt_iff_lt, ge_iff_le] at h) <;> first | exact absurd h Bool.false_ne_true | exact absurd h.symm Bool.false_ne_true | conv => whnf))
    | (refine VL.drawS hTb hMix (by kernel_rfl) (by kernel_rfl) (by kernel_rfl) ?_; conv => whnf)
    | (refine Need.mk ?_; kernel_rfl) | (refine Need.mk ⟨rfl, ?_⟩; decide)
    | (refine VR.freeze hTb rfl 1160 rfl rfl ?_; conv => whnf; rw [fzC])
    | (refine VR.freeze hTb rfl 1184 rfl rfl ?_; conv => whnf; rw [fzC])
    | (refine VR.freeze hTb rfl 1384 rfl rfl ?_; conv => whnf; rw [fzC])
    | (refine VR.freeze hTb rfl 1408 rfl rfl ?_; conv => whnf; rw [fzC])
    | (refine VR.freeze hTb rfl 1488 rfl rfl ?_; conv => whnf; rw [fzC])
    | (refine VR.fun hTb rfl rfl (o_funN (c1) false [] (fun h => by cases h) (by simp) rfl rfl rfl rfl rfl ⟨rfl, rfl, rfl, rfl⟩ rfl rfl) ?_; conv => whnf)
    | (refine DT.fun hTb rfl (o_funN (c1) false [] (fun h => by cases h) (by simp) rfl rfl rfl rfl rfl ⟨rfl, rfl, rfl, rfl⟩ rfl rfl) rfl ?_; conv => whnf)
    | (refine VR.fun hTb rfl rfl (o_funN (c2) false [] (fun h => by cases h) (by simp) rfl rfl rfl rfl rfl ⟨rfl, rfl, rfl, rfl⟩ rfl rfl) ?_; conv => whnf)
    | (refine DT.fun hTb rfl (o_funN (c2) false [] (fun h => by cases h) (by simp) rfl rfl rfl rfl rfl ⟨rfl, rfl, rfl, rfl⟩ rfl rfl) rfl ?_; conv => whnf))
    all_goals rfl
  have hh : (((row.map encVal).length : Int) != ((cs.map encCol).length : Int)) = false := by simp; omega
  by_cases a1 : kd = 1
  · subst a1
    (conv => whnf); repeat' (first
    | (exact absurd (hh.symm.trans h) Bool.false_ne_true)
    | (refine VL.freeze 1160 rfl rfl ?_; conv => whnf; rw [fzC])
    | (refine VL.freeze 1184 rfl rfl ?_; conv => whnf; rw [fzC])
    | (refine VL.freeze 1384 rfl rfl ?_; conv => whnf; rw [fzC])
    | (refine VL.freeze 1408 rfl rfl ?_; conv => whnf; rw [fzC])
    | (refine VL.freeze 1488 rfl rfl ?_; conv => whnf; rw [fzC])
    | (refine And.intro ?_ ?_ <;> ((try intro h) <;> (try simp only [Bool.not_true, Bool.not_false, decide_eq_true_eq, decide_eq_false_iff_not, Int.not_lt, Int.not_le, gt_iff_lt, ge_iff_le] at h) <;> first | exact absurd h Bool.false_ne_true | exact absurd h.symm Bool.false_ne_true | conv => whnf))
    | (refine VL.drawS hTb hMix (by kernel_rfl) (by kernel_rfl) (by kernel_rfl) ?_; conv => whnf)
    | (refine Need.mk ?_; kernel_rfl) | (refine Need.mk ⟨rfl, ?_⟩; decide)
    | (refine VR.freeze hTb rfl 1160 rfl rfl ?_; conv => whnf; rw [fzC])
    | (refine VR.freeze hTb rfl 1184 rfl rfl ?_; conv => whnf; rw [fzC])
    | (refine VR.freeze hTb rfl 1384 rfl rfl ?_; conv => whnf; rw [fzC])
    | (refine VR.freeze hTb rfl 1408 rfl rfl ?_; conv => whnf; rw [fzC])
    | (refine VR.freeze hTb rfl 1488 rfl rfl ?_; conv => whnf; rw [fzC])
    | (refine VR.fun hTb rfl rfl (o_funN (c1) false [] (fun h => by cases h) (by simp) rfl rfl rfl rfl rfl ⟨rfl, rfl, rfl, rfl⟩ rfl rfl) ?_; conv => whnf)
    | (refine DT.fun hTb rfl (o_funN (c1) false [] (fun h => by cases h) (by simp) rfl rfl rfl rfl rfl ⟨rfl, rfl, rfl, rfl⟩ rfl rfl) rfl ?_; conv => whnf)
    | (refine VR.fun hTb rfl rfl (o_funN (c2) false [] (fun h => by cases h) (by simp) rfl rfl rfl rfl rfl ⟨rfl, rfl, rfl, rfl⟩ rfl rfl) ?_; conv => whnf)
    | (refine DT.fun hTb rfl (o_funN (c2) false [] (fun h => by cases h) (by simp) rfl rfl rfl rfl rfl ⟨rfl, rfl, rfl, rfl⟩ rfl rfl) rfl ?_; conv => whnf))
    all_goals rfl
  by_cases a3 : kd = 3
  · subst a3
    (conv => whnf); repeat' (first
    | (exact absurd (hh.symm.trans h) Bool.false_ne_true)
    | (refine VL.freeze 1160 rfl rfl ?_; conv => whnf; rw [fzC])
    | (refine VL.freeze 1184 rfl rfl ?_; conv => whnf; rw [fzC])
    | (refine VL.freeze 1384 rfl rfl ?_; conv => whnf; rw [fzC])
    | (refine VL.freeze 1408 rfl rfl ?_; conv => whnf; rw [fzC])
    | (refine VL.freeze 1488 rfl rfl ?_; conv => whnf; rw [fzC])
    | (refine And.intro ?_ ?_ <;> ((try intro h) <;> (try simp only [Bool.not_true, Bool.not_false, decide_eq_true_eq, decide_eq_false_iff_not, Int.not_lt, Int.not_le, gt_iff_lt, ge_iff_le] at h) <;> first | exact absurd h Bool.false_ne_true | exact absurd h.symm Bool.false_ne_true | conv => whnf))
    | (refine VL.drawS hTb hMix (by kernel_rfl) (by kernel_rfl) (by kernel_rfl) ?_; conv => whnf)
    | (refine Need.mk ?_; kernel_rfl) | (refine Need.mk ⟨rfl, ?_⟩; decide)
    | (refine VR.freeze hTb rfl 1160 rfl rfl ?_; conv => whnf; rw [fzC])
    | (refine VR.freeze hTb rfl 1184 rfl rfl ?_; conv => whnf; rw [fzC])
    | (refine VR.freeze hTb rfl 1384 rfl rfl ?_; conv => whnf; rw [fzC])
    | (refine VR.freeze hTb rfl 1408 rfl rfl ?_; conv => whnf; rw [fzC])
    | (refine VR.freeze hTb rfl 1488 rfl rfl ?_; conv => whnf; rw [fzC])
    | (refine VR.fun hTb rfl rfl (o_funN (c1) false [] (fun h => by cases h) (by simp) rfl rfl rfl rfl rfl ⟨rfl, rfl, rfl, rfl⟩ rfl rfl) ?_; conv => whnf)
    | (refine DT.fun hTb rfl (o_funN (c1) false [] (fun h => by cases h) (by simp) rfl rfl rfl rfl rfl ⟨rfl, rfl, rfl, rfl⟩ rfl rfl) rfl ?_; conv => whnf)
    | (refine VR.fun hTb rfl rfl (o_funN (c2) false [] (fun h => by cases h) (by simp) rfl rfl rfl rfl rfl ⟨rfl, rfl, rfl, rfl⟩ rfl rfl) ?_; conv => whnf)
    | (refine DT.fun hTb rfl (o_funN (c2) false [] (fun h => by cases h) (by simp) rfl rfl rfl rfl rfl ⟨rfl, rfl, rfl, rfl⟩ rfl rfl) rfl ?_; conv => whnf))
    all_goals rfl
  by_cases b1 : bkd = 1
  · subst b1
    (conv => whnf); repeat' (first
    | (exact absurd (hh.symm.trans h) Bool.false_ne_true)
    | (exact absurd (beq_iff_eq.1 h) a1)
    | (exact absurd (beq_iff_eq.1 h) a3)
    | (refine VL.freeze 1160 rfl rfl ?_; conv => whnf; rw [fzC])
    | (refine VL.freeze 1184 rfl rfl ?_; conv => whnf; rw [fzC])
    | (refine VL.freeze 1384 rfl rfl ?_; conv => whnf; rw [fzC])
    | (refine VL.freeze 1408 rfl rfl ?_; conv => whnf; rw [fzC])
    | (refine VL.freeze 1488 rfl rfl ?_; conv => whnf; rw [fzC])
    | (refine And.intro ?_ ?_ <;> ((try intro h) <;> (try simp only [Bool.not_true, Bool.not_false, decide_eq_true_eq, decide_eq_false_iff_not, Int.not_lt, Int.not_le, gt_iff_lt, ge_iff_le] at h) <;> first | exact absurd h Bool.false_ne_true | exact absurd h.symm Bool.false_ne_true | conv => whnf))
    | (refine VL.drawS hTb hMix (by kernel_rfl) (by kernel_rfl) (by kernel_rfl) ?_; conv => whnf)
    | (refine Need.mk ?_; kernel_rfl) | (refine Need.mk ⟨rfl, ?_⟩; decide)
    | (refine VR.freeze hTb rfl 1160 rfl rfl ?_; conv => whnf; rw [fzC])
    | (refine VR.freeze hTb rfl 1184 rfl rfl ?_; conv => whnf; rw [fzC])
    | (refine VR.freeze hTb rfl 1384 rfl rfl ?_; conv => whnf; rw [fzC])
    | (refine VR.freeze hTb rfl 1408 rfl rfl ?_; conv => whnf; rw [fzC])
    | (refine VR.freeze hTb rfl 1488 rfl rfl ?_; conv => whnf; rw [fzC])
    | (refine VR.fun hTb rfl rfl (o_funN (c1) false [] (fun h => by cases h) (by simp) rfl rfl rfl rfl rfl ⟨rfl, rfl, rfl, rfl⟩ rfl rfl) ?_; conv => whnf)
    | (refine DT.fun hTb rfl (o_funN (c1) false [] (fun h => by cases h) (by simp) rfl rfl rfl rfl rfl ⟨rfl, rfl, rfl, rfl⟩ rfl rfl) rfl ?_; conv => whnf)
    | (refine VR.fun hTb rfl rfl (o_funN (c2) false [] (fun h => by cases h) (by simp) rfl rfl rfl rfl rfl ⟨rfl, rfl, rfl, rfl⟩ rfl rfl) ?_; conv => whnf)
    | (refine DT.fun hTb rfl (o_funN (c2) false [] (fun h => by cases h) (by simp) rfl rfl rfl rfl rfl ⟨rfl, rfl, rfl, rfl⟩ rfl rfl) rfl ?_; conv => whnf))
    all_goals rfl
  by_cases b3 : bkd = 3
  · subst b3
    (conv => whnf); repeat' (first
    | (exact absurd (hh.symm.trans h) Bool.false_ne_true)
    | (exact absurd (beq_iff_eq.1 h) a1)
    | (exact absurd (beq_iff_eq.1 h) a3)
    | (exact absurd (beq_iff_eq.1 h) b1)
    | (refine VL.freeze 1160 rfl rfl ?_; conv => whnf; rw [fzC])
    | (refine VL.freeze 1184 rfl rfl ?_; conv => whnf; rw [fzC])
    | (refine VL.freeze 1384 rfl rfl ?_; conv => whnf; rw [fzC])
    | (refine VL.freeze 1408 rfl rfl ?_; conv => whnf; rw [fzC])
    | (refine VL.freeze 1488 rfl rfl ?_; conv => whnf; rw [fzC])
    | (refine And.intro ?_ ?_ <;> ((try intro h) <;> (try simp only [Bool.not_true, Bool.not_false, decide_eq_true_eq, decide_eq_false_iff_not, Int.not_lt, Int.not_le, gt_iff_lt, ge_iff_le] at h) <;> first | exact absurd h Bool.false_ne_true | exact absurd h.symm Bool.false_ne_true | conv => whnf))
    | (refine VL.drawS hTb hMix (by kernel_rfl) (by kernel_rfl) (by kernel_rfl) ?_; conv => whnf)
    | (refine Need.mk ?_; kernel_rfl) | (refine Need.mk ⟨rfl, ?_⟩; decide)
    | (refine VR.freeze hTb rfl 1160 rfl rfl ?_; conv => whnf; rw [fzC])
    | (refine VR.freeze hTb rfl 1184 rfl rfl ?_; conv => whnf; rw [fzC])
    | (refine VR.freeze hTb rfl 1384 rfl rfl ?_; conv => whnf; rw [fzC])
    | (refine VR.freeze hTb rfl 1408 rfl rfl ?_; conv => whnf; rw [fzC])
    | (refine VR.freeze hTb rfl 1488 rfl rfl ?_; conv => whnf; rw [fzC])
    | (refine VR.fun hTb rfl rfl (o_funN (c1) false [] (fun h => by cases h) (by simp) rfl rfl rfl rfl rfl ⟨rfl, rfl, rfl, rfl⟩ rfl rfl) ?_; conv => whnf)
    | (refine DT.fun hTb rfl (o_funN (c1) false [] (fun h => by cases h) (by simp) rfl rfl rfl rfl rfl ⟨rfl, rfl, rfl, rfl⟩ rfl rfl) rfl ?_; conv => whnf)
    | (refine VR.fun hTb rfl rfl (o_funN (c2) false [] (fun h => by cases h) (by simp) rfl rfl rfl rfl rfl ⟨rfl, rfl, rfl, rfl⟩ rfl rfl) ?_; conv => whnf)
    | (refine DT.fun hTb rfl (o_funN (c2) false [] (fun h => by cases h) (by simp) rfl rfl rfl rfl rfl ⟨rfl, rfl, rfl, rfl⟩ rfl rfl) rfl ?_; conv => whnf))
    all_goals rfl
  obtain ⟨e, he⟩ : ∃ e, (nm.toList == bnm.toList) = e := ⟨_, rfl⟩
  cases e
  rotate_left
  · (conv => whnf); repeat' (first
    | (exact absurd (hh.symm.trans h) Bool.false_ne_true)
    | (exact absurd (beq_iff_eq.1 h) a1)
    | (exact absurd (beq_iff_eq.1 h) a3)
    | (exact absurd (beq_iff_eq.1 h) b1)
    | (exact absurd (beq_iff_eq.1 h) b3)
    | (exact absurd (h.symm.trans he) Bool.false_ne_true)
    | (refine VL.freeze 1160 rfl rfl ?_; conv => whnf; rw [fzC])
    | (refine VL.freeze 1184 rfl rfl ?_; conv => whnf; rw [fzC])
    | (refine VL.freeze 1384 rfl rfl ?_; conv => whnf; rw [fzC])
    | (refine VL.freeze 1408 rfl rfl ?_; conv => whnf; rw [fzC])
    | (refine VL.freeze 1488 rfl rfl ?_; conv => whnf; rw [fzC])
    | (refine And.intro ?_ ?_ <;> ((try intro h) <;> (try simp only [Bool.not_true, Bool.not_false, decide_eq_true_eq, decide_eq_false_iff_not, Int.not_lt, Int.not_le, gt_iff_lt, ge_iff_le] at h) <;> first | exact absurd h Bool.false_ne_true | exact absurd h.symm Bool.false_ne_true | conv => whnf))
    | (refine VL.drawS hTb hMix (by kernel_rfl) (by kernel_rfl) (by kernel_rfl) ?_; conv => whnf)
    | (refine Need.mk ?_; kernel_rfl) | (refine Need.mk ⟨rfl, ?_⟩; decide)
    | (refine VR.freeze hTb rfl 1160 rfl rfl ?_; conv => whnf; rw [fzC])
    | (refine VR.freeze hTb rfl 1184 rfl rfl ?_; conv => whnf; rw [fzC])
    | (refine VR.freeze hTb rfl 1384 rfl rfl ?_; conv => whnf; rw [fzC])
    | (refine VR.freeze hTb rfl 1408 rfl rfl ?_; conv => whnf; rw [fzC])
    | (refine VR.freeze hTb rfl 1488 rfl rfl ?_; conv => whnf; rw [fzC])
    | (refine VR.fun hTb rfl rfl (o_funN (c1) false [] (fun h => by cases h) (by simp) rfl rfl rfl rfl rfl ⟨rfl, rfl, rfl, rfl⟩ rfl rfl) ?_; conv => whnf)
    | (refine DT.fun hTb rfl (o_funN (c1) false [] (fun h => by cases h) (by simp) rfl rfl rfl rfl rfl ⟨rfl, rfl, rfl, rfl⟩ rfl rfl) rfl ?_; conv => whnf)
    | (refine VR.fun hTb rfl rfl (o_funN (c2) false [] (fun h => by cases h) (by simp) rfl rfl rfl rfl rfl ⟨rfl, rfl, rfl, rfl⟩ rfl rfl) ?_; conv => whnf)
    | (refine DT.fun hTb rfl (o_funN (c2) false [] (fun h => by cases h) (by simp) rfl rfl rfl rfl rfl ⟨rfl, rfl, rfl, rfl⟩ rfl rfl) rfl ?_; conv => whnf))
    all_goals rfl
  have hab := tl_bne.1 he
  have c3 := c_implShapeDo cs ⟨bkd, bnm, bnw, ⟨bcn, bck, bk1, bk2, ⟨bd1, bd2, bd3⟩⟩⟩ (by omega) hm hbm
  have c4 := c_implShapeDo x ⟨bkd, bnm, bnw, ⟨bcn, bck, bk1, bk2, ⟨bd1, bd2, bd3⟩⟩⟩ (by omega) hxm hbm
  obtain ⟨⟨y, q⟩, hy⟩ : ∃ y, sdo cs ⟨bkd, bnm, bnw, ⟨bcn, bck, bk1, bk2, ⟨bd1, bd2, bd3⟩⟩⟩ = y := ⟨_, rfl⟩
  obtain ⟨⟨x2, u⟩, hx2⟩ : ∃ y, sdo x ⟨bkd, bnm, bnw, ⟨bcn, bck, bk1, bk2, ⟨bd1, bd2, bd3⟩⟩⟩ = y := ⟨_, rfl⟩
  rw [hy] at c3
  rw [hx2] at c4
  have hyl := sdo_le hy
  have hym := sdo_sm hy hm hbm
  have hqu := fun h2 => swap_same (b := ⟨bkd, bnm, bnw, ⟨bcn, bck, bk1, bk2, ⟨bd1, bd2, bd3⟩⟩⟩) D a1 a3 b1 b3 hab h2
  rw [hy, hx2] at hqu
  simp only at hqu
  by_cases hq : q = true ∧ u = true
  rotate_left
  · have hq2 : (q == u) = true ∨ (((cs.map encCol).length : Int) == 2) = true := by
      by_cases h2 : cs.length = 2
      · exact .inr (by simp; omega)
      · exact .inl (by rw [hqu h2]; simp)
    cases q <;> cases u <;> first
      | (exfalso; exact hq ⟨rfl, rfl⟩)
      | skip
    all_goals rcases hq2 with hq2 | hq2 <;> first
      | (exfalso; exact Bool.false_ne_true hq2)
      | skip
    all_goals (conv => whnf); repeat' (first
    | (exact absurd (hh.symm.trans h) Bool.false_ne_true)
    | (exact absurd (beq_iff_eq.1 h) a1)
    | (exact absurd (beq_iff_eq.1 h) a3)
    | (exact absurd (beq_iff_eq.1 h) b1)
    | (exact absurd (beq_iff_eq.1 h) b3)
    | (exact absurd (he.symm.trans h) Bool.false_ne_true)
    | (refine VL.freeze 1160 rfl rfl ?_; conv => whnf; rw [fzC])
    | (refine VL.freeze 1184 rfl rfl ?_; conv => whnf; rw [fzC])
    | (refine VL.freeze 1384 rfl rfl ?_; conv => whnf; rw [fzC])
    | (refine VL.freeze 1408 rfl rfl ?_; conv => whnf; rw [fzC])
    | (refine VL.freeze 1488 rfl rfl ?_; conv => whnf; rw [fzC])
    | (refine And.intro ?_ ?_ <;> ((try intro h) <;> (try simp only [Bool.not_true, Bool.not_false, decide_eq_true_eq, decide_eq_false_iff_not, Int.not_lt, Int.not_le, gt_iff_lt, ge_iff_le] at h) <;> first | exact absurd h Bool.false_ne_true | exact absurd h.symm Bool.false_ne_true | conv => whnf))
    | (refine VL.drawS hTb hMix (by kernel_rfl) (by kernel_rfl) (by kernel_rfl) ?_; conv => whnf)
    | (refine Need.mk ?_; kernel_rfl) | (refine Need.mk ⟨rfl, ?_⟩; decide)
    | (refine VR.freeze hTb rfl 1160 rfl rfl ?_; conv => whnf; rw [fzC])
    | (refine VR.freeze hTb rfl 1184 rfl rfl ?_; conv => whnf; rw [fzC])
    | (refine VR.freeze hTb rfl 1384 rfl rfl ?_; conv => whnf; rw [fzC])
    | (refine VR.freeze hTb rfl 1408 rfl rfl ?_; conv => whnf; rw [fzC])
    | (refine VR.freeze hTb rfl 1488 rfl rfl ?_; conv => whnf; rw [fzC])
    | (refine VR.fun hTb rfl rfl (o_funN (c1) false [] (fun h => by cases h) (by simp) rfl rfl rfl rfl rfl ⟨rfl, rfl, rfl, rfl⟩ rfl rfl) ?_; conv => whnf)
    | (refine DT.fun hTb rfl (o_funN (c1) false [] (fun h => by cases h) (by simp) rfl rfl rfl rfl rfl ⟨rfl, rfl, rfl, rfl⟩ rfl rfl) rfl ?_; conv => whnf)
    | (refine VR.fun hTb rfl rfl (o_funN (c2) false [] (fun h => by cases h) (by simp) rfl rfl rfl rfl rfl ⟨rfl, rfl, rfl, rfl⟩ rfl rfl) ?_; conv => whnf)
    | (refine DT.fun hTb rfl (o_funN (c2) false [] (fun h => by cases h) (by simp) rfl rfl rfl rfl rfl ⟨rfl, rfl, rfl, rfl⟩ rfl rfl) rfl ?_; conv => whnf)
    | (refine VR.fun hTb rfl rfl (o_funN (c3) false [] (fun h => by cases h) (by simp) rfl rfl rfl rfl rfl ⟨rfl, rfl, rfl, rfl⟩ rfl rfl) ?_; conv => whnf)
    | (refine DT.fun hTb rfl (o_funN (c3) false [] (fun h => by cases h) (by simp) rfl rfl rfl rfl rfl ⟨rfl, rfl, rfl, rfl⟩ rfl rfl) rfl ?_; conv => whnf)
    | (refine VR.fun hTb rfl rfl (o_funN (c4) false [] (fun h => by cases h) (by simp) rfl rfl rfl rfl rfl ⟨rfl, rfl, rfl, rfl⟩ rfl rfl) ?_; conv => whnf)
    | (refine DT.fun hTb rfl (o_funN (c4) false [] (fun h => by cases h) (by simp) rfl rfl rfl rfl rfl ⟨rfl, rfl, rfl, rfl⟩ rfl rfl) rfl ?_; conv => whnf))
    all_goals first
      | rfl
      | exact congrArg bS hq2
      | trace_state
  obtain ⟨rfl, rfl⟩ := hq
  have E := sdo_done hy
  have F := sdo_done hx2
  have hv := swap_then D E F a1 a3 b1 b3 hab
  have c5 := c_implShapeDo y ⟨kd, nm, nw, ⟨cn, ck, k1, k2, ⟨d1, d2, d3⟩⟩⟩ (by omega) hym hcm
  obtain ⟨⟨y2, v⟩, hy2⟩ : ∃ z, sdo y ⟨kd, nm, nw, ⟨cn, ck, k1, k2, ⟨d1, d2, d3⟩⟩⟩ = z := ⟨_, rfl⟩
  rw [hy2] at c5 hv
  obtain rfl : v = true := hv
  have G := sdo_done hy2
  obtain ⟨rfl, er⟩ := swap_eq (row := row) D E F G a1 a3 b1 b3 hab hn
  have hx2l := sdo_le hx2
  have cS := c_implShapeSame x2 x2 (by unfold maxLen; omega)
  rw [lC_refl] at cS
  have m2 : mdChs [⟨kd, nm, nw, ⟨cn, ck, k1, k2, ⟨d1, d2, d3⟩⟩⟩, ⟨bkd, bnm, bnw, ⟨bcn, bck, bk1, bk2, ⟨bd1, bd2, bd3⟩⟩⟩] := fun z hz => by
    simp at hz
    rcases hz with rfl | rfl
    · exact hcm
    · exact hbm
  have m3 : mdChs [⟨bkd, bnm, bnw, ⟨bcn, bck, bk1, bk2, ⟨bd1, bd2, bd3⟩⟩⟩, ⟨kd, nm, nw, ⟨cn, ck, k1, k2, ⟨d1, d2, d3⟩⟩⟩] := fun z hz => by
    simp at hz
    rcases hz with rfl | rfl
    · exact hbm
    · exact hcm
  have cR1 := c_implRowAll cs [⟨kd, nm, nw, ⟨cn, ck, k1, k2, ⟨d1, d2, d3⟩⟩⟩, ⟨bkd, bnm, bnw, ⟨bcn, bck, bk1, bk2, ⟨bd1, bd2, bd3⟩⟩⟩] row (by simp; omega) (by omega) hm m2 hrm
  have cR2 := c_implRowAll cs [⟨bkd, bnm, bnw, ⟨bcn, bck, bk1, bk2, ⟨bd1, bd2, bd3⟩⟩⟩, ⟨kd, nm, nw, ⟨cn, ck, k1, k2, ⟨d1, d2, d3⟩⟩⟩] row (by simp; omega) (by omega) hm m3 hrm
  have ew : (rwCh x ⟨bkd, bnm, bnw, ⟨bcn, bck, bk1, bk2, ⟨bd1, bd2, bd3⟩⟩⟩ (rwCh cs ⟨kd, nm, nw, ⟨cn, ck, k1, k2, ⟨d1, d2, d3⟩⟩⟩ row)).length = x2.length := rw_len F (rw_len D hn)
  rw [rwAll_two hx hx2 hn] at cR1
  rw [rwAll_two hy hy2 hn, ← er] at cR2
  generalize rwCh x ⟨bkd, bnm, bnw, ⟨bcn, bck, bk1, bk2, ⟨bd1, bd2, bd3⟩⟩⟩ (rwCh cs ⟨kd, nm, nw, ⟨cn, ck, k1, k2, ⟨d1, d2, d3⟩⟩⟩ row) = w at cR1 cR2 ew
  have cW := c_wpVals w (by unfold maxLen; omega)
  (conv => whnf); repeat' (first
    | (exact absurd (hh.symm.trans h) Bool.false_ne_true)
    | (exact absurd (beq_iff_eq.1 h) a1)
    | (exact absurd (beq_iff_eq.1 h) a3)
    | (exact absurd (beq_iff_eq.1 h) b1)
    | (exact absurd (beq_iff_eq.1 h) b3)
    | (exact absurd (he.symm.trans h) Bool.false_ne_true)
    | (refine VL.freeze 1160 rfl rfl ?_; conv => whnf; rw [fzC])
    | (refine VL.freeze 1184 rfl rfl ?_; conv => whnf; rw [fzC])
    | (refine VL.freeze 1384 rfl rfl ?_; conv => whnf; rw [fzC])
    | (refine VL.freeze 1408 rfl rfl ?_; conv => whnf; rw [fzC])
    | (refine VL.freeze 1488 rfl rfl ?_; conv => whnf; rw [fzC])
    | (refine And.intro ?_ ?_ <;> ((try intro h) <;> (try simp only [Bool.not_true, Bool.not_false, decide_eq_true_eq, decide_eq_false_iff_not, Int.not_lt, Int.not_le, gt_iff_lt, ge_iff_le] at h) <;> first | exact absurd h Bool.false_ne_true | exact absurd h.symm Bool.false_ne_true | conv => whnf))
    | (refine VL.drawS hTb hMix (by kernel_rfl) (by kernel_rfl) (by kernel_rfl) ?_; conv => whnf)
    | (refine Need.mk ?_; kernel_rfl) | (refine Need.mk ⟨rfl, ?_⟩; decide)
    | (refine VR.freeze hTb rfl 1160 rfl rfl ?_; conv => whnf; rw [fzC])
    | (refine VR.freeze hTb rfl 1184 rfl rfl ?_; conv => whnf; rw [fzC])
    | (refine VR.freeze hTb rfl 1384 rfl rfl ?_; conv => whnf; rw [fzC])
    | (refine VR.freeze hTb rfl 1408 rfl rfl ?_; conv => whnf; rw [fzC])
    | (refine VR.freeze hTb rfl 1488 rfl rfl ?_; conv => whnf; rw [fzC])
    | (refine VR.fun hTb rfl rfl (o_funN (c1) false [] (fun h => by cases h) (by simp) rfl rfl rfl rfl rfl ⟨rfl, rfl, rfl, rfl⟩ rfl rfl) ?_; conv => whnf)
    | (refine DT.fun hTb rfl (o_funN (c1) false [] (fun h => by cases h) (by simp) rfl rfl rfl rfl rfl ⟨rfl, rfl, rfl, rfl⟩ rfl rfl) rfl ?_; conv => whnf)
    | (refine VR.fun hTb rfl rfl (o_funN (c2) false [] (fun h => by cases h) (by simp) rfl rfl rfl rfl rfl ⟨rfl, rfl, rfl, rfl⟩ rfl rfl) ?_; conv => whnf)
    | (refine DT.fun hTb rfl (o_funN (c2) false [] (fun h => by cases h) (by simp) rfl rfl rfl rfl rfl ⟨rfl, rfl, rfl, rfl⟩ rfl rfl) rfl ?_; conv => whnf)
    | (refine VR.fun hTb rfl rfl (o_funN (c3) false [] (fun h => by cases h) (by simp) rfl rfl rfl rfl rfl ⟨rfl, rfl, rfl, rfl⟩ rfl rfl) ?_; conv => whnf)
    | (refine DT.fun hTb rfl (o_funN (c3) false [] (fun h => by cases h) (by simp) rfl rfl rfl rfl rfl ⟨rfl, rfl, rfl, rfl⟩ rfl rfl) rfl ?_; conv => whnf)
    | (refine VR.fun hTb rfl rfl (o_funN (c4) false [] (fun h => by cases h) (by simp) rfl rfl rfl rfl rfl ⟨rfl, rfl, rfl, rfl⟩ rfl rfl) ?_; conv => whnf)
    | (refine DT.fun hTb rfl (o_funN (c4) false [] (fun h => by cases h) (by simp) rfl rfl rfl rfl rfl ⟨rfl, rfl, rfl, rfl⟩ rfl rfl) rfl ?_; conv => whnf)
    | (refine VR.fun hTb rfl rfl (o_funN (c5) false [] (fun h => by cases h) (by simp) rfl rfl rfl rfl rfl ⟨rfl, rfl, rfl, rfl⟩ rfl rfl) ?_; conv => whnf)
    | (refine DT.fun hTb rfl (o_funN (c5) false [] (fun h => by cases h) (by simp) rfl rfl rfl rfl rfl ⟨rfl, rfl, rfl, rfl⟩ rfl rfl) rfl ?_; conv => whnf)
    | (refine VR.pure hTb rfl rfl (o_purN (cS) rfl rfl rfl ⟨rfl, rfl, rfl, rfl⟩ rfl) ?_; conv => whnf)
    | (refine DT.pure hTb rfl (o_purN (cS) rfl rfl rfl ⟨rfl, rfl, rfl, rfl⟩ rfl) ?_; conv => whnf)
    | (refine VR.fun hTb rfl rfl (o_funN (cR1) true [] (fun _ => grNewVal _ _) (by simp) rfl rfl rfl rfl rfl ⟨rfl, rfl, rfl, rfl⟩ ?_ rfl) ?_; exact rfl; conv => whnf)
    | (refine DT.fun hTb rfl (o_funN (cR1) true [] (fun _ => grNewVal _ _) (by simp) rfl rfl rfl rfl rfl ⟨rfl, rfl, rfl, rfl⟩ ?_ rfl) rfl ?_; exact rfl; conv => whnf)
    | (refine VR.fun hTb rfl rfl (o_funN (cR2) true [] (fun _ => grNewVal _ _) (by simp) rfl rfl rfl rfl rfl ⟨rfl, rfl, rfl, rfl⟩ ?_ rfl) ?_; exact rfl; conv => whnf)
    | (refine DT.fun hTb rfl (o_funN (cR2) true [] (fun _ => grNewVal _ _) (by simp) rfl rfl rfl rfl rfl ⟨rfl, rfl, rfl, rfl⟩ ?_ rfl) rfl ?_; exact rfl; conv => whnf)
    | (refine DT.pure hTb rfl (o_purN cW rfl rfl rfl ⟨rfl, rfl, rfl, rfl⟩ ?_) ?_; exact two_eq brw brw; conv => whnf))
  all_goals first
    | rfl
    | trace_state
end Go.Vl
