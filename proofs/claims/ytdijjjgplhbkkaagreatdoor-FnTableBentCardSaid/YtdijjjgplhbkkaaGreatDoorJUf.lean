/- Contracts: columns behind a change, the reference's; a row behind a change, of both. Contracts: a row behind a change; columns behind several. Plain laws: columns behind a change. Laws: a row behind a change of columns. -/
import Derived.Test.YtdijjjgplhbkkaaGreatDoorJUe
set_option linter.unusedSimpArgs false
set_option linter.unusedVariables false
set_option linter.unnecessarySimpa false

namespace Go.Vl
open Go Go.RowKit Go.Proofs
set_option maxRecDepth 100000
set_option linter.unusedSimpArgs false
set_option linter.unusedVariables false
set_option linter.unnecessarySimpa false
set_option maxHeartbeats 4000000

theorem shapeOk_nil : shapeOk [] = false := by
  cases e : shapeOk [] with
  | false => rfl
  | true => have := shapeOk_len e; simp at this
theorem chDo_len {s : List Col} {c : Change} {L : List Col} (h : chDo s c = some L) : L.length ≤ s.length + 1 := by
  unfold chDo at h
  split at h; cases h
  split at h
  · split at h; cases h; cases h; simp
  split at h; cases h
  split at h
  · cases h; have := List.length_eraseIdx_le s (nameAt s c.name).toNat; omega
  split at h
  · cases h; simp
  split at h; cases h; cases h; simp
theorem chDo_md {s : List Col} {c : Change} {L : List Col} (hs : mdCols s) (hc : c.md) (h : chDo s c = some L) : mdCols L := by
  obtain ⟨h1, h2, h3⟩ := hc
  unfold chDo at h
  split at h; cases h
  split at h
  · split at h; cases h; cases h; exact hs.app h3
  split at h; cases h
  rename_i hn
  have hj : (nameAt s c.name).toNat < s.length := by
    rcases nameAt_spec s c.name with ⟨h4, _⟩ | ⟨j, hj, h4, _⟩ <;> omega
  split at h
  · cases h; exact hs.erase
  split at h
  · cases h; exact hs.set ⟨h2, (md_getD hs hj).2⟩
  split at h; cases h; cases h
  exact hs.set ⟨(md_getD hs hj).1, by have := valAs_size (s.getD (nameAt s c.name).toNat (kCol 0)).d c.col.kind; show (valAs _ _).t.size ≤ _; omega⟩
theorem okO_md {s : List Col} {o : Option (List Col)} (hs : mdCols s) (h : ∀ L, o = some L → mdCols L) : mdCols (okO s o).1 := by
  unfold okO
  cases o with
  | none => exact hs
  | some L => simp only; split; exact h L rfl; exact hs
theorem shDo_md {s : List Col} {c : Change} (hs : mdCols s) (hc : c.md) : mdCols (shDo s c).1 := okO_md hs fun _ h => chDo_md hs hc h
theorem okO_len {s : List Col} {o : Option (List Col)} (h : ∀ L, o = some L → L.length ≤ s.length + 1) : (okO s o).1.length ≤ s.length + 1 := by
  unfold okO
  cases o with
  | none => simp
  | some L => simp only; split; exact h L rfl; simp
theorem shDo_len {s : List Col} {c : Change} : (shDo s c).1.length ≤ s.length + 1 := okO_len fun _ h => chDo_len h
theorem shDo_ok {s : List Col} {c : Change} (h : (shDo s c).2 = true) : shapeOk (shDo s c).1 = true ∧ ∃ L, chDo s c = some L ∧ (shDo s c).1 = L := by
  unfold shDo okO at h ⊢
  cases e : chDo s c with
  | none => rw [e] at h; cases h
  | some L =>
    rw [e] at h
    simp only at h ⊢
    split at h
    · rename_i h1; rw [if_pos h1]; exact ⟨h1, L, rfl, rfl⟩
    · cases h
theorem c_specShapeDo (s : List Col) (c : Change) (hl : s.length ≤ 1900000) (hs : mdCols s) (hc : c.md) : CallsV Tryz.prog 126 [colsI s, .agg (encChange c)] [] (funQ (shS (sdo s c)) [] (shN (sdo s c))) := by
  have c1 := c_specShapeOk s (by unfold maxLen; omega) hs.ok
  have c2 := c_l2Do s c hl hs hc
  have hlen := @chDo_len s c
  have hmd := fun L => @chDo_md s c L hs hc
  obtain ⟨kd, nm, nw, ⟨cn, ck, k1, k2, ⟨d1, d2, d3⟩⟩⟩ := c
  unfold sdo shDo
  obtain ⟨b, hb⟩ : ∃ b, shapeOk s = b := ⟨_, rfl⟩
  rw [hb] at c1 ⊢
  refine funF_walk hTb Tryz.func126 rfl rfl Tryz.ntmps126 (by simp) (by simp) ?_
  cases b
  · rw [if_neg (by simp)]
    (conv => whnf); repeat' (first
    | (refine And.intro ?_ ?_ <;> ((try intro h) <;> (try simp only [Bool.not_true, Bool.not_false, decide_eq_true_eq, decide_eq_false_iff_not, Int.not_lt, Int.not_le, gt_iff_lt, ge_iff_le] at h) <;> first | exact absurd h Bool.false_ne_true | exact absurd h.symm Bool.false_ne_true | conv => whnf))
    | (refine VL.drawS hTb hMix (by kernel_rfl) (by kernel_rfl) (by kernel_rfl) ?_; conv => whnf)
    | (refine Need.mk ?_; kernel_rfl) | (refine Need.mk ⟨rfl, ?_⟩; decide)
    | (refine VR.pure hTb rfl rfl (o_purN (c1) rfl rfl rfl ⟨rfl, rfl, rfl, rfl⟩ rfl) ?_; conv => whnf)
    | (refine DT.pure hTb rfl (o_purN (c1) rfl rfl rfl ⟨rfl, rfl, rfl, rfl⟩ rfl) ?_; conv => whnf))
    exact endW [110] rfl rfl rfl rfl rfl (LeS.refl _) rfl rfl
  · rw [if_pos rfl]
    generalize chDo s ⟨kd, nm, nw, ⟨cn, ck, k1, k2, ⟨d1, d2, d3⟩⟩⟩ = D at c2 hlen hmd
    have hD : (D.getD []).length ≤ 2000000 ∧ mdCols (D.getD []) := by
      cases D with
      | none => exact ⟨by simp, fun x hx => by cases hx⟩
      | some L => exact ⟨by have := hlen rfl; show L.length ≤ _; omega, hmd L rfl⟩
    have c3 := c_specShapeOk (D.getD []) (by unfold maxLen; omega) hD.2.ok
    have hok : okO s D = if shapeOk (D.getD []) = true then (D.getD [], true) else (s, false) := by
      cases D with
      | none => simp only [okO, Option.getD_none, shapeOk_nil]; rfl
      | some L => rfl
    rw [hok]
    clear hok
    generalize D.getD [] = L at c2 c3 hD
    obtain ⟨x, hx⟩ : ∃ x, shapeOk L = x := ⟨_, rfl⟩
    rw [hx] at c3 ⊢
    cases x <;> (conv => whnf); repeat' (first
    | (refine And.intro ?_ ?_ <;> ((try intro h) <;> (try simp only [Bool.not_true, Bool.not_false, decide_eq_true_eq, decide_eq_false_iff_not, Int.not_lt, Int.not_le, gt_iff_lt, ge_iff_le] at h) <;> first | exact absurd h Bool.false_ne_true | exact absurd h.symm Bool.false_ne_true | conv => whnf))
    | (refine VL.drawS hTb hMix (by kernel_rfl) (by kernel_rfl) (by kernel_rfl) ?_; conv => whnf)
    | (refine Need.mk ?_; kernel_rfl) | (refine Need.mk ⟨rfl, ?_⟩; decide)
    | (refine VR.pure hTb rfl rfl (o_purN (c1) rfl rfl rfl ⟨rfl, rfl, rfl, rfl⟩ rfl) ?_; conv => whnf)
    | (refine DT.pure hTb rfl (o_purN (c1) rfl rfl rfl ⟨rfl, rfl, rfl, rfl⟩ rfl) ?_; conv => whnf)
    | (refine VR.fun hTb rfl rfl (o_funN (c2) false [] (fun h => by cases h) (by simp) rfl rfl rfl rfl rfl ⟨rfl, rfl, rfl, rfl⟩ rfl rfl) ?_; conv => whnf)
    | (refine DT.fun hTb rfl (o_funN (c2) false [] (fun h => by cases h) (by simp) rfl rfl rfl rfl rfl ⟨rfl, rfl, rfl, rfl⟩ rfl rfl) rfl ?_; conv => whnf)
    | (refine VR.pure hTb rfl rfl (o_purN c3 rfl rfl rfl ⟨rfl, rfl, rfl, rfl⟩ ?_) ?_; exact congrArg (fun s => [s]) brw; conv => whnf)
    | (refine VR.opk hTb rfl rfl (o_app0 (f := encCol) (m := s) (q := 119) hTb rfl rfl rfl rfl rfl rfl rfl rfl rfl rfl (by omega) (by show _ * 64 ≤ _; omega) (by unfold maxLen; omega)) ?_; conv => whnf)
    | (refine DT.opk hTb rfl (o_app0 (f := encCol) (m := s) (q := 119) hTb rfl rfl rfl rfl rfl rfl rfl rfl rfl rfl (by omega) (by show _ * 64 ≤ _; omega) (by unfold maxLen; omega)) ?_; conv => whnf))
    · rw [if_neg (by simp)]
      exact endW [119] rfl rfl rfl rfl rfl (LeS.refl _) rfl rfl
    · rw [if_pos rfl]
      exact endW [1052] rfl rfl rfl rfl rfl (LeS.refl _) rfl rfl
-- rows
def Val.md (v : Val) : Prop := v.t.size ≤ 1048576
def mdVals (l : List Val) : Prop := ∀ x ∈ l, x.md
def rwCh (s : List Col) (c : Change) (row : List Val) : List Val :=
  if c.kind = 1 then row ++ [c.col.d]
  else if c.kind = 2 then row.eraseIdx (nameAt s c.name).toNat
  else if c.kind = 4 then row.set (nameAt s c.name).toNat (valAs (row.getD (nameAt s c.name).toNat ⟨0, 0, ⟨#[]⟩⟩) c.col.kind)
  else row
/-- The change finds the place that it needs. -/
def chAt (s : List Col) (c : Change) (n : Nat) : Prop := (c.kind = 2 ∨ c.kind = 4) → ∃ j : Nat, j < n ∧ nameAt s c.name = (j : Int)
theorem grNewVal (n : Nat) (l : List Val) : GrS (.one (.own 0 0 n)) ∧ (∀ ob, some ob ∈ ([] : List (Option Ob)) → GrO ob) ∧ ∀ ob ∈ [Ob.arr 37 3 (l.map encVal)], GrO ob :=
  ⟨rfl, fun _ h => by simp at h, fun ob h => by simp at h; subst h; exact grVals l⟩
theorem brwEV {l : List Val} {k : Nat} (h : k < l.length) (z : Val) : Slot.one (.imm 3 ((((l.eraseIdx k ++ [z]).map encVal).drop 0).take (l.length - 1))) = valsI (l.eraseIdx k) := by
  have e : (l.eraseIdx k).length = l.length - 1 := by rw [List.length_eraseIdx, if_pos h]
  rw [List.drop_zero, List.map_append, List.take_left' (by rw [List.length_map, e])]; rfl
theorem c_changeRow (s : List Col) (c : Change) (row : List Val) (hl : s.length ≤ 1900000) (hr : row.length ≤ 1900000) (hs : mdCols s) (hrow : mdVals row) (hat : chAt s c row.length) :
    CallsV Tryz.prog 181 [colsI s, .agg (encChange c), valsI row] [] (funQ (.one (.own 0 0 (rwCh s c row).length)) [] [.arr 37 3 ((rwCh s c row).map encVal)]) := by
  obtain ⟨kd, nm, nw, ⟨cn, ck, c1, c2, ⟨d1, d2, d3⟩⟩⟩ := c
  have cA := c_colAt s nm (by unfold maxLen; omega)
  have c0 := c_cloneVal row (by omega)
  simp only [chAt] at hat
  unfold rwCh
  simp only
  refine funF_walk hTb Tryz.func181 rfl rfl Tryz.ntmps181 (by simp) (by simp) ?_
  by_cases k1 : kd = 1
  · subst k1
    rw [if_pos rfl]
    have cC := c_cloneVal (row ++ [⟨d1, d2, d3⟩]) (by simp; omega)
    (conv => whnf); repeat' (first
    | (refine And.intro ?_ ?_ <;> ((try intro h) <;> (try simp only [Bool.not_true, Bool.not_false, decide_eq_true_eq, decide_eq_false_iff_not, Int.not_lt, Int.not_le, gt_iff_lt, ge_iff_le] at h) <;> first | exact absurd h Bool.false_ne_true | exact absurd h.symm Bool.false_ne_true | conv => whnf))
    | (refine VL.drawS hTb hMix (by kernel_rfl) (by kernel_rfl) (by kernel_rfl) ?_; conv => whnf)
    | (refine Need.mk ?_; kernel_rfl) | (refine Need.mk ⟨rfl, ?_⟩; decide)
    | (refine VR.fun hTb rfl rfl (o_funN (c0) false [] (fun h => by cases h) (by simp) rfl rfl rfl rfl rfl ⟨rfl, rfl, rfl, rfl⟩ rfl rfl) ?_; conv => whnf)
    | (refine DT.fun hTb rfl (o_funN (c0) false [] (fun h => by cases h) (by simp) rfl rfl rfl rfl rfl ⟨rfl, rfl, rfl, rfl⟩ rfl rfl) rfl ?_; conv => whnf)
    | (refine VR.pure hTb rfl rfl (o_purN (cA) rfl rfl rfl ⟨rfl, rfl, rfl, rfl⟩ rfl) ?_; conv => whnf)
    | (refine DT.pure hTb rfl (o_purN (cA) rfl rfl rfl ⟨rfl, rfl, rfl, rfl⟩ rfl) ?_; conv => whnf)
    | (refine VR.opk hTb rfl rfl (o_app1 (q := 124) (a := ⟨_, _, _⟩) hTb rfl rfl rfl rfl rfl rfl rfl rfl rfl rfl rfl rfl (by omega) (by show _ * 32 ≤ _; omega) (by unfold maxLen; omega)) ?_; conv => whnf)
    | (refine DT.opk hTb rfl (o_app1 (q := 124) (a := ⟨_, _, _⟩) hTb rfl rfl rfl rfl rfl rfl rfl rfl rfl rfl rfl rfl (by omega) (by show _ * 32 ≤ _; omega) (by unfold maxLen; omega)) ?_; conv => whnf)
    | (refine VR.fun hTb rfl rfl (o_funN (cC) true [] (fun _ => grNewVal _ _) (by simp) rfl rfl rfl rfl rfl ⟨rfl, rfl, rfl, rfl⟩ ?_ rfl) ?_; exact congrArg (fun s => [s]) (brwG (by simp)); conv => whnf)
    | (refine DT.fun hTb rfl (o_funN (cC) true [] (fun _ => grNewVal _ _) (by simp) rfl rfl rfl rfl rfl ⟨rfl, rfl, rfl, rfl⟩ ?_ rfl) rfl ?_; exact congrArg (fun s => [s]) (brwG (by simp)); conv => whnf))
    exact endW [1184] rfl rfl rfl rfl rfl (LeS.refl _) rfl rfl
  rw [if_neg k1]
  by_cases k2 : kd = 2
  · subst k2
    rw [if_pos rfl]
    obtain ⟨j, hj, hn⟩ := hat (.inl rfl)
    rw [hn] at cA ⊢
    rw [Int.toNat_natCast]
    have ew : IntKind.i64.wrap ((j : Int) + 1) = ((j + 1 : Nat) : Int) := by rw [IntKind.wrap_i64]; omega
    have cD := c_DeleteVal row j hj (by omega)
    have hlen := List.length_eraseIdx_le row j
    have cC := c_cloneVal (row.eraseIdx j) (by omega)
    (conv => whnf); repeat' (first
    | (refine And.intro ?_ ?_ <;> ((try intro h) <;> (try simp only [Bool.not_true, Bool.not_false, decide_eq_true_eq, decide_eq_false_iff_not, Int.not_lt, Int.not_le, gt_iff_lt, ge_iff_le] at h) <;> first | exact absurd h Bool.false_ne_true | exact absurd h.symm Bool.false_ne_true | conv => whnf))
    | (refine VL.drawS hTb hMix (by kernel_rfl) (by kernel_rfl) (by kernel_rfl) ?_; conv => whnf)
    | (refine Need.mk ?_; kernel_rfl) | (refine Need.mk ⟨rfl, ?_⟩; decide)
    | (refine VR.fun hTb rfl rfl (o_funN (c0) false [] (fun h => by cases h) (by simp) rfl rfl rfl rfl rfl ⟨rfl, rfl, rfl, rfl⟩ rfl rfl) ?_; conv => whnf)
    | (refine DT.fun hTb rfl (o_funN (c0) false [] (fun h => by cases h) (by simp) rfl rfl rfl rfl rfl ⟨rfl, rfl, rfl, rfl⟩ rfl rfl) rfl ?_; conv => whnf)
    | (refine VR.pure hTb rfl rfl (o_purN (cA) rfl rfl rfl ⟨rfl, rfl, rfl, rfl⟩ rfl) ?_; conv => whnf)
    | (refine DT.pure hTb rfl (o_purN (cA) rfl rfl rfl ⟨rfl, rfl, rfl, rfl⟩ rfl) ?_; conv => whnf)
    | (refine VR.fun hTb rfl rfl (o_funN cD false [1040] (fun h => by cases h) (by simp) rfl rfl rfl rfl rfl ⟨rfl, rfl, rfl, rfl⟩ ?_ rfl) ?_; exact congrArg (fun x => [Slot.one (.own 0 0 row.length), iS j, .one (.g (.int .i64 x))]) ew; conv => whnf)
    | (refine VR.fun hTb rfl rfl (o_funN (cC) true [] (fun _ => grNewVal _ _) (by simp) rfl rfl rfl rfl rfl ⟨rfl, rfl, rfl, rfl⟩ ?_ rfl) ?_; exact congrArg (fun s => [s]) (brwEV hj _); conv => whnf)
    | (refine DT.fun hTb rfl (o_funN (cC) true [] (fun _ => grNewVal _ _) (by simp) rfl rfl rfl rfl rfl ⟨rfl, rfl, rfl, rfl⟩ ?_ rfl) rfl ?_; exact congrArg (fun s => [s]) (brwEV hj _); conv => whnf))
    exact endW [1184] rfl rfl rfl rfl rfl (LeS.refl _) rfl rfl
  rw [if_neg k2]
  by_cases k4 : kd = 4
  · subst k4
    rw [if_pos rfl]
    obtain ⟨j, hj, hn⟩ := hat (.inr rfl)
    rw [hn] at cA ⊢
    rw [Int.toNat_natCast]
    have eg : row.getD j ⟨0, 0, ⟨#[]⟩⟩ = row[j] := by simp [List.getD, hj]
    rw [eg]
    have hmj : row[j].md := hrow _ (List.getElem_mem hj)
    have hrw : row[0 + ((j : Nat) : Int).toNat]? = some row[j] := by rw [Int.toNat_natCast, Nat.zero_add, List.getElem?_eq_getElem hj]
    have hset : ∀ v : Val, row.set j v = row.set (0 + ((j : Nat) : Int).toNat) v := fun v => by rw [Int.toNat_natCast, Nat.zero_add]
    generalize row[j] = vj at hrw hmj
    obtain ⟨x1, x2, x3⟩ := vj
    have cV := c_implValAs x1 x2 x3 ck (by have : x3.size ≤ 1048576 := hmj; omega)
    obtain ⟨⟨y1, y2, y3⟩, hy⟩ : ∃ y, valAs ⟨x1, x2, x3⟩ ck = y := ⟨_, rfl⟩
    rw [hy] at cV ⊢
    rw [hset]
    have cC := c_cloneVal (row.set (0 + ((j : Nat) : Int).toNat) ⟨y1, y2, y3⟩) (by simp; omega)
    (conv => whnf); repeat' (first
    | (refine And.intro ?_ ?_ <;> ((try intro h) <;> (try simp only [Bool.not_true, Bool.not_false, decide_eq_true_eq, decide_eq_false_iff_not, Int.not_lt, Int.not_le, gt_iff_lt, ge_iff_le] at h) <;> first | exact absurd h Bool.false_ne_true | exact absurd h.symm Bool.false_ne_true | conv => whnf))
    | (refine VL.drawS hTb hMix (by kernel_rfl) (by kernel_rfl) (by kernel_rfl) ?_; conv => whnf)
    | (refine Need.mk ?_; kernel_rfl) | (refine Need.mk ⟨rfl, ?_⟩; decide)
    | (refine VR.fun hTb rfl rfl (o_funN (c0) false [] (fun h => by cases h) (by simp) rfl rfl rfl rfl rfl ⟨rfl, rfl, rfl, rfl⟩ rfl rfl) ?_; conv => whnf)
    | (refine DT.fun hTb rfl (o_funN (c0) false [] (fun h => by cases h) (by simp) rfl rfl rfl rfl rfl ⟨rfl, rfl, rfl, rfl⟩ rfl rfl) rfl ?_; conv => whnf)
    | (refine VR.pure hTb rfl rfl (o_purN (cA) rfl rfl rfl ⟨rfl, rfl, rfl, rfl⟩ rfl) ?_; conv => whnf)
    | (refine DT.pure hTb rfl (o_purN (cA) rfl rfl rfl ⟨rfl, rfl, rfl, rfl⟩ rfl) ?_; conv => whnf)
    | (refine Need.mk ?_; exact ⟨rfl, by omega, by omega⟩)
    | (refine VR.op hTb rfl rfl (o_loadM hTb rfl rfl rfl rfl (hrw) ⟨by decide, by decide⟩) rfl ?_; conv => whnf)
    | (refine DT.op hTb rfl (o_loadM hTb rfl rfl rfl rfl (hrw) ⟨by decide, by decide⟩) rfl ?_; conv => whnf)
    | (refine VR.pure hTb rfl rfl (o_purN (cV) rfl rfl rfl ⟨rfl, rfl, rfl, rfl⟩ rfl) ?_; conv => whnf)
    | (refine DT.pure hTb rfl (o_purN (cV) rfl rfl rfl ⟨rfl, rfl, rfl, rfl⟩ rfl) ?_; conv => whnf)
    | (refine VR.op hTb rfl rfl (o_storeM hTb rfl rfl rfl rfl rfl (hrw) rfl rfl rfl ⟨rfl, by decide⟩ (c' := ⟨_, _, _⟩) rfl) rfl ?_; conv => whnf)
    | (refine DT.op hTb rfl (o_storeM hTb rfl rfl rfl rfl rfl (hrw) rfl rfl rfl ⟨rfl, by decide⟩ (c' := ⟨_, _, _⟩) rfl) rfl ?_; conv => whnf)
    | (refine VR.fun hTb rfl rfl (o_funN (cC) true [] (fun _ => grNewVal _ _) (by simp) rfl rfl rfl rfl rfl ⟨rfl, rfl, rfl, rfl⟩ ?_ rfl) ?_; exact congrArg (fun s => [s]) (brwG (by simp)); conv => whnf)
    | (refine DT.fun hTb rfl (o_funN (cC) true [] (fun _ => grNewVal _ _) (by simp) rfl rfl rfl rfl rfl ⟨rfl, rfl, rfl, rfl⟩ ?_ rfl) rfl ?_; exact congrArg (fun s => [s]) (brwG (by simp)); conv => whnf))
    exact endW [1184] rfl rfl rfl rfl rfl (LeS.refl _) rfl rfl
  rw [if_neg k4]
  (conv => whnf); repeat' (first
    | (exact absurd (beq_iff_eq.1 h) k1)
    | (exact absurd (beq_iff_eq.1 h) k2)
    | (exact absurd (beq_iff_eq.1 h) k4)
    | (refine And.intro ?_ ?_ <;> ((try intro h) <;> (try simp only [Bool.not_true, Bool.not_false, decide_eq_true_eq, decide_eq_false_iff_not, Int.not_lt, Int.not_le, gt_iff_lt, ge_iff_le] at h) <;> first | exact absurd h Bool.false_ne_true | exact absurd h.symm Bool.false_ne_true | conv => whnf))
    | (refine VL.drawS hTb hMix (by kernel_rfl) (by kernel_rfl) (by kernel_rfl) ?_; conv => whnf)
    | (refine Need.mk ?_; kernel_rfl) | (refine Need.mk ⟨rfl, ?_⟩; decide)
    | (refine VR.fun hTb rfl rfl (o_funN (c0) false [] (fun h => by cases h) (by simp) rfl rfl rfl rfl rfl ⟨rfl, rfl, rfl, rfl⟩ rfl rfl) ?_; conv => whnf)
    | (refine DT.fun hTb rfl (o_funN (c0) false [] (fun h => by cases h) (by simp) rfl rfl rfl rfl rfl ⟨rfl, rfl, rfl, rfl⟩ rfl rfl) rfl ?_; conv => whnf)
    | (refine VR.pure hTb rfl rfl (o_purN (cA) rfl rfl rfl ⟨rfl, rfl, rfl, rfl⟩ rfl) ?_; conv => whnf)
    | (refine DT.pure hTb rfl (o_purN (cA) rfl rfl rfl ⟨rfl, rfl, rfl, rfl⟩ rfl) ?_; conv => whnf)
    | (refine VR.fun hTb rfl rfl (o_funN (c0) true [] (fun _ => grNewVal _ _) (by simp) rfl rfl rfl rfl rfl ⟨rfl, rfl, rfl, rfl⟩ ?_ rfl) ?_; exact congrArg (fun s => [s]) brw; conv => whnf)
    | (refine DT.fun hTb rfl (o_funN (c0) true [] (fun _ => grNewVal _ _) (by simp) rfl rfl rfl rfl rfl ⟨rfl, rfl, rfl, rfl⟩ ?_ rfl) rfl ?_; exact congrArg (fun s => [s]) brw; conv => whnf))
  exact endW [1184] rfl rfl rfl rfl rfl (LeS.refl _) rfl rfl
theorem c_l2Row (s : List Col) (c : Change) (row : List Val) (hl : s.length ≤ 1900000) (hr : row.length ≤ 1900000) (hs : mdCols s) (hrow : mdVals row) (hat : chAt s c row.length) :
    CallsV Tryz.prog 184 [colsI s, .agg (encChange c), valsI row] [] (funQ (.one (.own 0 0 (rwCh s c row).length)) [] [.arr 37 3 ((rwCh s c row).map encVal)]) := by
  obtain ⟨kd, nm, nw, ⟨cn, ck, c1, c2, ⟨d1, d2, d3⟩⟩⟩ := c
  have cA := c_l2At s nm (by unfold maxLen; omega)
  simp only [chAt] at hat
  unfold rwCh
  simp only
  refine funF_walk hTb Tryz.func184 rfl rfl Tryz.ntmps184 (by simp) (by simp) ?_
  by_cases k1 : kd = 1
  · subst k1
    rw [if_pos rfl]
    (conv => whnf); repeat' (first
    | (refine And.intro ?_ ?_ <;> ((try intro h) <;> (try simp only [Bool.not_true, Bool.not_false, decide_eq_true_eq, decide_eq_false_iff_not, Int.not_lt, Int.not_le, gt_iff_lt, ge_iff_le] at h) <;> first | exact absurd h Bool.false_ne_true | exact absurd h.symm Bool.false_ne_true | conv => whnf))
    | (refine VL.drawS hTb hMix (by kernel_rfl) (by kernel_rfl) (by kernel_rfl) ?_; conv => whnf)
    | (refine Need.mk ?_; kernel_rfl) | (refine Need.mk ⟨rfl, ?_⟩; decide)
    | (refine VR.pure hTb rfl rfl (o_purN (cA) rfl rfl rfl ⟨rfl, rfl, rfl, rfl⟩ rfl) ?_; conv => whnf)
    | (refine DT.pure hTb rfl (o_purN (cA) rfl rfl rfl ⟨rfl, rfl, rfl, rfl⟩ rfl) ?_; conv => whnf)
    | (refine VR.opk hTb rfl rfl (o_app0 (f := encVal) (m := row) (q := 115) hTb rfl rfl rfl rfl rfl rfl rfl rfl rfl rfl (by omega) (by show _ * 32 ≤ _; omega) (by unfold maxLen; omega)) ?_; conv => whnf)
    | (refine DT.opk hTb rfl (o_app0 (f := encVal) (m := row) (q := 115) hTb rfl rfl rfl rfl rfl rfl rfl rfl rfl rfl (by omega) (by show _ * 32 ≤ _; omega) (by unfold maxLen; omega)) ?_; conv => whnf)
    | (refine VR.opk hTb rfl rfl (o_app1 (q := 125) (a := ⟨_, _, _⟩) hTb rfl rfl rfl rfl rfl rfl rfl rfl rfl rfl rfl rfl (by omega) (by show _ * 32 ≤ _; omega) (by unfold maxLen; omega)) ?_; conv => whnf)
    | (refine DT.opk hTb rfl (o_app1 (q := 125) (a := ⟨_, _, _⟩) hTb rfl rfl rfl rfl rfl rfl rfl rfl rfl rfl rfl rfl (by omega) (by show _ * 32 ≤ _; omega) (by unfold maxLen; omega)) ?_; conv => whnf))
    exact endW [125] rfl rfl rfl rfl rfl (LeS.of_eq (congrArg (fun n => Slot.one (.own 0 0 n)) (by simp))) rfl rfl
  rw [if_neg k1]
  by_cases k2 : kd = 2
  · subst k2
    rw [if_pos rfl]
    obtain ⟨j, hj, hn⟩ := hat (.inl rfl)
    rw [hn] at cA ⊢
    rw [Int.toNat_natCast]
    have ew : IntKind.i64.wrap ((j : Int) + 1) = ((j + 1 : Nat) : Int) := by rw [IntKind.wrap_i64]; omega
    have e1 : (row.take j).length = j := by simp; omega
    have e2 : (row.drop (j + 1)).length = row.length - (j + 1) := by simp
    have el : (row.eraseIdx j).length = row.length - 1 := by rw [List.length_eraseIdx, if_pos hj]
    (conv => whnf); repeat' (first
    | (refine And.intro ?_ ?_ <;> ((try intro h) <;> (try simp only [Bool.not_true, Bool.not_false, decide_eq_true_eq, decide_eq_false_iff_not, Int.not_lt, Int.not_le, gt_iff_lt, ge_iff_le] at h) <;> first | exact absurd h Bool.false_ne_true | exact absurd h.symm Bool.false_ne_true | conv => whnf))
    | (refine VL.drawS hTb hMix (by kernel_rfl) (by kernel_rfl) (by kernel_rfl) ?_; conv => whnf)
    | (refine Need.mk ?_; kernel_rfl) | (refine Need.mk ⟨rfl, ?_⟩; decide)
    | (refine VR.pure hTb rfl rfl (o_purN (cA) rfl rfl rfl ⟨rfl, rfl, rfl, rfl⟩ rfl) ?_; conv => whnf)
    | (refine DT.pure hTb rfl (o_purN (cA) rfl rfl rfl ⟨rfl, rfl, rfl, rfl⟩ rfl) ?_; conv => whnf)
    | (refine VR.opk hTb rfl rfl (o_app0 (f := encVal) (m := row) (q := 115) hTb rfl rfl rfl rfl rfl rfl rfl rfl rfl rfl (by omega) (by show _ * 32 ≤ _; omega) (by unfold maxLen; omega)) ?_; conv => whnf)
    | (refine DT.opk hTb rfl (o_app0 (f := encVal) (m := row) (q := 115) hTb rfl rfl rfl rfl rfl rfl rfl rfl rfl rfl (by omega) (by show _ * 32 ≤ _; omega) (by unfold maxLen; omega)) ?_; conv => whnf)
    | (refine DT.op hTb rfl (o_slice_imm (n1 := 0) (n2 := j) (rows' := (row.take j).map encVal) hTb rfl rfl rfl rfl rfl rfl bnd_none (bnd_some rfl) (Nat.zero_le _) (by simp; omega) (by rw [List.drop_zero, Nat.sub_zero, List.map_take])) rfl ?_; conv => whnf)
    | (refine DT.op hTb rfl (o_slice_imm (n1 := j + 1) (n2 := (row.map encVal).length) (rows' := (row.drop (j + 1)).map encVal) hTb rfl rfl rfl rfl rfl rfl (bnd_wr rfl ew) bnd_none (by simp; omega) (by simp) (by rw [← List.map_drop]; exact List.take_of_length_le (by simp))) rfl ?_; conv => whnf)
    | (refine VR.opk hTb rfl rfl (o_app0 (f := encVal) (m := (row.take j)) (q := 132) hTb rfl rfl rfl rfl rfl rfl rfl rfl rfl rfl (by omega) (by show _ * 32 ≤ _; omega) (by unfold maxLen; omega)) ?_; conv => whnf)
    | (refine DT.opk hTb rfl (o_app0 (f := encVal) (m := (row.take j)) (q := 132) hTb rfl rfl rfl rfl rfl rfl rfl rfl rfl rfl (by omega) (by show _ * 32 ≤ _; omega) (by unfold maxLen; omega)) ?_; conv => whnf)
    | (refine DT.opk hTb rfl (o_appN (f := encVal) (l := row.take j) (m := row.drop (j + 1)) (q := 137) hTb rfl rfl rfl rfl rfl rfl rfl rfl rfl rfl rfl (by omega) (by show _ * 32 ≤ _; omega) (by unfold maxLen; omega)) ?_; conv => whnf))
    exact endW [137] rfl rfl rfl rfl rfl (LeS.of_eq (congrArg (fun n => Slot.one (.own 0 0 n)) (by rw [e1, e2, el]; omega))) rfl (congrArg (fun r => [Ob.arr 37 3 r]) (by rw [List.eraseIdx_eq_take_drop_succ]))
  rw [if_neg k2]
  by_cases k4 : kd = 4
  · subst k4
    rw [if_pos rfl]
    obtain ⟨j, hj, hn⟩ := hat (.inr rfl)
    rw [hn] at cA ⊢
    rw [Int.toNat_natCast]
    have eg : row.getD j ⟨0, 0, ⟨#[]⟩⟩ = row[j] := by simp [List.getD, hj]
    rw [eg]
    have hmj : row[j].md := hrow _ (List.getElem_mem hj)
    have hrw : row[0 + ((j : Nat) : Int).toNat]? = some row[j] := by rw [Int.toNat_natCast, Nat.zero_add, List.getElem?_eq_getElem hj]
    have hrI : (row.map encVal)[((j : Nat) : Int).toNat]? = some (encVal row[j]) := by rw [Int.toNat_natCast, List.getElem?_map, List.getElem?_eq_getElem hj]; rfl
    have hset : ∀ v : Val, row.set j v = row.set (0 + ((j : Nat) : Int).toNat) v := fun v => by rw [Int.toNat_natCast, Nat.zero_add]
    generalize row[j] = vj at hrw hmj hrI
    obtain ⟨x1, x2, x3⟩ := vj
    have cV := c_specValAs x1 x2 x3 ck (by have : x3.size ≤ 1048576 := hmj; unfold maxLen; omega)
    obtain ⟨⟨y1, y2, y3⟩, hy⟩ : ∃ y, valAs ⟨x1, x2, x3⟩ ck = y := ⟨_, rfl⟩
    rw [hy] at cV ⊢
    rw [hset]
    (conv => whnf); repeat' (first
    | (refine And.intro ?_ ?_ <;> ((try intro h) <;> (try simp only [Bool.not_true, Bool.not_false, decide_eq_true_eq, decide_eq_false_iff_not, Int.not_lt, Int.not_le, gt_iff_lt, ge_iff_le] at h) <;> first | exact absurd h Bool.false_ne_true | exact absurd h.symm Bool.false_ne_true | conv => whnf))
    | (refine VL.drawS hTb hMix (by kernel_rfl) (by kernel_rfl) (by kernel_rfl) ?_; conv => whnf)
    | (refine Need.mk ?_; kernel_rfl) | (refine Need.mk ⟨rfl, ?_⟩; decide)
    | (refine VR.pure hTb rfl rfl (o_purN (cA) rfl rfl rfl ⟨rfl, rfl, rfl, rfl⟩ rfl) ?_; conv => whnf)
    | (refine DT.pure hTb rfl (o_purN (cA) rfl rfl rfl ⟨rfl, rfl, rfl, rfl⟩ rfl) ?_; conv => whnf)
    | (refine VR.opk hTb rfl rfl (o_app0 (f := encVal) (m := row) (q := 115) hTb rfl rfl rfl rfl rfl rfl rfl rfl rfl rfl (by omega) (by show _ * 32 ≤ _; omega) (by unfold maxLen; omega)) ?_; conv => whnf)
    | (refine DT.opk hTb rfl (o_app0 (f := encVal) (m := row) (q := 115) hTb rfl rfl rfl rfl rfl rfl rfl rfl rfl rfl (by omega) (by show _ * 32 ≤ _; omega) (by unfold maxLen; omega)) ?_; conv => whnf)
    | (refine VR.op hTb rfl rfl (o_index_imm hTb rfl rfl rfl rfl rfl rfl rfl (by omega) (hrI)) rfl ?_; conv => whnf)
    | (refine DT.op hTb rfl (o_index_imm hTb rfl rfl rfl rfl rfl rfl rfl (by omega) (hrI)) rfl ?_; conv => whnf)
    | (refine Need.mk ?_; exact ⟨rfl, by omega, by omega⟩)
    | (refine VR.pure hTb rfl rfl (o_purN (cV) rfl rfl rfl ⟨rfl, rfl, rfl, rfl⟩ rfl) ?_; conv => whnf)
    | (refine DT.pure hTb rfl (o_purN (cV) rfl rfl rfl ⟨rfl, rfl, rfl, rfl⟩ rfl) ?_; conv => whnf)
    | (refine VR.op hTb rfl rfl (o_storeM hTb rfl rfl rfl rfl rfl (hrw) rfl rfl rfl ⟨rfl, by decide⟩ (c' := ⟨_, _, _⟩) rfl) rfl ?_; conv => whnf)
    | (refine DT.op hTb rfl (o_storeM hTb rfl rfl rfl rfl rfl (hrw) rfl rfl rfl ⟨rfl, by decide⟩ (c' := ⟨_, _, _⟩) rfl) rfl ?_; conv => whnf))
    exact endW [115] rfl rfl rfl rfl rfl (LeS.of_eq (congrArg (fun n => Slot.one (.own 0 0 n)) (by simp))) rfl rfl
  rw [if_neg k4]
  (conv => whnf); repeat' (first
    | (exact absurd (beq_iff_eq.1 h) k1)
    | (exact absurd (beq_iff_eq.1 h) k2)
    | (exact absurd (beq_iff_eq.1 h) k4)
    | (refine And.intro ?_ ?_ <;> ((try intro h) <;> (try simp only [Bool.not_true, Bool.not_false, decide_eq_true_eq, decide_eq_false_iff_not, Int.not_lt, Int.not_le, gt_iff_lt, ge_iff_le] at h) <;> first | exact absurd h Bool.false_ne_true | exact absurd h.symm Bool.false_ne_true | conv => whnf))
    | (refine VL.drawS hTb hMix (by kernel_rfl) (by kernel_rfl) (by kernel_rfl) ?_; conv => whnf)
    | (refine Need.mk ?_; kernel_rfl) | (refine Need.mk ⟨rfl, ?_⟩; decide)
    | (refine VR.pure hTb rfl rfl (o_purN (cA) rfl rfl rfl ⟨rfl, rfl, rfl, rfl⟩ rfl) ?_; conv => whnf)
    | (refine DT.pure hTb rfl (o_purN (cA) rfl rfl rfl ⟨rfl, rfl, rfl, rfl⟩ rfl) ?_; conv => whnf)
    | (refine VR.opk hTb rfl rfl (o_app0 (f := encVal) (m := row) (q := 115) hTb rfl rfl rfl rfl rfl rfl rfl rfl rfl rfl (by omega) (by show _ * 32 ≤ _; omega) (by unfold maxLen; omega)) ?_; conv => whnf)
    | (refine DT.opk hTb rfl (o_app0 (f := encVal) (m := row) (q := 115) hTb rfl rfl rfl rfl rfl rfl rfl rfl rfl rfl (by omega) (by show _ * 32 ≤ _; omega) (by unfold maxLen; omega)) ?_; conv => whnf))
  exact endW [115] rfl rfl rfl rfl rfl (LeS.refl _) rfl rfl
end Go.Vl

namespace Go.Vl
open Go Go.RowKit Go.Proofs
set_option maxRecDepth 100000
set_option linter.unusedSimpArgs false
set_option linter.unusedVariables false
set_option linter.unnecessarySimpa false
set_option maxHeartbeats 4000000

theorem wk_freeze (n : Nat) {L : LS} (q : Nat) {E sz : Nat} {rows : List (List Leaf)} (hq : L.st.obj q = some (.arr E sz rows)) : Wk n L.st (L.freeze q sz rows).st := by
  rw [LS.st_freeze]; exact fun C B a w hn hR => ⟨B, hR.freeze hq⟩
theorem shDo_at {s : List Col} {c : Change} (h : (shDo s c).2 = true) : chAt s c s.length := by
  obtain ⟨_, L, h1, _⟩ := shDo_ok h
  intro hk
  unfold chDo at h1
  split at h1; cases h1
  split at h1
  · omega
  split at h1; cases h1
  rename_i hn
  rcases nameAt_spec s c.name with ⟨h4, _⟩ | ⟨j, hj, h4, _⟩
  · omega
  · exact ⟨j, hj, h4⟩
theorem sdo_sh {s : List Col} {c : Change} (h : (sdo s c).2 = true) : shapeOk s = true ∧ (shDo s c).2 = true := by
  unfold sdo at h
  split at h
  · exact ⟨‹_›, h⟩
  · cases h
-- several changes
def chGo : List Col → List Change → Option (List Col)
  | s, [] => some s
  | s, c :: cs => if (shDo s c).2 = true then chGo (shDo s c).1 cs else none
def allS : Option (List Col) → List Col × Bool
  | some L => (L, true)
  | none => ([], false)
def mdChs (l : List Change) : Prop := ∀ x ∈ l, x.md
theorem chGo_step {s : List Col} {l : List Change} {i : Nat} (h : i < l.length) : chGo s (l.drop i) = if (shDo s l[i]).2 = true then chGo (shDo s l[i]).1 (l.drop (i + 1)) else none := by
  rw [List.drop_eq_getElem_cons h, chGo]
theorem chGo_end {s : List Col} {l : List Change} {i : Nat} (h : l.length ≤ i) : chGo s (l.drop i) = some s := by
  rw [List.drop_of_length_le h, chGo]
theorem grShS (x : List Col × Bool) : GrS (shS x) ∧ (∀ ob, some ob ∈ ([] : List (Option Ob)) → GrO ob) ∧ ∀ ob ∈ shN x, GrO ob := by
  refine ⟨?_, fun _ h => by simp at h, fun ob h => by simp at h; subst h; exact grCols _⟩
  intro y hy l hl
  simp at hy
  rcases hy with rfl | rfl <;> simp at hl <;> subst hl <;> rfl
theorem c_changes (s : List Col) (list : List Change) (hl : s.length + list.length ≤ 1900000) (hs : mdCols s) (hc : mdChs list) : CallsV Tryz.prog 81 [colsI s, changesI list] [] (funQ (shS (allS (chGo s list))) [] (shN (allS (chGo s list)))) := by
  refine funF_walk hTb Tryz.func81 rfl rfl Tryz.ntmps81 (by simp) (by simp) ?_
  have c0 := c_cloneCol s (by omega)
  (conv => whnf); repeat' (first
    | (refine And.intro ?_ ?_ <;> ((try intro h) <;> (try simp only [Bool.not_true, Bool.not_false, decide_eq_true_eq, decide_eq_false_iff_not, Int.not_lt, Int.not_le, gt_iff_lt, ge_iff_le] at h) <;> first | exact absurd h Bool.false_ne_true | exact absurd h.symm Bool.false_ne_true | conv => whnf))
    | (refine VL.drawS hTb hMix (by kernel_rfl) (by kernel_rfl) (by kernel_rfl) ?_; conv => whnf)
    | (refine Need.mk ?_; kernel_rfl) | (refine Need.mk ⟨rfl, ?_⟩; decide)
    | (refine VR.fun hTb rfl rfl (o_funN (c0) false [] (fun h => by cases h) (by simp) rfl rfl rfl rfl rfl ⟨rfl, rfl, rfl, rfl⟩ rfl rfl) ?_; conv => whnf)
    | (refine DT.fun hTb rfl (o_funN (c0) false [] (fun h => by cases h) (by simp) rfl rfl rfl rfl rfl ⟨rfl, rfl, rfl, rfl⟩ rfl rfl) rfl ?_; conv => whnf))
  refine VL.loopI hTb (α := Nat × List Col) (fun x => x.1 ≤ list.length ∧ chGo s list = chGo x.2 (list.drop x.1) ∧ mdCols x.2 ∧ x.2.length ≤ s.length + x.1) (fun x => ⟨[(6, .one (.own 1048 0 x.2.length)), (13, changesI list), (14, iS ((list.map encChange).length : Nat)), (15, iS x.1)], [(1048, .arr 39 7 (x.2.map encCol))], []⟩) (fun x => list.length - x.1) (0, s) ⟨Nat.zero_le _, rfl, hs, by simp⟩
    (wk_to [(1048, 1048)] rfl rfl rfl ⟨rfl, rfl, rfl, rfl, trivial⟩ ⟨rfl, ⟨_, rfl, rfl⟩, trivial⟩) (fun x hx => ?_)
  obtain ⟨i, out⟩ := x
  obtain ⟨hi, hf, hm, hn⟩ := hx
  simp only at hi hf hm hn
  (conv => whnf)
  refine And.intro (fun h2 => ?_) (fun h2 => ?_)
  · have hlt : i < list.length := by simpa using h2
    have hrow := rowChange hlt
    have hst := chGo_step (s := out) hlt
    have cX := c_change out list[i] (by omega) hm (hc _ (List.getElem_mem hlt))
    have hm2 := shDo_md hm (hc _ (List.getElem_mem hlt))
    have hn2 := @shDo_len out list[i]
    generalize list[i] = ci at hrow hst cX hm2 hn2
    obtain ⟨kd, nm, nw, ⟨cn, ck, k1, k2, ⟨d1, d2, d3⟩⟩⟩ := ci
    generalize shDo out ⟨kd, nm, nw, ⟨cn, ck, k1, k2, ⟨d1, d2, d3⟩⟩⟩ = y at cX hst hm2 hn2
    obtain ⟨y1, b⟩ := y
    cases b
    · rw [hf, hst, if_neg (by simp)]
      (conv => whnf); repeat' (first
    | (refine And.intro ?_ ?_ <;> ((try intro h) <;> (try simp only [Bool.not_true, Bool.not_false, decide_eq_true_eq, decide_eq_false_iff_not, Int.not_lt, Int.not_le, gt_iff_lt, ge_iff_le] at h) <;> first | exact absurd h Bool.false_ne_true | exact absurd h.symm Bool.false_ne_true | conv => whnf))
    | (refine VL.drawS hTb hMix (by kernel_rfl) (by kernel_rfl) (by kernel_rfl) ?_; conv => whnf)
    | (refine Need.mk ?_; kernel_rfl) | (refine Need.mk ⟨rfl, ?_⟩; decide)
    | (refine VR.op hTb rfl rfl (o_index_imm hTb rfl rfl rfl rfl rfl rfl rfl (by omega) (hrow)) rfl ?_; conv => whnf)
    | (refine DT.op hTb rfl (o_index_imm hTb rfl rfl rfl rfl rfl rfl rfl (by omega) (hrow)) rfl ?_; conv => whnf)
    | (refine VR.fun hTb rfl rfl (o_funN (cX) true [] (fun _ => grShS _) (by simp) rfl rfl rfl rfl rfl ⟨rfl, rfl, rfl, rfl⟩ ?_ rfl) ?_; exact congrArg (fun s => [s, _]) brw; conv => whnf)
    | (refine DT.fun hTb rfl (o_funN (cX) true [] (fun _ => grShS _) (by simp) rfl rfl rfl rfl rfl ⟨rfl, rfl, rfl, rfl⟩ ?_ rfl) rfl ?_; exact congrArg (fun s => [s, _]) brw; conv => whnf))
      exact EndV.nil 4 104 7 39 rfl rfl (by decide) (endW [104] rfl rfl rfl rfl rfl (LeS.refl _) rfl rfl)
    · rw [if_pos rfl] at hst
      simp only at hst hm2 hn2
      (conv => whnf); repeat' (first
    | (refine And.intro ?_ ?_ <;> ((try intro h) <;> (try simp only [Bool.not_true, Bool.not_false, decide_eq_true_eq, decide_eq_false_iff_not, Int.not_lt, Int.not_le, gt_iff_lt, ge_iff_le] at h) <;> first | exact absurd h Bool.false_ne_true | exact absurd h.symm Bool.false_ne_true | conv => whnf))
    | (refine VL.drawS hTb hMix (by kernel_rfl) (by kernel_rfl) (by kernel_rfl) ?_; conv => whnf)
    | (refine Need.mk ?_; kernel_rfl) | (refine Need.mk ⟨rfl, ?_⟩; decide)
    | (refine VR.op hTb rfl rfl (o_index_imm hTb rfl rfl rfl rfl rfl rfl rfl (by omega) (hrow)) rfl ?_; conv => whnf)
    | (refine DT.op hTb rfl (o_index_imm hTb rfl rfl rfl rfl rfl rfl rfl (by omega) (hrow)) rfl ?_; conv => whnf)
    | (refine VR.fun hTb rfl rfl (o_funN (cX) true [] (fun _ => grShS _) (by simp) rfl rfl rfl rfl rfl ⟨rfl, rfl, rfl, rfl⟩ ?_ rfl) ?_; exact congrArg (fun s => [s, _]) brw; conv => whnf)
    | (refine DT.fun hTb rfl (o_funN (cX) true [] (fun _ => grShS _) (by simp) rfl rfl rfl rfl rfl ⟨rfl, rfl, rfl, rfl⟩ ?_ rfl) rfl ?_; exact congrArg (fun s => [s, _]) brw; conv => whnf))
      exact ⟨(i + 1, y1), ⟨hlt, hf.trans hst, hm2, (by show y1.length ≤ s.length + (i + 1); omega)⟩, by show _ - (i + 1) < _ - i; omega, wk_to [(1088, 1048)] rfl rfl rfl ⟨rfl, rfl, rfl, congrArg (fun x => Slot.one (.g (.int .i64 x))) (wrap64' (by unfold maxLen; omega)), trivial⟩ ⟨rfl, ⟨_, rfl, rfl⟩, trivial⟩⟩
  · have hge : list.length ≤ i := by simp at h2; omega
    rw [hf, chGo_end hge]
    (conv => whnf)
    exact endW [1048] rfl rfl rfl rfl rfl (LeS.refl _) rfl rfl
def shAll (s : List Col) (list : List Change) : List Col × Bool := if shapeOk s = true then allS (chGo s list) else ([], false)
theorem c_implShapeAll (s : List Col) (list : List Change) (hl : s.length + list.length ≤ 1900000) (hs : mdCols s) (hc : mdChs list) : CallsV Tryz.prog 79 [colsI s, changesI list] [] (funQ (shS (shAll s list)) [] (shN (shAll s list))) := by
  have c1 := c_implShapeOk s (by unfold maxLen; omega) hs.ok
  have c2 := c_changes s list hl hs hc
  unfold shAll
  obtain ⟨b, hb⟩ : ∃ b, shapeOk s = b := ⟨_, rfl⟩
  rw [hb] at c1 ⊢
  refine funF_walk hTb Tryz.func79 rfl rfl Tryz.ntmps79 (by simp) (by simp) ?_
  cases b
  · rw [if_neg (by simp)]
    (conv => whnf); repeat' (first
    | (refine And.intro ?_ ?_ <;> ((try intro h) <;> (try simp only [Bool.not_true, Bool.not_false, decide_eq_true_eq, decide_eq_false_iff_not, Int.not_lt, Int.not_le, gt_iff_lt, ge_iff_le] at h) <;> first | exact absurd h Bool.false_ne_true | exact absurd h.symm Bool.false_ne_true | conv => whnf))
    | (refine VL.drawS hTb hMix (by kernel_rfl) (by kernel_rfl) (by kernel_rfl) ?_; conv => whnf)
    | (refine Need.mk ?_; kernel_rfl) | (refine Need.mk ⟨rfl, ?_⟩; decide)
    | (refine VR.pure hTb rfl rfl (o_purN (c1) rfl rfl rfl ⟨rfl, rfl, rfl, rfl⟩ rfl) ?_; conv => whnf)
    | (refine DT.pure hTb rfl (o_purN (c1) rfl rfl rfl ⟨rfl, rfl, rfl, rfl⟩ rfl) ?_; conv => whnf))
    exact EndV.nil 4 104 7 39 rfl rfl (by decide) (endW [104] rfl rfl rfl rfl rfl (LeS.refl _) rfl rfl)
  · rw [if_pos rfl]
    generalize allS (chGo s list) = y at c2
    obtain ⟨y1, y2⟩ := y
    (conv => whnf); repeat' (first
    | (refine And.intro ?_ ?_ <;> ((try intro h) <;> (try simp only [Bool.not_true, Bool.not_false, decide_eq_true_eq, decide_eq_false_iff_not, Int.not_lt, Int.not_le, gt_iff_lt, ge_iff_le] at h) <;> first | exact absurd h Bool.false_ne_true | exact absurd h.symm Bool.false_ne_true | conv => whnf))
    | (refine VL.drawS hTb hMix (by kernel_rfl) (by kernel_rfl) (by kernel_rfl) ?_; conv => whnf)
    | (refine Need.mk ?_; kernel_rfl) | (refine Need.mk ⟨rfl, ?_⟩; decide)
    | (refine VR.pure hTb rfl rfl (o_purN (c1) rfl rfl rfl ⟨rfl, rfl, rfl, rfl⟩ rfl) ?_; conv => whnf)
    | (refine DT.pure hTb rfl (o_purN (c1) rfl rfl rfl ⟨rfl, rfl, rfl, rfl⟩ rfl) ?_; conv => whnf)
    | (refine VR.fun hTb rfl rfl (o_funN (c2) false [] (fun h => by cases h) (by simp) rfl rfl rfl rfl rfl ⟨rfl, rfl, rfl, rfl⟩ rfl rfl) ?_; conv => whnf)
    | (refine DT.fun hTb rfl (o_funN (c2) false [] (fun h => by cases h) (by simp) rfl rfl rfl rfl rfl ⟨rfl, rfl, rfl, rfl⟩ rfl rfl) rfl ?_; conv => whnf))
    exact endW [1044] rfl rfl rfl rfl rfl (LeS.refl _) rfl rfl
theorem c_specShapeAll (s : List Col) (list : List Change) (hl : s.length + list.length ≤ 1900000) (hs : mdCols s) (hc : mdChs list) : CallsV Tryz.prog 57 [colsI s, changesI list] [] (funQ (shS (shAll s list)) [] (shN (shAll s list))) := by
  have c1 := c_specShapeOk s (by unfold maxLen; omega) hs.ok
  unfold shAll
  obtain ⟨b, hb⟩ : ∃ b, shapeOk s = b := ⟨_, rfl⟩
  rw [hb] at c1 ⊢
  refine funF_walk hTb Tryz.func57 rfl rfl Tryz.ntmps57 (by simp) (by simp) ?_
  cases b
  · rw [if_neg (by simp)]
    (conv => whnf); repeat' (first
    | (refine And.intro ?_ ?_ <;> ((try intro h) <;> (try simp only [Bool.not_true, Bool.not_false, decide_eq_true_eq, decide_eq_false_iff_not, Int.not_lt, Int.not_le, gt_iff_lt, ge_iff_le] at h) <;> first | exact absurd h Bool.false_ne_true | exact absurd h.symm Bool.false_ne_true | conv => whnf))
    | (refine VL.drawS hTb hMix (by kernel_rfl) (by kernel_rfl) (by kernel_rfl) ?_; conv => whnf)
    | (refine Need.mk ?_; kernel_rfl) | (refine Need.mk ⟨rfl, ?_⟩; decide)
    | (refine VR.pure hTb rfl rfl (o_purN (c1) rfl rfl rfl ⟨rfl, rfl, rfl, rfl⟩ rfl) ?_; conv => whnf)
    | (refine DT.pure hTb rfl (o_purN (c1) rfl rfl rfl ⟨rfl, rfl, rfl, rfl⟩ rfl) ?_; conv => whnf))
    exact endW [112] rfl rfl rfl rfl rfl (LeS.refl _) rfl rfl
  rw [if_pos rfl]
  (conv => whnf); repeat' (first
    | (refine And.intro ?_ ?_ <;> ((try intro h) <;> (try simp only [Bool.not_true, Bool.not_false, decide_eq_true_eq, decide_eq_false_iff_not, Int.not_lt, Int.not_le, gt_iff_lt, ge_iff_le] at h) <;> first | exact absurd h Bool.false_ne_true | exact absurd h.symm Bool.false_ne_true | conv => whnf))
    | (refine VL.drawS hTb hMix (by kernel_rfl) (by kernel_rfl) (by kernel_rfl) ?_; conv => whnf)
    | (refine Need.mk ?_; kernel_rfl) | (refine Need.mk ⟨rfl, ?_⟩; decide)
    | (refine VR.pure hTb rfl rfl (o_purN (c1) rfl rfl rfl ⟨rfl, rfl, rfl, rfl⟩ rfl) ?_; conv => whnf)
    | (refine DT.pure hTb rfl (o_purN (c1) rfl rfl rfl ⟨rfl, rfl, rfl, rfl⟩ rfl) ?_; conv => whnf)
    | (refine VR.opk hTb rfl rfl (o_app0 (f := encCol) (m := s) (q := 115) hTb rfl rfl rfl rfl rfl rfl rfl rfl rfl rfl (by omega) (by show _ * 64 ≤ _; omega) (by unfold maxLen; omega)) ?_; conv => whnf)
    | (refine DT.opk hTb rfl (o_app0 (f := encCol) (m := s) (q := 115) hTb rfl rfl rfl rfl rfl rfl rfl rfl rfl rfl (by omega) (by show _ * 64 ≤ _; omega) (by unfold maxLen; omega)) ?_; conv => whnf))
  refine VL.loopI hTb (α := Nat × List Col) (fun x => x.1 ≤ list.length ∧ chGo s list = chGo x.2 (list.drop x.1) ∧ mdCols x.2 ∧ x.2.length ≤ s.length + x.1 ∧ shapeOk x.2 = true) (fun x => ⟨[(1, changesI list), (6, .one (.own 115 0 x.2.length)), (7, iS x.1)], [(115, .arr 39 7 (x.2.map encCol))], []⟩) (fun x => list.length - x.1) (0, s) ⟨Nat.zero_le _, rfl, hs, by simp, hb⟩
    (wk_to [(115, 115)] rfl rfl rfl ⟨rfl, rfl, rfl, trivial⟩ ⟨rfl, ⟨_, rfl, rfl⟩, trivial⟩) (fun x hx => ?_)
  obtain ⟨i, out⟩ := x
  obtain ⟨hi, hf, hm, hn, ho⟩ := hx
  simp only at hi hf hm hn ho
  (conv => whnf)
  refine And.intro (fun h2 => ?_) (fun h2 => ?_)
  · have hlt : i < list.length := by simpa using h2
    have hrow := rowChange hlt
    have hst := chGo_step (s := out) hlt
    have cX := c_specShapeDo out list[i] (by omega) hm (hc _ (List.getElem_mem hlt))
    have hsd : sdo out list[i] = shDo out list[i] := by unfold sdo; rw [if_pos ho]
    have hm2 := shDo_md hm (hc _ (List.getElem_mem hlt))
    have hn2 := @shDo_len out list[i]
    have ho2 := @shDo_ok out list[i]
    rw [hsd] at cX
    generalize list[i] = ci at hrow hst cX hm2 hn2 ho2
    obtain ⟨kd, nm, nw, ⟨cn, ck, k1, k2, ⟨d1, d2, d3⟩⟩⟩ := ci
    generalize shDo out ⟨kd, nm, nw, ⟨cn, ck, k1, k2, ⟨d1, d2, d3⟩⟩⟩ = y at cX hst hm2 hn2 ho2
    obtain ⟨y1, b⟩ := y
    cases b
    · rw [hf, hst, if_neg (by simp)]
      (conv => whnf); repeat' (first
    | (refine And.intro ?_ ?_ <;> ((try intro h) <;> (try simp only [Bool.not_true, Bool.not_false, decide_eq_true_eq, decide_eq_false_iff_not, Int.not_lt, Int.not_le, gt_iff_lt, ge_iff_le] at h) <;> first | exact absurd h Bool.false_ne_true | exact absurd h.symm Bool.false_ne_true | conv => whnf))
    | (refine VL.drawS hTb hMix (by kernel_rfl) (by kernel_rfl) (by kernel_rfl) ?_; conv => whnf)
    | (refine Need.mk ?_; kernel_rfl) | (refine Need.mk ⟨rfl, ?_⟩; decide)
    | (refine VR.op hTb rfl rfl (o_index_imm hTb rfl rfl rfl rfl rfl rfl rfl (by omega) (hrow)) rfl ?_; conv => whnf)
    | (refine DT.op hTb rfl (o_index_imm hTb rfl rfl rfl rfl rfl rfl rfl (by omega) (hrow)) rfl ?_; conv => whnf)
    | (refine VR.fun hTb rfl rfl (o_funN (cX) true [] (fun _ => grShS _) (by simp) rfl rfl rfl rfl rfl ⟨rfl, rfl, rfl, rfl⟩ ?_ rfl) ?_; exact congrArg (fun s => [s, _]) brw; conv => whnf)
    | (refine DT.fun hTb rfl (o_funN (cX) true [] (fun _ => grShS _) (by simp) rfl rfl rfl rfl rfl ⟨rfl, rfl, rfl, rfl⟩ ?_ rfl) rfl ?_; exact congrArg (fun s => [s, _]) brw; conv => whnf))
      exact endW [133] rfl rfl rfl rfl rfl (LeS.refl _) rfl rfl
    · rw [if_pos rfl] at hst
      simp only at hst hm2 hn2
      have ho3 := (ho2 rfl).1
      (conv => whnf); repeat' (first
    | (refine And.intro ?_ ?_ <;> ((try intro h) <;> (try simp only [Bool.not_true, Bool.not_false, decide_eq_true_eq, decide_eq_false_iff_not, Int.not_lt, Int.not_le, gt_iff_lt, ge_iff_le] at h) <;> first | exact absurd h Bool.false_ne_true | exact absurd h.symm Bool.false_ne_true | conv => whnf))
    | (refine VL.drawS hTb hMix (by kernel_rfl) (by kernel_rfl) (by kernel_rfl) ?_; conv => whnf)
    | (refine Need.mk ?_; kernel_rfl) | (refine Need.mk ⟨rfl, ?_⟩; decide)
    | (refine VR.op hTb rfl rfl (o_index_imm hTb rfl rfl rfl rfl rfl rfl rfl (by omega) (hrow)) rfl ?_; conv => whnf)
    | (refine DT.op hTb rfl (o_index_imm hTb rfl rfl rfl rfl rfl rfl rfl (by omega) (hrow)) rfl ?_; conv => whnf)
    | (refine VR.fun hTb rfl rfl (o_funN (cX) true [] (fun _ => grShS _) (by simp) rfl rfl rfl rfl rfl ⟨rfl, rfl, rfl, rfl⟩ ?_ rfl) ?_; exact congrArg (fun s => [s, _]) brw; conv => whnf)
    | (refine DT.fun hTb rfl (o_funN (cX) true [] (fun _ => grShS _) (by simp) rfl rfl rfl rfl rfl ⟨rfl, rfl, rfl, rfl⟩ ?_ rfl) rfl ?_; exact congrArg (fun s => [s, _]) brw; conv => whnf))
      exact ⟨(i + 1, y1), ⟨hlt, hf.trans hst, hm2, (by show y1.length ≤ s.length + (i + 1); omega), ho3⟩, by show _ - (i + 1) < _ - i; omega, wk_to [(1112, 115)] rfl rfl rfl ⟨rfl, rfl, congrArg (fun x => Slot.one (.g (.int .i64 x))) (wrap64' (by unfold maxLen; omega)), trivial⟩ ⟨rfl, ⟨_, rfl, rfl⟩, trivial⟩⟩
  · have hge : list.length ≤ i := by simp at h2; omega
    rw [hf, chGo_end hge]
    (conv => whnf)
    exact endW [115] rfl rfl rfl rfl rfl (LeS.refl _) rfl rfl
end Go.Vl

namespace Go.Vl
open Go Go.RowKit Go.Proofs
set_option maxRecDepth 100000
set_option linter.unusedSimpArgs false
set_option linter.unusedVariables false
set_option linter.unnecessarySimpa false
set_option maxHeartbeats 1000000

theorem tl_inj {a b : ByteArray} (h : a.toList = b.toList) : a = b := by
  rw [ByteArray.toList_eq, ByteArray.toList_eq] at h
  exact ByteArray.ext (Array.toList_inj.1 h)
theorem tl_beq {a b : ByteArray} : (a.toList == b.toList) = true ↔ a = b := ⟨fun h => tl_inj (by simpa using h), fun h => by rw [h]; simp⟩
theorem qV_refl (a : Val) : q_Val a a = true := by rw [q_Val_iff']; simp
theorem nameAt_some {l : List Col} {nm : ByteArray} (h : ¬ nameAt l nm < 0) : ∃ j, ∃ hj : j < l.length, nameAt l nm = (j : Int) ∧ l[j].name = nm := by
  rcases nameAt_spec l nm with ⟨h1, _⟩ | ⟨j, hj, h1, h2⟩
  · omega
  · exact ⟨j, hj, h1, tl_beq.1 h2⟩
theorem sdo_sd {s : List Col} {c : Change} (h : shapeOk s = true) : sdo s c = shDo s c := by unfold sdo; rw [if_pos h]
/-- What a change that is done does. -/
structure Done (s : List Col) (c : Change) (x : List Col) : Prop where
  hs : shapeOk s = true
  hx : shapeOk x = true
  n : namedB c = true
  d : chDo s c = some x
  w : (c.kind = 1 ∧ ¬ (c.col.need = true ∧ c.col.d.k = 0) ∧ x = s ++ [c.col]) ∨
      ∃ j, ∃ hj : j < s.length, s[j].name = c.name ∧ nameAt s c.name = (j : Int) ∧
        ((c.kind = 2 ∧ x = s.eraseIdx j) ∨ (c.kind = 3 ∧ x = s.set j (ccName s[j] c.new)) ∨ (c.kind = 4 ∧ c.col.kind ≠ s[j].kind ∧ x = s.set j (ccKind s[j] c.col.kind)))
theorem sdo_done {s x : List Col} {c : Change} (h : sdo s c = (x, true)) : Done s c x := by
  have h2 : (sdo s c).2 = true := by rw [h]
  obtain ⟨hs, hd⟩ := sdo_sh h2
  obtain ⟨hx, L, hc, e⟩ := shDo_ok hd
  rw [sdo_sd hs] at h
  rw [h] at hx e
  simp only at hx e
  subst e
  have hn : namedB c = true := by
    cases hn : namedB c with
    | true => rfl
    | false => unfold chDo at hc; rw [hn, if_pos rfl] at hc; cases hc
  refine ⟨hs, hx, hn, hc, ?_⟩
  have hk := namedB_kind hn
  unfold chDo at hc
  rw [hn, if_neg (by simp)] at hc
  by_cases k1 : c.kind = 1
  · rw [if_pos k1] at hc
    split at hc; cases hc
    rename_i hnd
    cases hc
    exact .inl ⟨k1, hnd, rfl⟩
  rw [if_neg k1] at hc
  split at hc; cases hc
  rename_i hj
  obtain ⟨j, hj, e1, e2⟩ := nameAt_some hj
  rw [e1, Int.toNat_natCast] at hc
  have eg : s.getD j (kCol 0) = s[j] := by simp [List.getD, hj]
  rw [eg] at hc
  refine .inr ⟨j, hj, e2, e1, ?_⟩
  split at hc
  · cases hc; exact .inl ⟨by assumption, rfl⟩
  rename_i k2
  split at hc
  · cases hc; exact .inr (.inl ⟨by assumption, rfl⟩)
  rename_i k3
  split at hc; cases hc
  rename_i hkk
  cases hc
  exact .inr (.inr ⟨by omega, hkk, rfl⟩)
theorem fzC (x : List Col) : ((x.map encCol).drop 0).take x.length = x.map encCol := by rw [List.drop_zero, List.take_of_length_le (by simp)]
theorem fzV (x : List Val) : ((x.map encVal).drop 0).take x.length = x.map encVal := by rw [List.drop_zero, List.take_of_length_le (by simp)]
end Go.Vl

namespace Go.Vl
open Go Go.RowKit Go.Proofs
set_option maxRecDepth 100000
set_option linter.unusedSimpArgs false
set_option linter.unusedVariables false
set_option linter.unnecessarySimpa false
set_option maxHeartbeats 4000000


-- plain
/-- What a change that is done does to a row. -/
theorem rwCh_eq {s x : List Col} {c : Change} {row : List Val} (D : Done s c x) : (c.kind = 1 ∧ x = s ++ [c.col] ∧ ¬ (c.col.need = true ∧ c.col.d.k = 0) ∧ rwCh s c row = row ++ [c.col.d]) ∨
    ∃ j, ∃ hj : j < s.length, s[j].name = c.name ∧ nameAt s c.name = (j : Int) ∧
      ((c.kind = 2 ∧ x = s.eraseIdx j ∧ rwCh s c row = row.eraseIdx j) ∨ (c.kind = 3 ∧ x = s.set j (ccName s[j] c.new) ∧ rwCh s c row = row) ∨
       (c.kind = 4 ∧ x = s.set j (ccKind s[j] c.col.kind) ∧ rwCh s c row = row.set j (valAs (row.getD j ⟨0, 0, ⟨#[]⟩⟩) c.col.kind))) := by
  rcases D.w with ⟨k, hnd, e⟩ | ⟨j, hj, en, ea, w⟩
  · exact .inl ⟨k, e, hnd, by unfold rwCh; rw [if_pos k]⟩
  · refine .inr ⟨j, hj, en, ea, ?_⟩
    rcases w with ⟨k, e⟩ | ⟨k, e⟩ | ⟨k, _, e⟩
    · exact .inl ⟨k, e, by unfold rwCh; rw [if_neg (by omega), if_pos k, ea, Int.toNat_natCast]⟩
    · exact .inr (.inl ⟨k, e, by unfold rwCh; rw [if_neg (by omega), if_neg (by omega), if_neg (by omega)]⟩)
    · exact .inr (.inr ⟨k, e, by unfold rwCh; rw [if_neg (by omega), if_neg (by omega), if_pos k, ea, Int.toNat_natCast]⟩)
theorem rw_len {s x : List Col} {c : Change} {row : List Val} (D : Done s c x) (h : row.length = s.length) : (rwCh s c row).length = x.length := by
  rcases rwCh_eq (row := row) D with ⟨_, e, _, e2⟩ | ⟨j, hj, _, _, ⟨_, e, e2⟩ | ⟨_, e, e2⟩ | ⟨_, e, e2⟩⟩
  · rw [e, e2]; simp [h]
  · rw [e, e2, List.length_eraseIdx, List.length_eraseIdx, h]
  · rw [e, e2]; simp [h]
  · rw [e, e2]; simp [h]
theorem rwCh_md {s : List Col} {c : Change} {row : List Val} (hc : c.md) (hr : mdVals row) : mdVals (rwCh s c row) := by
  unfold rwCh
  split
  · intro x hx
    rcases List.mem_append.1 hx with hx | hx
    · exact hr x hx
    · simp at hx; subst hx; exact hc.2.2.2
  split
  · exact fun x hx => hr x (List.mem_of_mem_eraseIdx hx)
  split
  · intro x hx
    rcases List.mem_or_eq_of_mem_set hx with hx | rfl
    · exact hr x hx
    · have := valAs_size (row.getD (nameAt s c.name).toNat ⟨0, 0, ⟨#[]⟩⟩) c.col.kind
      have h0 : (row.getD (nameAt s c.name).toNat ⟨0, 0, ⟨#[]⟩⟩).t.size ≤ 1048576 := by
        by_cases hi : (nameAt s c.name).toNat < row.length
        · have e : row.getD (nameAt s c.name).toNat ⟨0, 0, ⟨#[]⟩⟩ = row[(nameAt s c.name).toNat] := by simp [List.getD, hi]
          rw [e]; exact hr _ (List.getElem_mem hi)
        · have e : row.getD (nameAt s c.name).toNat ⟨0, 0, ⟨#[]⟩⟩ = ⟨0, 0, ⟨#[]⟩⟩ := by simp [List.getD, Nat.le_of_not_lt hi]
          rw [e]; show (⟨#[]⟩ : ByteArray).size ≤ 1048576; decide
      show (valAs _ _).t.size ≤ _
      omega
  · exact hr
end Go.Vl
