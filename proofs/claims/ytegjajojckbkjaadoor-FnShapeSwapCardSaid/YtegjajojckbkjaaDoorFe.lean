/- Contracts: columns behind a change, the reference's; a row behind a change, of both. -/
import Derived.Test.YtegjajojckbkjaaDoorFd
namespace Go.Vl
open Go Go.RowKit Go.Proofs
set_option maxRecDepth 100000
set_option linter.unusedSimpArgs false
set_option linter.unusedVariables false
set_option maxHeartbeats 4000000

theorem shapeOk_nil : shapeOk [] = false := by
  cases e : shapeOk [] with
  | false => rfl
  | true => have := shapeOk_len e; simp at this
theorem chDo_len {s : List Col} {c : Change} {L : List Col} (h : chDo s c = some L) : L.length ≤ s.length + 1 := by
  unfold chDo at h
  split at h; cases h
  split at h
  · split at h; cases h; cases h; simp
  split at h; cases h
  split at h
  · cases h; have := List.length_eraseIdx_le s (nameAt s c.name).toNat; omega
  split at h
  · cases h; simp
  split at h; cases h; cases h; simp
theorem chDo_md {s : List Col} {c : Change} {L : List Col} (hs : mdCols s) (hc : c.md) (h : chDo s c = some L) : mdCols L := by
  obtain ⟨h1, h2, h3⟩ := hc
  unfold chDo at h
  split at h; cases h
  split at h
  · split at h; cases h; cases h; exact hs.app h3
  split at h; cases h
  rename_i hn
  have hj : (nameAt s c.name).toNat < s.length := by
    rcases nameAt_spec s c.name with ⟨h4, _⟩ | ⟨j, hj, h4, _⟩ <;> omega
  split at h
  · cases h; exact hs.erase
  split at h
  · cases h; exact hs.set ⟨h2, (md_getD hs hj).2⟩
  split at h; cases h; cases h
  exact hs.set ⟨(md_getD hs hj).1, by have := valAs_size (s.getD (nameAt s c.name).toNat (kCol 0)).d c.col.kind; show (valAs _ _).t.size ≤ _; omega⟩
theorem okO_md {s : List Col} {o : Option (List Col)} (hs : mdCols s) (h : ∀ L, o = some L → mdCols L) : mdCols (okO s o).1 := by
  unfold okO
  cases o with
  | none => exact hs
  | some L => simp only; split; exact h L rfl; exact hs
theorem shDo_md {s : List Col} {c : Change} (hs : mdCols s) (hc : c.md) : mdCols (shDo s c).1 := okO_md hs fun _ h => chDo_md hs hc h
theorem okO_len {s : List Col} {o : Option (List Col)} (h : ∀ L, o = some L → L.length ≤ s.length + 1) : (okO s o).1.length ≤ s.length + 1 := by
  unfold okO
  cases o with
  | none => simp
  | some L => simp only; split; exact h L rfl; simp
theorem shDo_len {s : List Col} {c : Change} : (shDo s c).1.length ≤ s.length + 1 := okO_len fun _ h => chDo_len h
theorem shDo_ok {s : List Col} {c : Change} (h : (shDo s c).2 = true) : shapeOk (shDo s c).1 = true ∧ ∃ L, chDo s c = some L ∧ (shDo s c).1 = L := by
  unfold shDo okO at h ⊢
  cases e : chDo s c with
  | none => rw [e] at h; cases h
  | some L =>
    rw [e] at h
    simp only at h ⊢
    split at h
    · rename_i h1; rw [if_pos h1]; exact ⟨h1, L, rfl, rfl⟩
    · cases h
theorem sdo_md {s : List Col} {c : Change} (hs : mdCols s) (hc : c.md) : mdCols (sdo s c).1 := by
  unfold sdo; split; exact shDo_md hs hc; exact fun x hx => by cases hx
theorem sdo_len {s : List Col} {c : Change} : (sdo s c).1.length ≤ s.length + 1 := by
  unfold sdo; split; exact shDo_len; simp
theorem c_specShapeDo (s : List Col) (c : Change) (hl : s.length ≤ 1900000) (hs : mdCols s) (hc : c.md) : CallsV Tryd.prog 21 [colsI s, .agg (encChange c)] [] (funQ (shS (sdo s c)) [] (shN (sdo s c))) := by
  have c1 := c_specShapeOk s (by unfold maxLen; omega) hs.ok
  have c2 := c_l2Do s c hl hs hc
  have hlen := @chDo_len s c
  have hmd := fun L => @chDo_md s c L hs hc
  obtain ⟨kd, nm, nw, ⟨cn, ck, k1, k2, ⟨d1, d2, d3⟩⟩⟩ := c
  unfold sdo shDo
  obtain ⟨b, hb⟩ : ∃ b, shapeOk s = b := ⟨_, rfl⟩
  rw [hb] at c1 ⊢
  refine funF_walk hTb Tryd.func21 rfl rfl Tryd.ntmps21 (by simp) (by simp) ?_
  cases b
  · rw [if_neg (by simp)]
    (conv => whnf); repeat' (first
    | (refine And.intro ?_ ?_ <;> ((try intro h) <;> (try simp only [Bool.not_true, Bool.not_false, decide_eq_true_eq, decide_eq_false_iff_not, Int.not_lt, Int.not_le, gt_iff_lt, ge_iff_le] at h) <;> first | exact absurd h Bool.false_ne_true | exact absurd h.symm Bool.false_ne_true | conv => whnf))
    | (refine VL.drawS hTb hMix (by kernel_rfl) (by kernel_rfl) (by kernel_rfl) ?_; conv => whnf)
    | (refine Need.mk ?_; kernel_rfl) | (refine Need.mk ⟨rfl, ?_⟩; decide)
    | (refine VR.pure hTb rfl rfl (o_purN (c1) rfl rfl rfl ⟨rfl, rfl, rfl, rfl⟩ rfl) ?_; conv => whnf)
    | (refine DT.pure hTb rfl (o_purN (c1) rfl rfl rfl ⟨rfl, rfl, rfl, rfl⟩ rfl) ?_; conv => whnf))
    exact endW [110] rfl rfl rfl rfl rfl (LeS.refl _) rfl rfl
  · rw [if_pos rfl]
    generalize chDo s ⟨kd, nm, nw, ⟨cn, ck, k1, k2, ⟨d1, d2, d3⟩⟩⟩ = D at c2 hlen hmd
    have hD : (D.getD []).length ≤ 2000000 ∧ mdCols (D.getD []) := by
      cases D with
      | none => exact ⟨by simp, fun x hx => by cases hx⟩
      | some L => exact ⟨by have := hlen rfl; show L.length ≤ _; omega, hmd L rfl⟩
    have c3 := c_specShapeOk (D.getD []) (by unfold maxLen; omega) hD.2.ok
    have hok : okO s D = if shapeOk (D.getD []) = true then (D.getD [], true) else (s, false) := by
      cases D with
      | none => simp only [okO, Option.getD_none, shapeOk_nil]; rfl
      | some L => rfl
    rw [hok]
    clear hok
    generalize D.getD [] = L at c2 c3 hD
    obtain ⟨x, hx⟩ : ∃ x, shapeOk L = x := ⟨_, rfl⟩
    rw [hx] at c3 ⊢
    cases x <;> (conv => whnf); repeat' (first
    | (refine And.intro ?_ ?_ <;> ((try intro h) <;> (try simp only [Bool.not_true, Bool.not_false, decide_eq_true_eq, decide_eq_false_iff_not, Int.not_lt, Int.not_le, gt_iff_lt, ge_iff_le] at h) <;> first | exact absurd h Bool.false_ne_true | exact absurd h.symm Bool.false_ne_true | conv => whnf))
    | (refine VL.drawS hTb hMix (by kernel_rfl) (by kernel_rfl) (by kernel_rfl) ?_; conv => whnf)
    | (refine Need.mk ?_; kernel_rfl) | (refine Need.mk ⟨rfl, ?_⟩; decide)
    | (refine VR.pure hTb rfl rfl (o_purN (c1) rfl rfl rfl ⟨rfl, rfl, rfl, rfl⟩ rfl) ?_; conv => whnf)
    | (refine DT.pure hTb rfl (o_purN (c1) rfl rfl rfl ⟨rfl, rfl, rfl, rfl⟩ rfl) ?_; conv => whnf)
    | (refine VR.fun hTb rfl rfl (o_funN (c2) false [] (fun h => by cases h) (by simp) rfl rfl rfl rfl rfl ⟨rfl, rfl, rfl, rfl⟩ rfl rfl) ?_; conv => whnf)
    | (refine DT.fun hTb rfl (o_funN (c2) false [] (fun h => by cases h) (by simp) rfl rfl rfl rfl rfl ⟨rfl, rfl, rfl, rfl⟩ rfl rfl) rfl ?_; conv => whnf)
    | (refine VR.pure hTb rfl rfl (o_purN c3 rfl rfl rfl ⟨rfl, rfl, rfl, rfl⟩ ?_) ?_; exact congrArg (fun s => [s]) brw; conv => whnf)
    | (refine VR.opk hTb rfl rfl (o_app0 (f := encCol) (m := s) (q := 119) hTb rfl rfl rfl rfl rfl rfl rfl rfl rfl rfl (by omega) (by show _ * 64 ≤ _; omega) (by unfold maxLen; omega)) ?_; conv => whnf)
    | (refine DT.opk hTb rfl (o_app0 (f := encCol) (m := s) (q := 119) hTb rfl rfl rfl rfl rfl rfl rfl rfl rfl rfl (by omega) (by show _ * 64 ≤ _; omega) (by unfold maxLen; omega)) ?_; conv => whnf))
    · rw [if_neg (by simp)]
      exact endW [119] rfl rfl rfl rfl rfl (LeS.refl _) rfl rfl
    · rw [if_pos rfl]
      exact endW [1052] rfl rfl rfl rfl rfl (LeS.refl _) rfl rfl
-- rows
def Val.md (v : Val) : Prop := v.t.size ≤ 1048576
def mdVals (l : List Val) : Prop := ∀ x ∈ l, x.md
def rwCh (s : List Col) (c : Change) (row : List Val) : List Val :=
  if c.kind = 1 then row ++ [c.col.d]
  else if c.kind = 2 then row.eraseIdx (nameAt s c.name).toNat
  else if c.kind = 4 then row.set (nameAt s c.name).toNat (valAs (row.getD (nameAt s c.name).toNat ⟨0, 0, ⟨#[]⟩⟩) c.col.kind)
  else row
/-- The change finds the place that it needs. -/
def chAt (s : List Col) (c : Change) (n : Nat) : Prop := (c.kind = 2 ∨ c.kind = 4) → ∃ j : Nat, j < n ∧ nameAt s c.name = (j : Int)
theorem grNewVal (n : Nat) (l : List Val) : GrS (.one (.own 0 0 n)) ∧ (∀ ob, some ob ∈ ([] : List (Option Ob)) → GrO ob) ∧ ∀ ob ∈ [Ob.arr 29 3 (l.map encVal)], GrO ob :=
  ⟨rfl, fun _ h => by simp at h, fun ob h => by simp at h; subst h; exact grVals l⟩
theorem brwEV {l : List Val} {k : Nat} (h : k < l.length) (z : Val) : Slot.one (.imm 3 ((((l.eraseIdx k ++ [z]).map encVal).drop 0).take (l.length - 1))) = valsI (l.eraseIdx k) := by
  have e : (l.eraseIdx k).length = l.length - 1 := by rw [List.length_eraseIdx, if_pos h]
  rw [List.drop_zero, List.map_append, List.take_left' (by rw [List.length_map, e])]; rfl
theorem c_changeRow (s : List Col) (c : Change) (row : List Val) (hl : s.length ≤ 1900000) (hr : row.length ≤ 1900000) (hs : mdCols s) (hrow : mdVals row) (hat : chAt s c row.length) :
    CallsV Tryd.prog 58 [colsI s, .agg (encChange c), valsI row] [] (funQ (.one (.own 0 0 (rwCh s c row).length)) [] [.arr 29 3 ((rwCh s c row).map encVal)]) := by
  obtain ⟨kd, nm, nw, ⟨cn, ck, c1, c2, ⟨d1, d2, d3⟩⟩⟩ := c
  have cA := c_colAt s nm (by unfold maxLen; omega)
  have c0 := c_cloneVal row (by omega)
  simp only [chAt] at hat
  unfold rwCh
  simp only
  refine funF_walk hTb Tryd.func58 rfl rfl Tryd.ntmps58 (by simp) (by simp) ?_
  by_cases k1 : kd = 1
  · subst k1
    rw [if_pos rfl]
    have cC := c_cloneVal (row ++ [⟨d1, d2, d3⟩]) (by simp; omega)
    (conv => whnf); repeat' (first
    | (refine And.intro ?_ ?_ <;> ((try intro h) <;> (try simp only [Bool.not_true, Bool.not_false, decide_eq_true_eq, decide_eq_false_iff_not, Int.not_lt, Int.not_le, gt_iff_lt, ge_iff_le] at h) <;> first | exact absurd h Bool.false_ne_true | exact absurd h.symm Bool.false_ne_true | conv => whnf))
    | (refine VL.drawS hTb hMix (by kernel_rfl) (by kernel_rfl) (by kernel_rfl) ?_; conv => whnf)
    | (refine Need.mk ?_; kernel_rfl) | (refine Need.mk ⟨rfl, ?_⟩; decide)
    | (refine VR.fun hTb rfl rfl (o_funN (c0) false [] (fun h => by cases h) (by simp) rfl rfl rfl rfl rfl ⟨rfl, rfl, rfl, rfl⟩ rfl rfl) ?_; conv => whnf)
    | (refine DT.fun hTb rfl (o_funN (c0) false [] (fun h => by cases h) (by simp) rfl rfl rfl rfl rfl ⟨rfl, rfl, rfl, rfl⟩ rfl rfl) rfl ?_; conv => whnf)
    | (refine VR.pure hTb rfl rfl (o_purN (cA) rfl rfl rfl ⟨rfl, rfl, rfl, rfl⟩ rfl) ?_; conv => whnf)
    | (refine DT.pure hTb rfl (o_purN (cA) rfl rfl rfl ⟨rfl, rfl, rfl, rfl⟩ rfl) ?_; conv => whnf)
    | (refine VR.opk hTb rfl rfl (o_app1 (q := 124) (a := ⟨_, _, _⟩) hTb rfl rfl rfl rfl rfl rfl rfl rfl rfl rfl rfl rfl (by omega) (by show _ * 32 ≤ _; omega) (by unfold maxLen; omega)) ?_; conv => whnf)
    | (refine DT.opk hTb rfl (o_app1 (q := 124) (a := ⟨_, _, _⟩) hTb rfl rfl rfl rfl rfl rfl rfl rfl rfl rfl rfl rfl (by omega) (by show _ * 32 ≤ _; omega) (by unfold maxLen; omega)) ?_; conv => whnf)
    | (refine VR.fun hTb rfl rfl (o_funN (cC) true [] (fun _ => grNewVal _ _) (by simp) rfl rfl rfl rfl rfl ⟨rfl, rfl, rfl, rfl⟩ ?_ rfl) ?_; exact congrArg (fun s => [s]) (brwG (by simp)); conv => whnf)
    | (refine DT.fun hTb rfl (o_funN (cC) true [] (fun _ => grNewVal _ _) (by simp) rfl rfl rfl rfl rfl ⟨rfl, rfl, rfl, rfl⟩ ?_ rfl) rfl ?_; exact congrArg (fun s => [s]) (brwG (by simp)); conv => whnf))
    exact endW [1184] rfl rfl rfl rfl rfl (LeS.refl _) rfl rfl
  rw [if_neg k1]
  by_cases k2 : kd = 2
  · subst k2
    rw [if_pos rfl]
    obtain ⟨j, hj, hn⟩ := hat (.inl rfl)
    rw [hn] at cA ⊢
    rw [Int.toNat_natCast]
    have ew : IntKind.i64.wrap ((j : Int) + 1) = ((j + 1 : Nat) : Int) := by rw [IntKind.wrap_i64]; omega
    have cD := c_DeleteVal row j hj (by omega)
    have hlen := List.length_eraseIdx_le row j
    have cC := c_cloneVal (row.eraseIdx j) (by omega)
    (conv => whnf); repeat' (first
    | (refine And.intro ?_ ?_ <;> ((try intro h) <;> (try simp only [Bool.not_true, Bool.not_false, decide_eq_true_eq, decide_eq_false_iff_not, Int.not_lt, Int.not_le, gt_iff_lt, ge_iff_le] at h) <;> first | exact absurd h Bool.false_ne_true | exact absurd h.symm Bool.false_ne_true | conv => whnf))
    | (refine VL.drawS hTb hMix (by kernel_rfl) (by kernel_rfl) (by kernel_rfl) ?_; conv => whnf)
    | (refine Need.mk ?_; kernel_rfl) | (refine Need.mk ⟨rfl, ?_⟩; decide)
    | (refine VR.fun hTb rfl rfl (o_funN (c0) false [] (fun h => by cases h) (by simp) rfl rfl rfl rfl rfl ⟨rfl, rfl, rfl, rfl⟩ rfl rfl) ?_; conv => whnf)
    | (refine DT.fun hTb rfl (o_funN (c0) false [] (fun h => by cases h) (by simp) rfl rfl rfl rfl rfl ⟨rfl, rfl, rfl, rfl⟩ rfl rfl) rfl ?_; conv => whnf)
    | (refine VR.pure hTb rfl rfl (o_purN (cA) rfl rfl rfl ⟨rfl, rfl, rfl, rfl⟩ rfl) ?_; conv => whnf)
    | (refine DT.pure hTb rfl (o_purN (cA) rfl rfl rfl ⟨rfl, rfl, rfl, rfl⟩ rfl) ?_; conv => whnf)
    | (refine VR.fun hTb rfl rfl (o_funN cD false [1040] (fun h => by cases h) (by simp) rfl rfl rfl rfl rfl ⟨rfl, rfl, rfl, rfl⟩ ?_ rfl) ?_; exact congrArg (fun x => [Slot.one (.own 0 0 row.length), iS j, .one (.g (.int .i64 x))]) ew; conv => whnf)
    | (refine VR.fun hTb rfl rfl (o_funN (cC) true [] (fun _ => grNewVal _ _) (by simp) rfl rfl rfl rfl rfl ⟨rfl, rfl, rfl, rfl⟩ ?_ rfl) ?_; exact congrArg (fun s => [s]) (brwEV hj _); conv => whnf)
    | (refine DT.fun hTb rfl (o_funN (cC) true [] (fun _ => grNewVal _ _) (by simp) rfl rfl rfl rfl rfl ⟨rfl, rfl, rfl, rfl⟩ ?_ rfl) rfl ?_; exact congrArg (fun s => [s]) (brwEV hj _); conv => whnf))
    exact endW [1184] rfl rfl rfl rfl rfl (LeS.refl _) rfl rfl
  rw [if_neg k2]
  by_cases k4 : kd = 4
  · subst k4
    rw [if_pos rfl]
    obtain ⟨j, hj, hn⟩ := hat (.inr rfl)
    rw [hn] at cA ⊢
    rw [Int.toNat_natCast]
    have eg : row.getD j ⟨0, 0, ⟨#[]⟩⟩ = row[j] := by simp [List.getD, hj]
    rw [eg]
    have hmj : row[j].md := hrow _ (List.getElem_mem hj)
    have hrw : row[0 + ((j : Nat) : Int).toNat]? = some row[j] := by rw [Int.toNat_natCast, Nat.zero_add, List.getElem?_eq_getElem hj]
    have hset : ∀ v : Val, row.set j v = row.set (0 + ((j : Nat) : Int).toNat) v := fun v => by rw [Int.toNat_natCast, Nat.zero_add]
    generalize row[j] = vj at hrw hmj
    obtain ⟨x1, x2, x3⟩ := vj
    have cV := c_implValAs x1 x2 x3 ck (by have : x3.size ≤ 1048576 := hmj; omega)
    obtain ⟨⟨y1, y2, y3⟩, hy⟩ : ∃ y, valAs ⟨x1, x2, x3⟩ ck = y := ⟨_, rfl⟩
    rw [hy] at cV ⊢
    rw [hset]
    have cC := c_cloneVal (row.set (0 + ((j : Nat) : Int).toNat) ⟨y1, y2, y3⟩) (by simp; omega)
    (conv => whnf); repeat' (first
    | (refine And.intro ?_ ?_ <;> ((try intro h) <;> (try simp only [Bool.not_true, Bool.not_false, decide_eq_true_eq, decide_eq_false_iff_not, Int.not_lt, Int.not_le, gt_iff_lt, ge_iff_le] at h) <;> first | exact absurd h Bool.false_ne_true | exact absurd h.symm Bool.false_ne_true | conv => whnf))
    | (refine VL.drawS hTb hMix (by kernel_rfl) (by kernel_rfl) (by kernel_rfl) ?_; conv => whnf)
    | (refine Need.mk ?_; kernel_rfl) | (refine Need.mk ⟨rfl, ?_⟩; decide)
    | (refine VR.fun hTb rfl rfl (o_funN (c0) false [] (fun h => by cases h) (by simp) rfl rfl rfl rfl rfl ⟨rfl, rfl, rfl, rfl⟩ rfl rfl) ?_; conv => whnf)
    | (refine DT.fun hTb rfl (o_funN (c0) false [] (fun h => by cases h) (by simp) rfl rfl rfl rfl rfl ⟨rfl, rfl, rfl, rfl⟩ rfl rfl) rfl ?_; conv => whnf)
    | (refine VR.pure hTb rfl rfl (o_purN (cA) rfl rfl rfl ⟨rfl, rfl, rfl, rfl⟩ rfl) ?_; conv => whnf)
    | (refine DT.pure hTb rfl (o_purN (cA) rfl rfl rfl ⟨rfl, rfl, rfl, rfl⟩ rfl) ?_; conv => whnf)
    | (refine Need.mk ?_; exact ⟨rfl, by omega, by omega⟩)
    | (refine VR.op hTb rfl rfl (o_loadM hTb rfl rfl rfl rfl (hrw) ⟨by decide, by decide⟩) rfl ?_; conv => whnf)
    | (refine DT.op hTb rfl (o_loadM hTb rfl rfl rfl rfl (hrw) ⟨by decide, by decide⟩) rfl ?_; conv => whnf)
    | (refine VR.pure hTb rfl rfl (o_purN (cV) rfl rfl rfl ⟨rfl, rfl, rfl, rfl⟩ rfl) ?_; conv => whnf)
    | (refine DT.pure hTb rfl (o_purN (cV) rfl rfl rfl ⟨rfl, rfl, rfl, rfl⟩ rfl) ?_; conv => whnf)
    | (refine VR.op hTb rfl rfl (o_storeM hTb rfl rfl rfl rfl rfl (hrw) rfl rfl rfl ⟨rfl, by decide⟩ (c' := ⟨_, _, _⟩) rfl) rfl ?_; conv => whnf)
    | (refine DT.op hTb rfl (o_storeM hTb rfl rfl rfl rfl rfl (hrw) rfl rfl rfl ⟨rfl, by decide⟩ (c' := ⟨_, _, _⟩) rfl) rfl ?_; conv => whnf)
    | (refine VR.fun hTb rfl rfl (o_funN (cC) true [] (fun _ => grNewVal _ _) (by simp) rfl rfl rfl rfl rfl ⟨rfl, rfl, rfl, rfl⟩ ?_ rfl) ?_; exact congrArg (fun s => [s]) (brwG (by simp)); conv => whnf)
    | (refine DT.fun hTb rfl (o_funN (cC) true [] (fun _ => grNewVal _ _) (by simp) rfl rfl rfl rfl rfl ⟨rfl, rfl, rfl, rfl⟩ ?_ rfl) rfl ?_; exact congrArg (fun s => [s]) (brwG (by simp)); conv => whnf))
    exact endW [1184] rfl rfl rfl rfl rfl (LeS.refl _) rfl rfl
  rw [if_neg k4]
  (conv => whnf); repeat' (first
    | (exact absurd (beq_iff_eq.1 h) k1)
    | (exact absurd (beq_iff_eq.1 h) k2)
    | (exact absurd (beq_iff_eq.1 h) k4)
    | (refine And.intro ?_ ?_ <;> ((try intro h) <;> (try simp only [Bool.not_true, Bool.not_false, decide_eq_true_eq, decide_eq_false_iff_not, Int.not_lt, Int.not_le, gt_iff_lt, ge_iff_le] at h) <;> first | exact absurd h Bool.false_ne_true | exact absurd h.symm Bool.false_ne_true | conv => whnf))
    | (refine VL.drawS hTb hMix (by kernel_rfl) (by kernel_rfl) (by kernel_rfl) ?_; conv => whnf)
    | (refine Need.mk ?_; kernel_rfl) | (refine Need.mk ⟨rfl, ?_⟩; decide)
    | (refine VR.fun hTb rfl rfl (o_funN (c0) false [] (fun h => by cases h) (by simp) rfl rfl rfl rfl rfl ⟨rfl, rfl, rfl, rfl⟩ rfl rfl) ?_; conv => whnf)
    | (refine DT.fun hTb rfl (o_funN (c0) false [] (fun h => by cases h) (by simp) rfl rfl rfl rfl rfl ⟨rfl, rfl, rfl, rfl⟩ rfl rfl) rfl ?_; conv => whnf)
    | (refine VR.pure hTb rfl rfl (o_purN (cA) rfl rfl rfl ⟨rfl, rfl, rfl, rfl⟩ rfl) ?_; conv => whnf)
    | (refine DT.pure hTb rfl (o_purN (cA) rfl rfl rfl ⟨rfl, rfl, rfl, rfl⟩ rfl) ?_; conv => whnf)
    | (refine VR.fun hTb rfl rfl (o_funN (c0) true [] (fun _ => grNewVal _ _) (by simp) rfl rfl rfl rfl rfl ⟨rfl, rfl, rfl, rfl⟩ ?_ rfl) ?_; exact congrArg (fun s => [s]) brw; conv => whnf)
    | (refine DT.fun hTb rfl (o_funN (c0) true [] (fun _ => grNewVal _ _) (by simp) rfl rfl rfl rfl rfl ⟨rfl, rfl, rfl, rfl⟩ ?_ rfl) rfl ?_; exact congrArg (fun s => [s]) brw; conv => whnf))
  exact endW [1184] rfl rfl rfl rfl rfl (LeS.refl _) rfl rfl
theorem c_l2Row (s : List Col) (c : Change) (row : List Val) (hl : s.length ≤ 1900000) (hr : row.length ≤ 1900000) (hs : mdCols s) (hrow : mdVals row) (hat : chAt s c row.length) :
    CallsV Tryd.prog 73 [colsI s, .agg (encChange c), valsI row] [] (funQ (.one (.own 0 0 (rwCh s c row).length)) [] [.arr 29 3 ((rwCh s c row).map encVal)]) := by
  obtain ⟨kd, nm, nw, ⟨cn, ck, c1, c2, ⟨d1, d2, d3⟩⟩⟩ := c
  have cA := c_l2At s nm (by unfold maxLen; omega)
  simp only [chAt] at hat
  unfold rwCh
  simp only
  refine funF_walk hTb Tryd.func73 rfl rfl Tryd.ntmps73 (by simp) (by simp) ?_
  by_cases k1 : kd = 1
  · subst k1
    rw [if_pos rfl]
    (conv => whnf); repeat' (first
    | (refine And.intro ?_ ?_ <;> ((try intro h) <;> (try simp only [Bool.not_true, Bool.not_false, decide_eq_true_eq, decide_eq_false_iff_not, Int.not_lt, Int.not_le, gt_iff_lt, ge_iff_le] at h) <;> first | exact absurd h Bool.false_ne_true | exact absurd h.symm Bool.false_ne_true | conv => whnf))
    | (refine VL.drawS hTb hMix (by kernel_rfl) (by kernel_rfl) (by kernel_rfl) ?_; conv => whnf)
    | (refine Need.mk ?_; kernel_rfl) | (refine Need.mk ⟨rfl, ?_⟩; decide)
    | (refine VR.pure hTb rfl rfl (o_purN (cA) rfl rfl rfl ⟨rfl, rfl, rfl, rfl⟩ rfl) ?_; conv => whnf)
    | (refine DT.pure hTb rfl (o_purN (cA) rfl rfl rfl ⟨rfl, rfl, rfl, rfl⟩ rfl) ?_; conv => whnf)
    | (refine VR.opk hTb rfl rfl (o_app0 (f := encVal) (m := row) (q := 115) hTb rfl rfl rfl rfl rfl rfl rfl rfl rfl rfl (by omega) (by show _ * 32 ≤ _; omega) (by unfold maxLen; omega)) ?_; conv => whnf)
    | (refine DT.opk hTb rfl (o_app0 (f := encVal) (m := row) (q := 115) hTb rfl rfl rfl rfl rfl rfl rfl rfl rfl rfl (by omega) (by show _ * 32 ≤ _; omega) (by unfold maxLen; omega)) ?_; conv => whnf)
    | (refine VR.opk hTb rfl rfl (o_app1 (q := 125) (a := ⟨_, _, _⟩) hTb rfl rfl rfl rfl rfl rfl rfl rfl rfl rfl rfl rfl (by omega) (by show _ * 32 ≤ _; omega) (by unfold maxLen; omega)) ?_; conv => whnf)
    | (refine DT.opk hTb rfl (o_app1 (q := 125) (a := ⟨_, _, _⟩) hTb rfl rfl rfl rfl rfl rfl rfl rfl rfl rfl rfl rfl (by omega) (by show _ * 32 ≤ _; omega) (by unfold maxLen; omega)) ?_; conv => whnf))
    exact endW [125] rfl rfl rfl rfl rfl (LeS.of_eq (congrArg (fun n => Slot.one (.own 0 0 n)) (by simp))) rfl rfl
  rw [if_neg k1]
  by_cases k2 : kd = 2
  · subst k2
    rw [if_pos rfl]
    obtain ⟨j, hj, hn⟩ := hat (.inl rfl)
    rw [hn] at cA ⊢
    rw [Int.toNat_natCast]
    have ew : IntKind.i64.wrap ((j : Int) + 1) = ((j + 1 : Nat) : Int) := by rw [IntKind.wrap_i64]; omega
    have e1 : (row.take j).length = j := by simp; omega
    have e2 : (row.drop (j + 1)).length = row.length - (j + 1) := by simp
    have el : (row.eraseIdx j).length = row.length - 1 := by rw [List.length_eraseIdx, if_pos hj]
    (conv => whnf); repeat' (first
    | (refine And.intro ?_ ?_ <;> ((try intro h) <;> (try simp only [Bool.not_true, Bool.not_false, decide_eq_true_eq, decide_eq_false_iff_not, Int.not_lt, Int.not_le, gt_iff_lt, ge_iff_le] at h) <;> first | exact absurd h Bool.false_ne_true | exact absurd h.symm Bool.false_ne_true | conv => whnf))
    | (refine VL.drawS hTb hMix (by kernel_rfl) (by kernel_rfl) (by kernel_rfl) ?_; conv => whnf)
    | (refine Need.mk ?_; kernel_rfl) | (refine Need.mk ⟨rfl, ?_⟩; decide)
    | (refine VR.pure hTb rfl rfl (o_purN (cA) rfl rfl rfl ⟨rfl, rfl, rfl, rfl⟩ rfl) ?_; conv => whnf)
    | (refine DT.pure hTb rfl (o_purN (cA) rfl rfl rfl ⟨rfl, rfl, rfl, rfl⟩ rfl) ?_; conv => whnf)
    | (refine VR.opk hTb rfl rfl (o_app0 (f := encVal) (m := row) (q := 115) hTb rfl rfl rfl rfl rfl rfl rfl rfl rfl rfl (by omega) (by show _ * 32 ≤ _; omega) (by unfold maxLen; omega)) ?_; conv => whnf)
    | (refine DT.opk hTb rfl (o_app0 (f := encVal) (m := row) (q := 115) hTb rfl rfl rfl rfl rfl rfl rfl rfl rfl rfl (by omega) (by show _ * 32 ≤ _; omega) (by unfold maxLen; omega)) ?_; conv => whnf)
    | (refine DT.op hTb rfl (o_slice_imm (n1 := 0) (n2 := j) (rows' := (row.take j).map encVal) hTb rfl rfl rfl rfl rfl rfl bnd_none (bnd_some rfl) (Nat.zero_le _) (by simp; omega) (by rw [List.drop_zero, Nat.sub_zero, List.map_take])) rfl ?_; conv => whnf)
    | (refine DT.op hTb rfl (o_slice_imm (n1 := j + 1) (n2 := (row.map encVal).length) (rows' := (row.drop (j + 1)).map encVal) hTb rfl rfl rfl rfl rfl rfl (bnd_wr rfl ew) bnd_none (by simp; omega) (by simp) (by rw [← List.map_drop]; exact List.take_of_length_le (by simp))) rfl ?_; conv => whnf)
    | (refine VR.opk hTb rfl rfl (o_app0 (f := encVal) (m := (row.take j)) (q := 132) hTb rfl rfl rfl rfl rfl rfl rfl rfl rfl rfl (by omega) (by show _ * 32 ≤ _; omega) (by unfold maxLen; omega)) ?_; conv => whnf)
    | (refine DT.opk hTb rfl (o_app0 (f := encVal) (m := (row.take j)) (q := 132) hTb rfl rfl rfl rfl rfl rfl rfl rfl rfl rfl (by omega) (by show _ * 32 ≤ _; omega) (by unfold maxLen; omega)) ?_; conv => whnf)
    | (refine DT.opk hTb rfl (o_appN (f := encVal) (l := row.take j) (m := row.drop (j + 1)) (q := 137) hTb rfl rfl rfl rfl rfl rfl rfl rfl rfl rfl rfl (by omega) (by show _ * 32 ≤ _; omega) (by unfold maxLen; omega)) ?_; conv => whnf))
    exact endW [137] rfl rfl rfl rfl rfl (LeS.of_eq (congrArg (fun n => Slot.one (.own 0 0 n)) (by rw [e1, e2, el]; omega))) rfl (congrArg (fun r => [Ob.arr 29 3 r]) (by rw [List.eraseIdx_eq_take_drop_succ]))
  rw [if_neg k2]
  by_cases k4 : kd = 4
  · subst k4
    rw [if_pos rfl]
    obtain ⟨j, hj, hn⟩ := hat (.inr rfl)
    rw [hn] at cA ⊢
    rw [Int.toNat_natCast]
    have eg : row.getD j ⟨0, 0, ⟨#[]⟩⟩ = row[j] := by simp [List.getD, hj]
    rw [eg]
    have hmj : row[j].md := hrow _ (List.getElem_mem hj)
    have hrw : row[0 + ((j : Nat) : Int).toNat]? = some row[j] := by rw [Int.toNat_natCast, Nat.zero_add, List.getElem?_eq_getElem hj]
    have hrI : (row.map encVal)[((j : Nat) : Int).toNat]? = some (encVal row[j]) := by rw [Int.toNat_natCast, List.getElem?_map, List.getElem?_eq_getElem hj]; rfl
    have hset : ∀ v : Val, row.set j v = row.set (0 + ((j : Nat) : Int).toNat) v := fun v => by rw [Int.toNat_natCast, Nat.zero_add]
    generalize row[j] = vj at hrw hmj hrI
    obtain ⟨x1, x2, x3⟩ := vj
    have cV := c_specValAs x1 x2 x3 ck (by have : x3.size ≤ 1048576 := hmj; unfold maxLen; omega)
    obtain ⟨⟨y1, y2, y3⟩, hy⟩ : ∃ y, valAs ⟨x1, x2, x3⟩ ck = y := ⟨_, rfl⟩
    rw [hy] at cV ⊢
    rw [hset]
    (conv => whnf); repeat' (first
    | (refine And.intro ?_ ?_ <;> ((try intro h) <;> (try simp only [Bool.not_true, Bool.not_false, decide_eq_true_eq, decide_eq_false_iff_not, Int.not_lt, Int.not_le, gt_iff_lt, ge_iff_le] at h) <;> first | exact absurd h Bool.false_ne_true | exact absurd h.symm Bool.false_ne_true | conv => whnf))
    | (refine VL.drawS hTb hMix (by kernel_rfl) (by kernel_rfl) (by kernel_rfl) ?_; conv => whnf)
    | (refine Need.mk ?_; kernel_rfl) | (refine Need.mk ⟨rfl, ?_⟩; decide)
    | (refine VR.pure hTb rfl rfl (o_purN (cA) rfl rfl rfl ⟨rfl, rfl, rfl, rfl⟩ rfl) ?_; conv => whnf)
    | (refine DT.pure hTb rfl (o_purN (cA) rfl rfl rfl ⟨rfl, rfl, rfl, rfl⟩ rfl) ?_; conv => whnf)
    | (refine VR.opk hTb rfl rfl (o_app0 (f := encVal) (m := row) (q := 115) hTb rfl rfl rfl rfl rfl rfl rfl rfl rfl rfl (by omega) (by show _ * 32 ≤ _; omega) (by unfold maxLen; omega)) ?_; conv => whnf)
    | (refine DT.opk hTb rfl (o_app0 (f := encVal) (m := row) (q := 115) hTb rfl rfl rfl rfl rfl rfl rfl rfl rfl rfl (by omega) (by show _ * 32 ≤ _; omega) (by unfold maxLen; omega)) ?_; conv => whnf)
    | (refine VR.op hTb rfl rfl (o_index_imm hTb rfl rfl rfl rfl rfl rfl rfl (by omega) (hrI)) rfl ?_; conv => whnf)
    | (refine DT.op hTb rfl (o_index_imm hTb rfl rfl rfl rfl rfl rfl rfl (by omega) (hrI)) rfl ?_; conv => whnf)
    | (refine Need.mk ?_; exact ⟨rfl, by omega, by omega⟩)
    | (refine VR.pure hTb rfl rfl (o_purN (cV) rfl rfl rfl ⟨rfl, rfl, rfl, rfl⟩ rfl) ?_; conv => whnf)
    | (refine DT.pure hTb rfl (o_purN (cV) rfl rfl rfl ⟨rfl, rfl, rfl, rfl⟩ rfl) ?_; conv => whnf)
    | (refine VR.op hTb rfl rfl (o_storeM hTb rfl rfl rfl rfl rfl (hrw) rfl rfl rfl ⟨rfl, by decide⟩ (c' := ⟨_, _, _⟩) rfl) rfl ?_; conv => whnf)
    | (refine DT.op hTb rfl (o_storeM hTb rfl rfl rfl rfl rfl (hrw) rfl rfl rfl ⟨rfl, by decide⟩ (c' := ⟨_, _, _⟩) rfl) rfl ?_; conv => whnf))
    exact endW [115] rfl rfl rfl rfl rfl (LeS.of_eq (congrArg (fun n => Slot.one (.own 0 0 n)) (by simp))) rfl rfl
  rw [if_neg k4]
  (conv => whnf); repeat' (first
    | (exact absurd (beq_iff_eq.1 h) k1)
    | (exact absurd (beq_iff_eq.1 h) k2)
    | (exact absurd (beq_iff_eq.1 h) k4)
    | (refine And.intro ?_ ?_ <;> ((try intro h) <;> (try simp only [Bool.not_true, Bool.not_false, decide_eq_true_eq, decide_eq_false_iff_not, Int.not_lt, Int.not_le, gt_iff_lt, ge_iff_le] at h) <;> first | exact absurd h Bool.false_ne_true | exact absurd h.symm Bool.false_ne_true | conv => whnf))
    | (refine VL.drawS hTb hMix (by kernel_rfl) (by kernel_rfl) (by kernel_rfl) ?_; conv => whnf)
    | (refine Need.mk ?_; kernel_rfl) | (refine Need.mk ⟨rfl, ?_⟩; decide)
    | (refine VR.pure hTb rfl rfl (o_purN (cA) rfl rfl rfl ⟨rfl, rfl, rfl, rfl⟩ rfl) ?_; conv => whnf)
    | (refine DT.pure hTb rfl (o_purN (cA) rfl rfl rfl ⟨rfl, rfl, rfl, rfl⟩ rfl) ?_; conv => whnf)
    | (refine VR.opk hTb rfl rfl (o_app0 (f := encVal) (m := row) (q := 115) hTb rfl rfl rfl rfl rfl rfl rfl rfl rfl rfl (by omega) (by show _ * 32 ≤ _; omega) (by unfold maxLen; omega)) ?_; conv => whnf)
    | (refine DT.opk hTb rfl (o_app0 (f := encVal) (m := row) (q := 115) hTb rfl rfl rfl rfl rfl rfl rfl rfl rfl rfl (by omega) (by show _ * 32 ≤ _; omega) (by unfold maxLen; omega)) ?_; conv => whnf))
  exact endW [115] rfl rfl rfl rfl rfl (LeS.refl _) rfl rfl
end Go.Vl
