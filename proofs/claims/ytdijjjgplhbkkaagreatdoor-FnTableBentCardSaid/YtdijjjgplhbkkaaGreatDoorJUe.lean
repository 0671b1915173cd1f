/- Contracts: columns behind a change. Contracts: columns behind a change, of both; the reference's way. -/
import Derived.Test.YtdijjjgplhbkkaaGreatDoorJUd
set_option linter.unusedSimpArgs false
set_option linter.unusedVariables false
set_option linter.unnecessarySimpa false

namespace Go.Vl
open Go Go.RowKit Go.Proofs
set_option maxRecDepth 100000
set_option linter.unusedSimpArgs false
set_option linter.unusedVariables false
set_option linter.unnecessarySimpa false
set_option maxHeartbeats 4000000

def Col.md (c : Col) : Prop := c.name.size ≤ 1048576 ∧ c.d.t.size ≤ 1048576
def mdCols (l : List Col) : Prop := ∀ x ∈ l, x.md
def Change.md (c : Change) : Prop := c.name.size ≤ 1048576 ∧ c.new.size ≤ 1048576 ∧ c.col.md
def ccName (x : Col) (s : ByteArray) : Col := ⟨s, x.kind, x.need, x.once, x.d⟩
def ccKind (x : Col) (k : Int) : Col := ⟨x.name, k, x.need, x.once, valAs x.d k⟩
def chDo (s : List Col) (c : Change) : Option (List Col) :=
  if namedB c = false then none
  else if c.kind = 1 then (if c.col.need = true ∧ c.col.d.k = 0 then none else some (s ++ [c.col]))
  else if nameAt s c.name < 0 then none
  else if c.kind = 2 then some (s.eraseIdx (nameAt s c.name).toNat)
  else if c.kind = 3 then some (s.set (nameAt s c.name).toNat (ccName (s.getD (nameAt s c.name).toNat (kCol 0)) c.new))
  else if c.col.kind = (s.getD (nameAt s c.name).toNat (kCol 0)).kind then none
  else some (s.set (nameAt s c.name).toNat (ccKind (s.getD (nameAt s c.name).toNat (kCol 0)) c.col.kind))
def okO (s : List Col) (o : Option (List Col)) : List Col × Bool := match o with
  | some out => if shapeOk out then (out, true) else (s, false)
  | none => (s, false)
def shDo (s : List Col) (c : Change) : List Col × Bool := okO s (chDo s c)
abbrev shS (x : List Col × Bool) : Slot := .tup [(false, [.own 0 0 x.1.length]), (false, [.g (.bool x.2)])]
abbrev shN (x : List Col × Bool) : List Ob := [.arr 39 7 (x.1.map encCol)]
theorem mdCols.ok {l : List Col} (h : mdCols l) : ∀ c ∈ l, c.ok := fun c hc => ⟨by have := (h c hc).1; unfold maxLen; omega, by have := (h c hc).2; show c.d.t.size ≤ maxLen; unfold maxLen; omega⟩
theorem mdCols.app {l : List Col} {c : Col} (h : mdCols l) (hc : c.md) : mdCols (l ++ [c]) := by
  intro x hx
  rcases List.mem_append.1 hx with hx | hx
  · exact h x hx
  · simp at hx; subst hx; exact hc
theorem mdCols.set {l : List Col} {c : Col} {i : Nat} (h : mdCols l) (hc : c.md) : mdCols (l.set i c) := by
  intro x hx
  rcases List.mem_or_eq_of_mem_set hx with hx | rfl
  · exact h x hx
  · exact hc
theorem mdCols.erase {l : List Col} {i : Nat} (h : mdCols l) : mdCols (l.eraseIdx i) := fun x hx => h x (List.mem_of_mem_eraseIdx hx)
theorem md_getD {l : List Col} {i : Nat} (h : mdCols l) (hi : i < l.length) : (l.getD i (kCol 0)).md := by
  have e : l.getD i (kCol 0) = l[i] := by simp [List.getD, hi]
  rw [e]; exact h _ (List.getElem_mem hi)
theorem brwE {l : List Col} {k : Nat} (h : k < l.length) (z : Col) : Slot.one (.imm 7 ((((l.eraseIdx k ++ [z]).map encCol).drop 0).take (l.length - 1))) = colsI (l.eraseIdx k) := by
  have e : (l.eraseIdx k).length = l.length - 1 := by rw [List.length_eraseIdx, if_pos h]
  rw [List.drop_zero, List.map_append, List.take_left' (by rw [List.length_map, e])]; rfl
theorem grNewCol (n : Nat) (l : List Col) : GrS (.one (.own 0 0 n)) ∧ (∀ ob, some ob ∈ ([] : List (Option Ob)) → GrO ob) ∧ ∀ ob ∈ [Ob.arr 39 7 (l.map encCol)], GrO ob :=
  ⟨rfl, fun _ h => by simp at h, fun ob h => by simp at h; subst h; exact grCols l⟩
theorem namedB_kind {c : Change} (h : namedB c = true) : c.kind = 1 ∨ c.kind = 2 ∨ c.kind = 3 ∨ c.kind = 4 := by
  unfold namedB at h
  split at h; exact .inl ‹_›
  split at h; exact .inr (.inl ‹_›)
  split at h; exact .inr (.inr (.inl ‹_›))
  split at h; exact .inr (.inr (.inr ‹_›))
  cases h
theorem c_change (s : List Col) (c : Change) (hl : s.length ≤ 1900000) (hs : mdCols s) (hc : c.md) : CallsV Tryz.prog 142 [colsI s, .agg (encChange c)] [] (funQ (shS (shDo s c)) [] (shN (shDo s c))) := by
  obtain ⟨kd, nm, nw, ⟨cn, ck, c1, c2, ⟨d1, d2, d3⟩⟩⟩ := c
  have cN := c_named ⟨kd, nm, nw, ⟨cn, ck, c1, c2, ⟨d1, d2, d3⟩⟩⟩
  have cA := c_colAt s nm (by unfold maxLen; omega)
  have c0 := c_cloneCol s (by omega)
  have hok := fun (l : List Col) (h : mdCols l) (hn : l.length ≤ 2000000) => c_implShapeOk l (by unfold maxLen; omega) h.ok
  obtain ⟨hc1, hc2, hc3⟩ := hc
  simp only at hc1 hc2 hc3
  obtain ⟨b, hb⟩ : ∃ b, namedB ⟨kd, nm, nw, ⟨cn, ck, c1, c2, ⟨d1, d2, d3⟩⟩⟩ = b := ⟨_, rfl⟩
  rw [hb] at cN
  obtain ⟨r, hr⟩ : ∃ r, chDo s ⟨kd, nm, nw, ⟨cn, ck, c1, c2, ⟨d1, d2, d3⟩⟩⟩ = r := ⟨_, rfl⟩
  unfold shDo
  rw [hr]
  unfold chDo at hr
  rw [hb] at hr
  simp only at hr
  cases b
  · rw [if_pos rfl] at hr
    subst hr
    refine funF_walk hTb Tryz.func142 rfl rfl Tryz.ntmps142 (by simp) (by simp) ?_
    (conv => whnf); repeat' (first
    | (refine And.intro ?_ ?_ <;> ((try intro h) <;> (try simp only [Bool.not_true, Bool.not_false, decide_eq_true_eq, decide_eq_false_iff_not, Int.not_lt, Int.not_le, gt_iff_lt, ge_iff_le] at h) <;> first | exact absurd h Bool.false_ne_true | exact absurd h.symm Bool.false_ne_true | conv => whnf))
    | (refine VL.drawS hTb hMix (by kernel_rfl) (by kernel_rfl) (by kernel_rfl) ?_; conv => whnf)
    | (refine Need.mk ?_; kernel_rfl) | (refine Need.mk ⟨rfl, ?_⟩; decide)
    | (refine VR.pure hTb rfl rfl (o_purN (cN) rfl rfl rfl ⟨rfl, rfl, rfl, rfl⟩ rfl) ?_; conv => whnf)
    | (refine DT.pure hTb rfl (o_purN (cN) rfl rfl rfl ⟨rfl, rfl, rfl, rfl⟩ rfl) ?_; conv => whnf)
    | (refine VR.pure hTb rfl rfl (o_purN (cA) rfl rfl rfl ⟨rfl, rfl, rfl, rfl⟩ rfl) ?_; conv => whnf)
    | (refine DT.pure hTb rfl (o_purN (cA) rfl rfl rfl ⟨rfl, rfl, rfl, rfl⟩ rfl) ?_; conv => whnf)
    | (refine VR.fun hTb rfl rfl (o_funN (c0) false [] (fun h => by cases h) (by simp) rfl rfl rfl rfl rfl ⟨rfl, rfl, rfl, rfl⟩ rfl rfl) ?_; conv => whnf)
    | (refine DT.fun hTb rfl (o_funN (c0) false [] (fun h => by cases h) (by simp) rfl rfl rfl rfl rfl ⟨rfl, rfl, rfl, rfl⟩ rfl rfl) rfl ?_; conv => whnf))
    all_goals exact endW [1036] rfl rfl rfl rfl rfl (LeS.refl _) rfl rfl
  have hk := namedB_kind hb
  simp only at hk
  rw [if_neg (by simp)] at hr
  by_cases hk1 : kd = 1
  · subst hk1
    rw [if_pos rfl] at hr
    by_cases hd : c1 = true ∧ d1 = 0
    · obtain ⟨rfl, rfl⟩ := hd
      rw [if_pos ⟨rfl, rfl⟩] at hr
      subst hr
      refine funF_walk hTb Tryz.func142 rfl rfl Tryz.ntmps142 (by simp) (by simp) ?_
      (conv => whnf); repeat' (first
    | (refine And.intro ?_ ?_ <;> ((try intro h) <;> (try simp only [Bool.not_true, Bool.not_false, decide_eq_true_eq, decide_eq_false_iff_not, Int.not_lt, Int.not_le, gt_iff_lt, ge_iff_le] at h) <;> first | exact absurd h Bool.false_ne_true | exact absurd h.symm Bool.false_ne_true | conv => whnf))
    | (refine VL.drawS hTb hMix (by kernel_rfl) (by kernel_rfl) (by kernel_rfl) ?_; conv => whnf)
    | (refine Need.mk ?_; kernel_rfl) | (refine Need.mk ⟨rfl, ?_⟩; decide)
    | (refine VR.pure hTb rfl rfl (o_purN (cN) rfl rfl rfl ⟨rfl, rfl, rfl, rfl⟩ rfl) ?_; conv => whnf)
    | (refine DT.pure hTb rfl (o_purN (cN) rfl rfl rfl ⟨rfl, rfl, rfl, rfl⟩ rfl) ?_; conv => whnf)
    | (refine VR.pure hTb rfl rfl (o_purN (cA) rfl rfl rfl ⟨rfl, rfl, rfl, rfl⟩ rfl) ?_; conv => whnf)
    | (refine DT.pure hTb rfl (o_purN (cA) rfl rfl rfl ⟨rfl, rfl, rfl, rfl⟩ rfl) ?_; conv => whnf)
    | (refine VR.fun hTb rfl rfl (o_funN (c0) false [] (fun h => by cases h) (by simp) rfl rfl rfl rfl rfl ⟨rfl, rfl, rfl, rfl⟩ rfl rfl) ?_; conv => whnf)
    | (refine DT.fun hTb rfl (o_funN (c0) false [] (fun h => by cases h) (by simp) rfl rfl rfl rfl rfl ⟨rfl, rfl, rfl, rfl⟩ rfl rfl) rfl ?_; conv => whnf))
      all_goals (first
      | rfl
      | exact endW [1036] rfl rfl rfl rfl rfl (LeS.refl _) rfl rfl
      | exact endW [1392] rfl rfl rfl rfl rfl (LeS.refl _) rfl rfl
      | exact endW [1400] rfl rfl rfl rfl rfl (LeS.refl _) rfl rfl
      | trace_state)
    · rw [if_neg hd] at hr
      subst hr
      have hmd : mdCols (s ++ [⟨cn, ck, c1, c2, ⟨d1, d2, d3⟩⟩]) := hs.app hc3
      have cS := hok _ hmd (by simp; omega)
      have cC := c_cloneCol (s ++ [⟨cn, ck, c1, c2, ⟨d1, d2, d3⟩⟩]) (by simp; omega)
      obtain ⟨x, hx⟩ : ∃ x, shapeOk (s ++ [⟨cn, ck, c1, c2, ⟨d1, d2, d3⟩⟩]) = x := ⟨_, rfl⟩
      rw [hx] at cS
      have hr2 : okO s (some (s ++ [⟨cn, ck, c1, c2, ⟨d1, d2, d3⟩⟩])) = if x then (s ++ [⟨cn, ck, c1, c2, ⟨d1, d2, d3⟩⟩], true) else (s, false) := by simp only [okO, hx]
      rw [hr2]
      refine funF_walk hTb Tryz.func142 rfl rfl Tryz.ntmps142 (by simp) (by simp) ?_
      cases x <;> cases c1 <;> (conv => whnf); repeat' (first
    | (refine And.intro ?_ ?_ <;> ((try intro h) <;> (try simp only [Bool.not_true, Bool.not_false, decide_eq_true_eq, decide_eq_false_iff_not, Int.not_lt, Int.not_le, gt_iff_lt, ge_iff_le] at h) <;> first | exact absurd h Bool.false_ne_true | exact absurd h.symm Bool.false_ne_true | conv => whnf))
    | (refine VL.drawS hTb hMix (by kernel_rfl) (by kernel_rfl) (by kernel_rfl) ?_; conv => whnf)
    | (refine Need.mk ?_; kernel_rfl) | (refine Need.mk ⟨rfl, ?_⟩; decide)
    | (refine VR.pure hTb rfl rfl (o_purN (cN) rfl rfl rfl ⟨rfl, rfl, rfl, rfl⟩ rfl) ?_; conv => whnf)
    | (refine DT.pure hTb rfl (o_purN (cN) rfl rfl rfl ⟨rfl, rfl, rfl, rfl⟩ rfl) ?_; conv => whnf)
    | (refine VR.pure hTb rfl rfl (o_purN (cA) rfl rfl rfl ⟨rfl, rfl, rfl, rfl⟩ rfl) ?_; conv => whnf)
    | (refine DT.pure hTb rfl (o_purN (cA) rfl rfl rfl ⟨rfl, rfl, rfl, rfl⟩ rfl) ?_; conv => whnf)
    | (refine VR.fun hTb rfl rfl (o_funN (c0) false [] (fun h => by cases h) (by simp) rfl rfl rfl rfl rfl ⟨rfl, rfl, rfl, rfl⟩ rfl rfl) ?_; conv => whnf)
    | (refine DT.fun hTb rfl (o_funN (c0) false [] (fun h => by cases h) (by simp) rfl rfl rfl rfl rfl ⟨rfl, rfl, rfl, rfl⟩ rfl rfl) rfl ?_; conv => whnf)
    | (refine VR.opk hTb rfl rfl (o_app1 (q := 146) (a := ⟨_, _, _, _, ⟨_, _, _⟩⟩) hTb rfl rfl rfl rfl rfl rfl rfl rfl rfl rfl rfl rfl (by omega) (by show _ * 64 ≤ _; omega) (by unfold maxLen; omega)) ?_; conv => whnf)
    | (refine DT.opk hTb rfl (o_app1 (q := 146) (a := ⟨_, _, _, _, ⟨_, _, _⟩⟩) hTb rfl rfl rfl rfl rfl rfl rfl rfl rfl rfl rfl rfl (by omega) (by show _ * 64 ≤ _; omega) (by unfold maxLen; omega)) ?_; conv => whnf)
    | (refine VR.pure hTb rfl rfl (o_purN (cS) rfl rfl rfl ⟨rfl, rfl, rfl, rfl⟩ (congrArg (fun s => [s]) brw)) ?_; conv => whnf)
    | (refine DT.pure hTb rfl (o_purN (cS) rfl rfl rfl ⟨rfl, rfl, rfl, rfl⟩ (congrArg (fun s => [s]) brw)) ?_; conv => whnf)
    | (refine VR.pure hTb rfl rfl (o_purN (cS) rfl rfl rfl ⟨rfl, rfl, rfl, rfl⟩ (congrArg (fun s => [s]) brw')) ?_; conv => whnf)
    | (refine DT.pure hTb rfl (o_purN (cS) rfl rfl rfl ⟨rfl, rfl, rfl, rfl⟩ (congrArg (fun s => [s]) brw')) ?_; conv => whnf)
    | (refine VR.pure hTb rfl rfl (o_purN (cS) rfl rfl rfl ⟨rfl, rfl, rfl, rfl⟩ (congrArg (fun s => [s]) (brwG (by simp)))) ?_; conv => whnf)
    | (refine DT.pure hTb rfl (o_purN (cS) rfl rfl rfl ⟨rfl, rfl, rfl, rfl⟩ (congrArg (fun s => [s]) (brwG (by simp)))) ?_; conv => whnf)
    | (refine VR.fun hTb rfl rfl (o_funN (cC) true [] (fun _ => grNewCol _ _) (by simp) rfl rfl rfl rfl rfl ⟨rfl, rfl, rfl, rfl⟩ ?_ rfl) ?_; exact congrArg (fun s => [s]) (brwG (by simp)); conv => whnf)
    | (refine DT.fun hTb rfl (o_funN (cC) true [] (fun _ => grNewCol _ _) (by simp) rfl rfl rfl rfl rfl ⟨rfl, rfl, rfl, rfl⟩ ?_ rfl) rfl ?_; exact congrArg (fun s => [s]) (brwG (by simp)); conv => whnf))
      all_goals (first
      | rfl
      | exact endW [1036] rfl rfl rfl rfl rfl (LeS.refl _) rfl rfl
      | exact endW [1392] rfl rfl rfl rfl rfl (LeS.refl _) rfl rfl
      | exact endW [1400] rfl rfl rfl rfl rfl (LeS.refl _) rfl rfl
      | (exfalso; clear cN cA c0 hok cS cC; simp_all; done)
      | trace_state)
  rw [if_neg hk1] at hr
  rcases nameAt_spec s nm with ⟨hn, _⟩ | ⟨j, hj, hn, _⟩
  · rw [hn] at cA hr
    rw [if_pos (by omega)] at hr
    subst hr
    rcases hk with rfl | rfl | rfl | rfl
    · exact absurd rfl hk1
    all_goals
      refine funF_walk hTb Tryz.func142 rfl rfl Tryz.ntmps142 (by simp) (by simp) ?_
      (conv => whnf); repeat' (first
    | (refine And.intro ?_ ?_ <;> ((try intro h) <;> (try simp only [Bool.not_true, Bool.not_false, decide_eq_true_eq, decide_eq_false_iff_not, Int.not_lt, Int.not_le, gt_iff_lt, ge_iff_le] at h) <;> first | exact absurd h Bool.false_ne_true | exact absurd h.symm Bool.false_ne_true | conv => whnf))
    | (refine VL.drawS hTb hMix (by kernel_rfl) (by kernel_rfl) (by kernel_rfl) ?_; conv => whnf)
    | (refine Need.mk ?_; kernel_rfl) | (refine Need.mk ⟨rfl, ?_⟩; decide)
    | ((exfalso; omega))
    | (refine VR.pure hTb rfl rfl (o_purN (cN) rfl rfl rfl ⟨rfl, rfl, rfl, rfl⟩ rfl) ?_; conv => whnf)
    | (refine DT.pure hTb rfl (o_purN (cN) rfl rfl rfl ⟨rfl, rfl, rfl, rfl⟩ rfl) ?_; conv => whnf)
    | (refine VR.pure hTb rfl rfl (o_purN (cA) rfl rfl rfl ⟨rfl, rfl, rfl, rfl⟩ rfl) ?_; conv => whnf)
    | (refine DT.pure hTb rfl (o_purN (cA) rfl rfl rfl ⟨rfl, rfl, rfl, rfl⟩ rfl) ?_; conv => whnf)
    | (refine VR.fun hTb rfl rfl (o_funN (c0) false [] (fun h => by cases h) (by simp) rfl rfl rfl rfl rfl ⟨rfl, rfl, rfl, rfl⟩ rfl rfl) ?_; conv => whnf)
    | (refine DT.fun hTb rfl (o_funN (c0) false [] (fun h => by cases h) (by simp) rfl rfl rfl rfl rfl ⟨rfl, rfl, rfl, rfl⟩ rfl rfl) rfl ?_; conv => whnf))
    all_goals (first
      | rfl
      | exact endW [1036] rfl rfl rfl rfl rfl (LeS.refl _) rfl rfl
      | exact endW [1392] rfl rfl rfl rfl rfl (LeS.refl _) rfl rfl
      | exact endW [1400] rfl rfl rfl rfl rfl (LeS.refl _) rfl rfl
      | trace_state)
  rw [hn] at cA hr
  rw [if_neg (by omega), Int.toNat_natCast] at hr
  have eg : s.getD j (kCol 0) = s[j] := by simp [List.getD, hj]
  rw [eg] at hr
  have hmj : s[j].md := hs _ (List.getElem_mem hj)
  have hrow : s[0 + ((j : Nat) : Int).toNat]? = some s[j] := by rw [Int.toNat_natCast, Nat.zero_add, List.getElem?_eq_getElem hj]
  have hset : ∀ v : Col, s.set j v = s.set (0 + ((j : Nat) : Int).toNat) v := fun v => by rw [Int.toNat_natCast, Nat.zero_add]
  have ew : IntKind.i64.wrap ((j : Int) + 1) = ((j + 1 : Nat) : Int) := by rw [IntKind.wrap_i64]; omega
  rcases hk with rfl | rfl | rfl | rfl
  · exact absurd rfl hk1
  · -- taken out
    rw [if_pos rfl] at hr
    subst hr
    have hmd : mdCols (s.eraseIdx j) := hs.erase
    have hlen : (s.eraseIdx j).length ≤ s.length := List.length_eraseIdx_le _ _
    have cS := hok _ hmd (by omega)
    have cC := c_cloneCol (s.eraseIdx j) (by omega)
    have cD := c_DeleteCol s j hj (by omega)
    obtain ⟨x, hx⟩ : ∃ x, shapeOk (s.eraseIdx j) = x := ⟨_, rfl⟩
    rw [hx] at cS
    have hr2 : okO s (some (s.eraseIdx j)) = if x then (s.eraseIdx j, true) else (s, false) := by simp only [okO, hx]
    rw [hr2]
    refine funF_walk hTb Tryz.func142 rfl rfl Tryz.ntmps142 (by simp) (by simp) ?_
    cases x <;> (conv => whnf); repeat' (first
    | (refine And.intro ?_ ?_ <;> ((try intro h) <;> (try simp only [Bool.not_true, Bool.not_false, decide_eq_true_eq, decide_eq_false_iff_not, Int.not_lt, Int.not_le, gt_iff_lt, ge_iff_le] at h) <;> first | exact absurd h Bool.false_ne_true | exact absurd h.symm Bool.false_ne_true | conv => whnf))
    | (refine VL.drawS hTb hMix (by kernel_rfl) (by kernel_rfl) (by kernel_rfl) ?_; conv => whnf)
    | (refine Need.mk ?_; kernel_rfl) | (refine Need.mk ⟨rfl, ?_⟩; decide)
    | ((exfalso; omega))
    | (refine VR.pure hTb rfl rfl (o_purN (cN) rfl rfl rfl ⟨rfl, rfl, rfl, rfl⟩ rfl) ?_; conv => whnf)
    | (refine DT.pure hTb rfl (o_purN (cN) rfl rfl rfl ⟨rfl, rfl, rfl, rfl⟩ rfl) ?_; conv => whnf)
    | (refine VR.pure hTb rfl rfl (o_purN (cA) rfl rfl rfl ⟨rfl, rfl, rfl, rfl⟩ rfl) ?_; conv => whnf)
    | (refine DT.pure hTb rfl (o_purN (cA) rfl rfl rfl ⟨rfl, rfl, rfl, rfl⟩ rfl) ?_; conv => whnf)
    | (refine VR.fun hTb rfl rfl (o_funN (c0) false [] (fun h => by cases h) (by simp) rfl rfl rfl rfl rfl ⟨rfl, rfl, rfl, rfl⟩ rfl rfl) ?_; conv => whnf)
    | (refine DT.fun hTb rfl (o_funN (c0) false [] (fun h => by cases h) (by simp) rfl rfl rfl rfl rfl ⟨rfl, rfl, rfl, rfl⟩ rfl rfl) rfl ?_; conv => whnf)
    | (refine VR.fun hTb rfl rfl (o_funN cD false [1036] (fun h => by cases h) (by simp) rfl rfl rfl rfl rfl ⟨rfl, rfl, rfl, rfl⟩ ?_ rfl) ?_; exact congrArg (fun x => [Slot.one (.own 0 0 s.length), iS j, .one (.g (.int .i64 x))]) ew; conv => whnf)
    | (refine VR.pure hTb rfl rfl (o_purN cS rfl rfl rfl ⟨rfl, rfl, rfl, rfl⟩ ?_) ?_; exact congrArg (fun s => [s]) (brwE hj _); conv => whnf)
    | (refine VR.fun hTb rfl rfl (o_funN (cC) true [] (fun _ => grNewCol _ _) (by simp) rfl rfl rfl rfl rfl ⟨rfl, rfl, rfl, rfl⟩ ?_ rfl) ?_; exact congrArg (fun s => [s]) (brwE hj _); conv => whnf)
    | (refine DT.fun hTb rfl (o_funN (cC) true [] (fun _ => grNewCol _ _) (by simp) rfl rfl rfl rfl rfl ⟨rfl, rfl, rfl, rfl⟩ ?_ rfl) rfl ?_; exact congrArg (fun s => [s]) (brwE hj _); conv => whnf))
    all_goals (first
      | rfl
      | exact endW [1036] rfl rfl rfl rfl rfl (LeS.refl _) rfl rfl
      | exact endW [1392] rfl rfl rfl rfl rfl (LeS.refl _) rfl rfl
      | exact endW [1400] rfl rfl rfl rfl rfl (LeS.refl _) rfl rfl
      | trace_state)
  · -- named otherwise
    rw [if_neg (by omega), if_pos rfl, hset] at hr
    generalize s[j] = sj at hrow hr hmj
    obtain ⟨x1, x2, x3, x4, ⟨x5, x6, x7⟩⟩ := sj
    subst hr
    have hmd : mdCols (s.set (0 + ((j : Nat) : Int).toNat) (ccName ⟨x1, x2, x3, x4, ⟨x5, x6, x7⟩⟩ nw)) := hs.set ⟨hc2, hmj.2⟩
    simp only [ccName] at hmd ⊢
    have cS := hok _ hmd (by simp; omega)
    have cC := c_cloneCol (s.set (0 + ((j : Nat) : Int).toNat) ⟨nw, x2, x3, x4, ⟨x5, x6, x7⟩⟩) (by simp; omega)
    obtain ⟨x, hx⟩ : ∃ x, shapeOk (s.set (0 + ((j : Nat) : Int).toNat) ⟨nw, x2, x3, x4, ⟨x5, x6, x7⟩⟩) = x := ⟨_, rfl⟩
    rw [hx] at cS
    have hr2 : okO s (some (s.set (0 + ((j : Nat) : Int).toNat) ⟨nw, x2, x3, x4, ⟨x5, x6, x7⟩⟩)) = if x then (s.set (0 + ((j : Nat) : Int).toNat) ⟨nw, x2, x3, x4, ⟨x5, x6, x7⟩⟩, true) else (s, false) := by simp only [okO, hx]
    rw [hr2]
    refine funF_walk hTb Tryz.func142 rfl rfl Tryz.ntmps142 (by simp) (by simp) ?_
    cases x <;> (conv => whnf); repeat' (first
    | (refine And.intro ?_ ?_ <;> ((try intro h) <;> (try simp only [Bool.not_true, Bool.not_false, decide_eq_true_eq, decide_eq_false_iff_not, Int.not_lt, Int.not_le, gt_iff_lt, ge_iff_le] at h) <;> first | exact absurd h Bool.false_ne_true | exact absurd h.symm Bool.false_ne_true | conv => whnf))
    | (refine VL.drawS hTb hMix (by kernel_rfl) (by kernel_rfl) (by kernel_rfl) ?_; conv => whnf)
    | (refine Need.mk ?_; kernel_rfl) | (refine Need.mk ⟨rfl, ?_⟩; decide)
    | ((exfalso; omega))
    | (refine VR.pure hTb rfl rfl (o_purN (cN) rfl rfl rfl ⟨rfl, rfl, rfl, rfl⟩ rfl) ?_; conv => whnf)
    | (refine DT.pure hTb rfl (o_purN (cN) rfl rfl rfl ⟨rfl, rfl, rfl, rfl⟩ rfl) ?_; conv => whnf)
    | (refine VR.pure hTb rfl rfl (o_purN (cA) rfl rfl rfl ⟨rfl, rfl, rfl, rfl⟩ rfl) ?_; conv => whnf)
    | (refine DT.pure hTb rfl (o_purN (cA) rfl rfl rfl ⟨rfl, rfl, rfl, rfl⟩ rfl) ?_; conv => whnf)
    | (refine VR.fun hTb rfl rfl (o_funN (c0) false [] (fun h => by cases h) (by simp) rfl rfl rfl rfl rfl ⟨rfl, rfl, rfl, rfl⟩ rfl rfl) ?_; conv => whnf)
    | (refine DT.fun hTb rfl (o_funN (c0) false [] (fun h => by cases h) (by simp) rfl rfl rfl rfl rfl ⟨rfl, rfl, rfl, rfl⟩ rfl rfl) rfl ?_; conv => whnf)
    | (refine Need.mk ?_; exact ⟨rfl, by omega, by omega⟩)
    | (refine VR.op hTb rfl rfl (o_storeM hTb rfl rfl rfl rfl rfl (hrow) rfl rfl rfl ⟨rfl, by decide⟩ (c' := ⟨_, _, _, _, ⟨_, _, _⟩⟩) rfl) rfl ?_; conv => whnf)
    | (refine DT.op hTb rfl (o_storeM hTb rfl rfl rfl rfl rfl (hrow) rfl rfl rfl ⟨rfl, by decide⟩ (c' := ⟨_, _, _, _, ⟨_, _, _⟩⟩) rfl) rfl ?_; conv => whnf)
    | (refine VR.pure hTb rfl rfl (o_purN cS rfl rfl rfl ⟨rfl, rfl, rfl, rfl⟩ ?_) ?_; exact congrArg (fun s => [s]) (brwG (by simp)); conv => whnf)
    | (refine VR.fun hTb rfl rfl (o_funN (cC) true [] (fun _ => grNewCol _ _) (by simp) rfl rfl rfl rfl rfl ⟨rfl, rfl, rfl, rfl⟩ ?_ rfl) ?_; exact congrArg (fun s => [s]) (brwG (by simp)); conv => whnf)
    | (refine DT.fun hTb rfl (o_funN (cC) true [] (fun _ => grNewCol _ _) (by simp) rfl rfl rfl rfl rfl ⟨rfl, rfl, rfl, rfl⟩ ?_ rfl) rfl ?_; exact congrArg (fun s => [s]) (brwG (by simp)); conv => whnf))
    all_goals (first
      | rfl
      | exact endW [1036] rfl rfl rfl rfl rfl (LeS.refl _) rfl rfl
      | exact endW [1392] rfl rfl rfl rfl rfl (LeS.refl _) rfl rfl
      | exact endW [1400] rfl rfl rfl rfl rfl (LeS.refl _) rfl rfl
      | trace_state)
  · -- of another kind
    rw [if_neg (by omega), if_neg (by omega), hset] at hr
    generalize s[j] = sj at hrow hr hmj
    obtain ⟨x1, x2, x3, x4, ⟨x5, x6, x7⟩⟩ := sj
    have cV := c_implValAs x5 x6 x7 ck (by have := hmj.2; simp only at this; omega)
    obtain ⟨⟨y1, y2, y3⟩, hy⟩ : ∃ y, valAs ⟨x5, x6, x7⟩ ck = y := ⟨_, rfl⟩
    have hys := valAs_size ⟨x5, x6, x7⟩ ck
    rw [hy] at cV hys
    by_cases he : ck = x2
    · rw [if_pos he] at hr
      subst he
      subst hr
      refine funF_walk hTb Tryz.func142 rfl rfl Tryz.ntmps142 (by simp) (by simp) ?_
      (conv => whnf); repeat' (first
    | (refine And.intro ?_ ?_ <;> ((try intro h) <;> (try simp only [Bool.not_true, Bool.not_false, decide_eq_true_eq, decide_eq_false_iff_not, Int.not_lt, Int.not_le, gt_iff_lt, ge_iff_le] at h) <;> first | exact absurd h Bool.false_ne_true | exact absurd h.symm Bool.false_ne_true | conv => whnf))
    | (refine VL.drawS hTb hMix (by kernel_rfl) (by kernel_rfl) (by kernel_rfl) ?_; conv => whnf)
    | (refine Need.mk ?_; kernel_rfl) | (refine Need.mk ⟨rfl, ?_⟩; decide)
    | ((exfalso; omega))
    | (refine VR.pure hTb rfl rfl (o_purN (cN) rfl rfl rfl ⟨rfl, rfl, rfl, rfl⟩ rfl) ?_; conv => whnf)
    | (refine DT.pure hTb rfl (o_purN (cN) rfl rfl rfl ⟨rfl, rfl, rfl, rfl⟩ rfl) ?_; conv => whnf)
    | (refine VR.pure hTb rfl rfl (o_purN (cA) rfl rfl rfl ⟨rfl, rfl, rfl, rfl⟩ rfl) ?_; conv => whnf)
    | (refine DT.pure hTb rfl (o_purN (cA) rfl rfl rfl ⟨rfl, rfl, rfl, rfl⟩ rfl) ?_; conv => whnf)
    | (refine VR.fun hTb rfl rfl (o_funN (c0) false [] (fun h => by cases h) (by simp) rfl rfl rfl rfl rfl ⟨rfl, rfl, rfl, rfl⟩ rfl rfl) ?_; conv => whnf)
    | (refine DT.fun hTb rfl (o_funN (c0) false [] (fun h => by cases h) (by simp) rfl rfl rfl rfl rfl ⟨rfl, rfl, rfl, rfl⟩ rfl rfl) rfl ?_; conv => whnf)
    | (refine Need.mk ?_; exact ⟨rfl, by omega, by omega⟩)
    | (refine VR.op hTb rfl rfl (o_loadM hTb rfl rfl rfl rfl (hrow) ⟨by decide, by decide⟩) rfl ?_; conv => whnf)
    | (refine DT.op hTb rfl (o_loadM hTb rfl rfl rfl rfl (hrow) ⟨by decide, by decide⟩) rfl ?_; conv => whnf))
      all_goals (first
        | exact endW [1036] rfl rfl rfl rfl rfl (LeS.refl _) rfl rfl
        | (exfalso; clear cN cA c0 hok cV; simp_all; done)
        | trace_state)
    · rw [if_neg he] at hr
      simp only [ccKind, hy] at hr
      have hrow2 : (s.set (0 + ((j : Nat) : Int).toNat) ⟨x1, ck, x3, x4, ⟨x5, x6, x7⟩⟩)[0 + ((j : Nat) : Int).toNat]? = some ⟨x1, ck, x3, x4, ⟨x5, x6, x7⟩⟩ := by rw [Int.toNat_natCast, Nat.zero_add, List.getElem?_set_self hj]
      have e2 : s.set (0 + ((j : Nat) : Int).toNat) ⟨x1, ck, x3, x4, ⟨y1, y2, y3⟩⟩ = (s.set (0 + ((j : Nat) : Int).toNat) ⟨x1, ck, x3, x4, ⟨x5, x6, x7⟩⟩).set (0 + ((j : Nat) : Int).toNat) ⟨x1, ck, x3, x4, ⟨y1, y2, y3⟩⟩ := by rw [List.set_set]
      subst hr
      have hmd : mdCols (s.set (0 + ((j : Nat) : Int).toNat) ⟨x1, ck, x3, x4, ⟨y1, y2, y3⟩⟩) := hs.set ⟨hmj.1, by simp only at hys ⊢; omega⟩
      have cS := hok _ hmd (by simp; omega)
      have cC := c_cloneCol (s.set (0 + ((j : Nat) : Int).toNat) ⟨x1, ck, x3, x4, ⟨y1, y2, y3⟩⟩) (by simp; omega)
      obtain ⟨x, hx⟩ : ∃ x, shapeOk (s.set (0 + ((j : Nat) : Int).toNat) ⟨x1, ck, x3, x4, ⟨y1, y2, y3⟩⟩) = x := ⟨_, rfl⟩
      rw [hx] at cS
      have hr2 : okO s (some (s.set (0 + ((j : Nat) : Int).toNat) ⟨x1, ck, x3, x4, ⟨y1, y2, y3⟩⟩)) = if x then (s.set (0 + ((j : Nat) : Int).toNat) ⟨x1, ck, x3, x4, ⟨y1, y2, y3⟩⟩, true) else (s, false) := by simp only [okO, hx]
      rw [hr2]
      rw [e2] at cS cC
      rw [e2]
      refine funF_walk hTb Tryz.func142 rfl rfl Tryz.ntmps142 (by simp) (by simp) ?_
      cases x <;> (conv => whnf); repeat' (first
    | (refine And.intro ?_ ?_ <;> ((try intro h) <;> (try simp only [Bool.not_true, Bool.not_false, decide_eq_true_eq, decide_eq_false_iff_not, Int.not_lt, Int.not_le, gt_iff_lt, ge_iff_le] at h) <;> first | exact absurd h Bool.false_ne_true | exact absurd h.symm Bool.false_ne_true | conv => whnf))
    | (refine VL.drawS hTb hMix (by kernel_rfl) (by kernel_rfl) (by kernel_rfl) ?_; conv => whnf)
    | (refine Need.mk ?_; kernel_rfl) | (refine Need.mk ⟨rfl, ?_⟩; decide)
    | ((exfalso; omega))
    | (refine VR.pure hTb rfl rfl (o_purN (cN) rfl rfl rfl ⟨rfl, rfl, rfl, rfl⟩ rfl) ?_; conv => whnf)
    | (refine DT.pure hTb rfl (o_purN (cN) rfl rfl rfl ⟨rfl, rfl, rfl, rfl⟩ rfl) ?_; conv => whnf)
    | (refine VR.pure hTb rfl rfl (o_purN (cA) rfl rfl rfl ⟨rfl, rfl, rfl, rfl⟩ rfl) ?_; conv => whnf)
    | (refine DT.pure hTb rfl (o_purN (cA) rfl rfl rfl ⟨rfl, rfl, rfl, rfl⟩ rfl) ?_; conv => whnf)
    | (refine VR.fun hTb rfl rfl (o_funN (c0) false [] (fun h => by cases h) (by simp) rfl rfl rfl rfl rfl ⟨rfl, rfl, rfl, rfl⟩ rfl rfl) ?_; conv => whnf)
    | (refine DT.fun hTb rfl (o_funN (c0) false [] (fun h => by cases h) (by simp) rfl rfl rfl rfl rfl ⟨rfl, rfl, rfl, rfl⟩ rfl rfl) rfl ?_; conv => whnf)
    | (refine Need.mk ?_; exact ⟨rfl, by omega, by omega⟩)
    | (refine VR.op hTb rfl rfl (o_loadM hTb rfl rfl rfl rfl (hrow) ⟨by decide, by decide⟩) rfl ?_; conv => whnf)
    | (refine DT.op hTb rfl (o_loadM hTb rfl rfl rfl rfl (hrow) ⟨by decide, by decide⟩) rfl ?_; conv => whnf)
    | (refine VR.op hTb rfl rfl (o_storeM hTb rfl rfl rfl rfl rfl (hrow) rfl rfl rfl ⟨rfl, by decide⟩ (c' := ⟨_, _, _, _, ⟨_, _, _⟩⟩) rfl) rfl ?_; conv => whnf)
    | (refine DT.op hTb rfl (o_storeM hTb rfl rfl rfl rfl rfl (hrow) rfl rfl rfl ⟨rfl, by decide⟩ (c' := ⟨_, _, _, _, ⟨_, _, _⟩⟩) rfl) rfl ?_; conv => whnf)
    | (refine VR.pure hTb rfl rfl (o_purN (cV) rfl rfl rfl ⟨rfl, rfl, rfl, rfl⟩ rfl) ?_; conv => whnf)
    | (refine DT.pure hTb rfl (o_purN (cV) rfl rfl rfl ⟨rfl, rfl, rfl, rfl⟩ rfl) ?_; conv => whnf)
    | (refine VR.op hTb rfl rfl (o_storeM hTb rfl rfl rfl rfl rfl (hrow2) rfl rfl rfl ⟨rfl, by decide⟩ (c' := ⟨_, _, _, _, ⟨_, _, _⟩⟩) rfl) rfl ?_; conv => whnf)
    | (refine DT.op hTb rfl (o_storeM hTb rfl rfl rfl rfl rfl (hrow2) rfl rfl rfl ⟨rfl, by decide⟩ (c' := ⟨_, _, _, _, ⟨_, _, _⟩⟩) rfl) rfl ?_; conv => whnf)
    | (refine VR.pure hTb rfl rfl (o_purN cS rfl rfl rfl ⟨rfl, rfl, rfl, rfl⟩ ?_) ?_; exact congrArg (fun s => [s]) (brwG (by simp)); conv => whnf)
    | (refine VR.fun hTb rfl rfl (o_funN (cC) true [] (fun _ => grNewCol _ _) (by simp) rfl rfl rfl rfl rfl ⟨rfl, rfl, rfl, rfl⟩ ?_ rfl) ?_; exact congrArg (fun s => [s]) (brwG (by simp)); conv => whnf)
    | (refine DT.fun hTb rfl (o_funN (cC) true [] (fun _ => grNewCol _ _) (by simp) rfl rfl rfl rfl rfl ⟨rfl, rfl, rfl, rfl⟩ ?_ rfl) rfl ?_; exact congrArg (fun s => [s]) (brwG (by simp)); conv => whnf))
      all_goals (first
        | rfl
        | exact endW [1392] rfl rfl rfl rfl rfl (LeS.refl _) rfl rfl
        | exact endW [1400] rfl rfl rfl rfl rfl (LeS.refl _) rfl rfl
        | (exfalso; clear cN cA c0 hok cV cS cC; simp_all; done)
        | trace_state)
end Go.Vl

namespace Go.Vl
open Go Go.RowKit Go.Proofs
set_option maxRecDepth 100000
set_option linter.unusedSimpArgs false
set_option linter.unusedVariables false
set_option linter.unnecessarySimpa false
set_option maxHeartbeats 4000000

theorem nott {b : Bool} (h : (!b) = true) : b = false := by cases b <;> simp_all
theorem notf {b : Bool} (h : (!b) = false) : b = true := by cases b <;> simp_all
theorem q_Val_iff' (a b : Val) : q_Val a b = true ↔ a.k = b.k ∧ a.n = b.n ∧ a.t.toList = b.t.toList := by simp [q_Val]
theorem q_Col_iff' (a b : Col) : q_Col a b = true ↔ a.name.toList = b.name.toList ∧ a.kind = b.kind ∧ a.need = b.need ∧ a.once = b.once ∧ a.d.k = b.d.k ∧ a.d.n = b.d.n ∧ a.d.t.toList = b.d.t.toList := by
  simp [q_Col, q_Val_iff']
theorem q_Col_comm' (a b : Col) : q_Col a b = q_Col b a := by
  rw [Bool.eq_iff_iff, q_Col_iff', q_Col_iff']
  constructor <;> rintro ⟨h1, h2, h3, h4, h5, h6, h7⟩ <;> exact ⟨h1.symm, h2.symm, h3.symm, h4.symm, h5.symm, h6.symm, h7.symm⟩
theorem ch_eq (s : List Col) (c : Change) : chDo s c =
    if c.kind = 1 then (if c.name.toList = (⟨#[]⟩ : ByteArray).toList ∧ c.new.toList = (⟨#[]⟩ : ByteArray).toList ∧ (c.col.need = false ∨ c.col.d.k ≠ 0) then some (s ++ [c.col]) else none)
    else if nameAt s c.name < 0 ∨ q_Col c.col (kCol (if c.kind = 4 then c.col.kind else 0)) = false then none
    else if c.kind = 2 then (if c.new.toList = (⟨#[]⟩ : ByteArray).toList then some (s.eraseIdx (nameAt s c.name).toNat) else none)
    else if c.kind = 3 then some (s.set (nameAt s c.name).toNat (ccName (s.getD (nameAt s c.name).toNat (kCol 0)) c.new))
    else if c.kind = 4 then (if c.new.toList = (⟨#[]⟩ : ByteArray).toList ∧ c.col.kind ≠ (s.getD (nameAt s c.name).toNat (kCol 0)).kind then some (s.set (nameAt s c.name).toNat (ccKind (s.getD (nameAt s c.name).toNat (kCol 0)) c.col.kind)) else none)
    else none := by
  unfold chDo namedB
  rw [q_Col_comm' c.col]
  simp only [emptyList]
  by_cases h1 : c.kind = 1
  · simp only [if_pos h1]
    by_cases h2 : c.name.toList = []
    · by_cases h3 : c.new.toList = []
      · cases hn : c.col.need <;> by_cases h4 : c.col.d.k = 0 <;> simp [h2, h3, h4]
      · have h3' := Ne.symm h3; simp [h3, h3']
    · have h2' := Ne.symm h2; simp [h2, h2']
  · simp only [if_neg h1]
    by_cases h2 : c.kind = 2
    · have h4 : c.kind ≠ 4 := by omega
      simp only [if_pos h2, if_neg h4]
      by_cases h3 : c.new.toList = []
      · cases hq : q_Col (kCol 0) c.col <;> by_cases hn : nameAt s c.name < 0 <;> simp [h3, hn]
      · have h3' := Ne.symm h3; simp [h3, h3']
    · simp only [if_neg h2]
      by_cases h3 : c.kind = 3
      · have h4 : c.kind ≠ 4 := by omega
        simp only [if_pos h3, if_neg h4]
        cases hq : q_Col (kCol 0) c.col <;> by_cases hn : nameAt s c.name < 0 <;> simp [hn]
      · simp only [if_neg h3]
        by_cases h4 : c.kind = 4
        · simp only [if_pos h4]
          by_cases h5 : c.new.toList = []
          · cases hq : q_Col (kCol c.col.kind) c.col <;> by_cases hn : nameAt s c.name < 0 <;> by_cases hk : c.col.kind = (s.getD (nameAt s c.name).toNat (kCol 0)).kind <;> simp [h5, hn, hk]
          · have h5' := Ne.symm h5; simp [h5, h5']
        · simp [h4]
def sdo (s : List Col) (c : Change) : List Col × Bool := if shapeOk s = true then shDo s c else ([], false)
theorem c_l2Do (s : List Col) (c : Change) (hl : s.length ≤ 1900000) (hs : mdCols s) (hc : c.md) : CallsV Tryz.prog 182 [colsI s, .agg (encChange c)] [] (funQ (.one (.own 0 0 ((chDo s c).getD []).length)) [] [.arr 39 7 (((chDo s c).getD []).map encCol)]) := by
  rw [ch_eq]
  obtain ⟨kd, nm, nw, ⟨cn, ck, c1, c2, ⟨d1, d2, d3⟩⟩⟩ := c
  simp only
  have cA := c_l2At s nm (by unfold maxLen; omega)
  have cR := c_l2Rest ⟨kd, nm, nw, ⟨cn, ck, c1, c2, ⟨d1, d2, d3⟩⟩⟩
  simp only at cR
  obtain ⟨hc1, hc2, hc3⟩ := hc
  simp only at hc1 hc2 hc3
  refine funF_walk hTb Tryz.func182 rfl rfl Tryz.ntmps182 (by simp) (by simp) ?_
  by_cases k1 : kd = 1
  · subst k1
    rw [if_pos rfl]
    cases c1 <;> (conv => whnf); repeat' (first
    | (refine And.intro ?_ ?_ <;> ((try intro h) <;> (try simp only [Bool.not_true, Bool.not_false, decide_eq_true_eq, decide_eq_false_iff_not, Int.not_lt, Int.not_le, gt_iff_lt, ge_iff_le] at h) <;> first | exact absurd h Bool.false_ne_true | exact absurd h.symm Bool.false_ne_true | conv => whnf))
    | (refine VL.drawS hTb hMix (by kernel_rfl) (by kernel_rfl) (by kernel_rfl) ?_; conv => whnf)
    | (refine Need.mk ?_; kernel_rfl) | (refine Need.mk ⟨rfl, ?_⟩; decide)
    | (refine VR.pure hTb rfl rfl (o_purN (cA) rfl rfl rfl ⟨rfl, rfl, rfl, rfl⟩ rfl) ?_; conv => whnf)
    | (refine DT.pure hTb rfl (o_purN (cA) rfl rfl rfl ⟨rfl, rfl, rfl, rfl⟩ rfl) ?_; conv => whnf)
    | (refine VR.opk hTb rfl rfl (o_app0 (f := encCol) (m := s) (q := 113) hTb rfl rfl rfl rfl rfl rfl rfl rfl rfl rfl (by omega) (by show _ * 64 ≤ _; omega) (by unfold maxLen; omega)) ?_; conv => whnf)
    | (refine DT.opk hTb rfl (o_app0 (f := encCol) (m := s) (q := 113) hTb rfl rfl rfl rfl rfl rfl rfl rfl rfl rfl (by omega) (by show _ * 64 ≤ _; omega) (by unfold maxLen; omega)) ?_; conv => whnf)
    | (refine VR.opk hTb rfl rfl (o_app1 (q := 145) (a := ⟨_, _, _, _, ⟨_, _, _⟩⟩) hTb rfl rfl rfl rfl rfl rfl rfl rfl rfl rfl rfl rfl (by omega) (by show _ * 64 ≤ _; omega) (by unfold maxLen; omega)) ?_; conv => whnf)
    | (refine DT.opk hTb rfl (o_app1 (q := 145) (a := ⟨_, _, _, _, ⟨_, _, _⟩⟩) hTb rfl rfl rfl rfl rfl rfl rfl rfl rfl rfl rfl rfl (by omega) (by show _ * 64 ≤ _; omega) (by unfold maxLen; omega)) ?_; conv => whnf)
    | (refine VR.pure hTb rfl rfl (o_purN (cR) rfl rfl rfl ⟨rfl, rfl, rfl, rfl⟩ rfl) ?_; conv => whnf)
    | (refine DT.pure hTb rfl (o_purN (cR) rfl rfl rfl ⟨rfl, rfl, rfl, rfl⟩ rfl) ?_; conv => whnf))
    all_goals clear cA cR
    all_goals first
      | (rw [if_pos (by simp_all)]; exact endW [145] rfl rfl rfl rfl rfl (LeS.of_eq (congrArg (fun n => Slot.one (.own 0 0 n)) (by simp))) rfl rfl)
      | (rw [if_neg (by simp_all)]; exact endW [161] rfl rfl rfl rfl rfl (LeS.refl _) rfl rfl)
      | (exfalso; simp_all; done)
      | trace_state
  rw [if_neg k1]
  rcases nameAt_spec s nm with ⟨hn, _⟩ | ⟨j, hj, hn, _⟩
  · rw [hn] at cA ⊢
    rw [if_pos (.inl (by omega))]
    (conv => whnf); repeat' (first
    | (refine And.intro ?_ ?_ <;> ((try intro h) <;> (try simp only [Bool.not_true, Bool.not_false, decide_eq_true_eq, decide_eq_false_iff_not, Int.not_lt, Int.not_le, gt_iff_lt, ge_iff_le] at h) <;> first | exact absurd h Bool.false_ne_true | exact absurd h.symm Bool.false_ne_true | conv => whnf))
    | (refine VL.drawS hTb hMix (by kernel_rfl) (by kernel_rfl) (by kernel_rfl) ?_; conv => whnf)
    | (refine Need.mk ?_; kernel_rfl) | (refine Need.mk ⟨rfl, ?_⟩; decide)
    | (refine VR.pure hTb rfl rfl (o_purN (cA) rfl rfl rfl ⟨rfl, rfl, rfl, rfl⟩ rfl) ?_; conv => whnf)
    | (refine DT.pure hTb rfl (o_purN (cA) rfl rfl rfl ⟨rfl, rfl, rfl, rfl⟩ rfl) ?_; conv => whnf)
    | (refine VR.opk hTb rfl rfl (o_app0 (f := encCol) (m := s) (q := 113) hTb rfl rfl rfl rfl rfl rfl rfl rfl rfl rfl (by omega) (by show _ * 64 ≤ _; omega) (by unfold maxLen; omega)) ?_; conv => whnf)
    | (refine DT.opk hTb rfl (o_app0 (f := encCol) (m := s) (q := 113) hTb rfl rfl rfl rfl rfl rfl rfl rfl rfl rfl (by omega) (by show _ * 64 ≤ _; omega) (by unfold maxLen; omega)) ?_; conv => whnf)
    | (refine VR.opk hTb rfl rfl (o_app1 (q := 145) (a := ⟨_, _, _, _, ⟨_, _, _⟩⟩) hTb rfl rfl rfl rfl rfl rfl rfl rfl rfl rfl rfl rfl (by omega) (by show _ * 64 ≤ _; omega) (by unfold maxLen; omega)) ?_; conv => whnf)
    | (refine DT.opk hTb rfl (o_app1 (q := 145) (a := ⟨_, _, _, _, ⟨_, _, _⟩⟩) hTb rfl rfl rfl rfl rfl rfl rfl rfl rfl rfl rfl rfl (by omega) (by show _ * 64 ≤ _; omega) (by unfold maxLen; omega)) ?_; conv => whnf)
    | (refine VR.pure hTb rfl rfl (o_purN (cR) rfl rfl rfl ⟨rfl, rfl, rfl, rfl⟩ rfl) ?_; conv => whnf)
    | (refine DT.pure hTb rfl (o_purN (cR) rfl rfl rfl ⟨rfl, rfl, rfl, rfl⟩ rfl) ?_; conv => whnf))
    all_goals clear cA cR
    all_goals first
      | exact endW [161] rfl rfl rfl rfl rfl (LeS.refl _) rfl rfl
      | (exfalso; simp_all; done)
      | trace_state
  rw [hn] at cA ⊢
  rw [Int.toNat_natCast]
  have eg : s.getD j (kCol 0) = s[j] := by simp [List.getD, hj]
  rw [eg]
  have hmj : s[j].md := hs _ (List.getElem_mem hj)
  have hrow : s[0 + ((j : Nat) : Int).toNat]? = some s[j] := by rw [Int.toNat_natCast, Nat.zero_add, List.getElem?_eq_getElem hj]
  have hrowI : (s.map encCol)[((j : Nat) : Int).toNat]? = some (encCol s[j]) := row_at hj
  have hset : ∀ v : Col, s.set j v = s.set (0 + ((j : Nat) : Int).toNat) v := fun v => by rw [Int.toNat_natCast, Nat.zero_add]
  obtain ⟨b, hb⟩ : ∃ b, q_Col ⟨cn, ck, c1, c2, ⟨d1, d2, d3⟩⟩ (kCol (if kd = 4 then ck else 0)) = b := ⟨_, rfl⟩
  rw [hb]
  cases b
  · rw [if_pos (.inr rfl)]
    by_cases k4 : kd = 4
    · subst k4
      (conv => whnf); repeat' (first
    | (exact absurd (hb.symm.trans (notf h)) (by decide))
    | (refine And.intro ?_ ?_ <;> ((try intro h) <;> (try simp only [Bool.not_true, Bool.not_false, decide_eq_true_eq, decide_eq_false_iff_not, Int.not_lt, Int.not_le, gt_iff_lt, ge_iff_le] at h) <;> first | exact absurd h Bool.false_ne_true | exact absurd h.symm Bool.false_ne_true | conv => whnf))
    | (refine VL.drawS hTb hMix (by kernel_rfl) (by kernel_rfl) (by kernel_rfl) ?_; conv => whnf)
    | (refine Need.mk ?_; kernel_rfl) | (refine Need.mk ⟨rfl, ?_⟩; decide)
    | ((exfalso; omega))
    | (refine VR.pure hTb rfl rfl (o_purN (cA) rfl rfl rfl ⟨rfl, rfl, rfl, rfl⟩ rfl) ?_; conv => whnf)
    | (refine DT.pure hTb rfl (o_purN (cA) rfl rfl rfl ⟨rfl, rfl, rfl, rfl⟩ rfl) ?_; conv => whnf)
    | (refine VR.opk hTb rfl rfl (o_app0 (f := encCol) (m := s) (q := 113) hTb rfl rfl rfl rfl rfl rfl rfl rfl rfl rfl (by omega) (by show _ * 64 ≤ _; omega) (by unfold maxLen; omega)) ?_; conv => whnf)
    | (refine DT.opk hTb rfl (o_app0 (f := encCol) (m := s) (q := 113) hTb rfl rfl rfl rfl rfl rfl rfl rfl rfl rfl (by omega) (by show _ * 64 ≤ _; omega) (by unfold maxLen; omega)) ?_; conv => whnf)
    | (refine VR.pure hTb rfl rfl (o_purN (cR) rfl rfl rfl ⟨rfl, rfl, rfl, rfl⟩ rfl) ?_; conv => whnf)
    | (refine DT.pure hTb rfl (o_purN (cR) rfl rfl rfl ⟨rfl, rfl, rfl, rfl⟩ rfl) ?_; conv => whnf))
      all_goals first
        | exact endW [161] rfl rfl rfl rfl rfl (LeS.refl _) rfl rfl
        | trace_state
    · rw [if_neg k4] at hb cR
      (conv => whnf); repeat' (first
    | (exact absurd (beq_iff_eq.1 h) k1)
    | (exact absurd (hb.symm.trans (notf h)) (by decide))
    | (refine And.intro ?_ ?_ <;> ((try intro h) <;> (try simp only [Bool.not_true, Bool.not_false, decide_eq_true_eq, decide_eq_false_iff_not, Int.not_lt, Int.not_le, gt_iff_lt, ge_iff_le] at h) <;> first | exact absurd h Bool.false_ne_true | exact absurd h.symm Bool.false_ne_true | conv => whnf))
    | (refine VL.drawS hTb hMix (by kernel_rfl) (by kernel_rfl) (by kernel_rfl) ?_; conv => whnf)
    | (refine Need.mk ?_; kernel_rfl) | (refine Need.mk ⟨rfl, ?_⟩; decide)
    | ((exfalso; omega))
    | (refine VR.pure hTb rfl rfl (o_purN (cA) rfl rfl rfl ⟨rfl, rfl, rfl, rfl⟩ rfl) ?_; conv => whnf)
    | (refine DT.pure hTb rfl (o_purN (cA) rfl rfl rfl ⟨rfl, rfl, rfl, rfl⟩ rfl) ?_; conv => whnf)
    | (refine VR.opk hTb rfl rfl (o_app0 (f := encCol) (m := s) (q := 113) hTb rfl rfl rfl rfl rfl rfl rfl rfl rfl rfl (by omega) (by show _ * 64 ≤ _; omega) (by unfold maxLen; omega)) ?_; conv => whnf)
    | (refine DT.opk hTb rfl (o_app0 (f := encCol) (m := s) (q := 113) hTb rfl rfl rfl rfl rfl rfl rfl rfl rfl rfl (by omega) (by show _ * 64 ≤ _; omega) (by unfold maxLen; omega)) ?_; conv => whnf)
    | (refine VR.pure hTb rfl rfl (o_purN (cR) rfl rfl rfl ⟨rfl, rfl, rfl, rfl⟩ rfl) ?_; conv => whnf)
    | (refine DT.pure hTb rfl (o_purN (cR) rfl rfl rfl ⟨rfl, rfl, rfl, rfl⟩ rfl) ?_; conv => whnf))
      all_goals first
        | exact endW [161] rfl rfl rfl rfl rfl (LeS.refl _) rfl rfl
        | trace_state
  rw [if_neg (fun h => by rcases h with h | h; omega; cases h)]
  by_cases k2 : kd = 2
  · subst k2
    rw [if_pos rfl]
    rw [if_neg (by omega)] at hb cR
    have cD := c_l2Cut s j hj (by omega)
    have el : (s.eraseIdx j).length = s.length - 1 := by rw [List.length_eraseIdx, if_pos hj]
    by_cases hw : nw.toList = (⟨#[]⟩ : ByteArray).toList
    · rw [if_pos hw]
      (conv => whnf); repeat' (first
    | (exact absurd hw (by simpa using h))
    | (exact absurd (hb.symm.trans (nott h)) (by decide))
    | (refine And.intro ?_ ?_ <;> ((try intro h) <;> (try simp only [Bool.not_true, Bool.not_false, decide_eq_true_eq, decide_eq_false_iff_not, Int.not_lt, Int.not_le, gt_iff_lt, ge_iff_le] at h) <;> first | exact absurd h Bool.false_ne_true | exact absurd h.symm Bool.false_ne_true | conv => whnf))
    | (refine VL.drawS hTb hMix (by kernel_rfl) (by kernel_rfl) (by kernel_rfl) ?_; conv => whnf)
    | (refine Need.mk ?_; kernel_rfl) | (refine Need.mk ⟨rfl, ?_⟩; decide)
    | ((exfalso; omega))
    | (refine VR.pure hTb rfl rfl (o_purN (cA) rfl rfl rfl ⟨rfl, rfl, rfl, rfl⟩ rfl) ?_; conv => whnf)
    | (refine DT.pure hTb rfl (o_purN (cA) rfl rfl rfl ⟨rfl, rfl, rfl, rfl⟩ rfl) ?_; conv => whnf)
    | (refine VR.opk hTb rfl rfl (o_app0 (f := encCol) (m := s) (q := 113) hTb rfl rfl rfl rfl rfl rfl rfl rfl rfl rfl (by omega) (by show _ * 64 ≤ _; omega) (by unfold maxLen; omega)) ?_; conv => whnf)
    | (refine DT.opk hTb rfl (o_app0 (f := encCol) (m := s) (q := 113) hTb rfl rfl rfl rfl rfl rfl rfl rfl rfl rfl (by omega) (by show _ * 64 ≤ _; omega) (by unfold maxLen; omega)) ?_; conv => whnf)
    | (refine VR.pure hTb rfl rfl (o_purN (cR) rfl rfl rfl ⟨rfl, rfl, rfl, rfl⟩ rfl) ?_; conv => whnf)
    | (refine DT.pure hTb rfl (o_purN (cR) rfl rfl rfl ⟨rfl, rfl, rfl, rfl⟩ rfl) ?_; conv => whnf)
    | (refine VR.fun hTb rfl rfl (o_funN (cD) false [] (fun h => by cases h) (by simp) rfl rfl rfl rfl rfl ⟨rfl, rfl, rfl, rfl⟩ rfl rfl) ?_; conv => whnf)
    | (refine DT.fun hTb rfl (o_funN (cD) false [] (fun h => by cases h) (by simp) rfl rfl rfl rfl rfl ⟨rfl, rfl, rfl, rfl⟩ rfl rfl) rfl ?_; conv => whnf))
      all_goals first
        | exact endW [1292] rfl rfl rfl rfl rfl (LeS.of_eq (congrArg (fun n => Slot.one (.own 0 0 n)) el.symm)) rfl rfl
        | trace_state
    · rw [if_neg hw]
      (conv => whnf); repeat' (first
    | (exact absurd (by simpa using h) hw)
    | (exact absurd (hb.symm.trans (nott h)) (by decide))
    | (refine And.intro ?_ ?_ <;> ((try intro h) <;> (try simp only [Bool.not_true, Bool.not_false, decide_eq_true_eq, decide_eq_false_iff_not, Int.not_lt, Int.not_le, gt_iff_lt, ge_iff_le] at h) <;> first | exact absurd h Bool.false_ne_true | exact absurd h.symm Bool.false_ne_true | conv => whnf))
    | (refine VL.drawS hTb hMix (by kernel_rfl) (by kernel_rfl) (by kernel_rfl) ?_; conv => whnf)
    | (refine Need.mk ?_; kernel_rfl) | (refine Need.mk ⟨rfl, ?_⟩; decide)
    | ((exfalso; omega))
    | (refine VR.pure hTb rfl rfl (o_purN (cA) rfl rfl rfl ⟨rfl, rfl, rfl, rfl⟩ rfl) ?_; conv => whnf)
    | (refine DT.pure hTb rfl (o_purN (cA) rfl rfl rfl ⟨rfl, rfl, rfl, rfl⟩ rfl) ?_; conv => whnf)
    | (refine VR.opk hTb rfl rfl (o_app0 (f := encCol) (m := s) (q := 113) hTb rfl rfl rfl rfl rfl rfl rfl rfl rfl rfl (by omega) (by show _ * 64 ≤ _; omega) (by unfold maxLen; omega)) ?_; conv => whnf)
    | (refine DT.opk hTb rfl (o_app0 (f := encCol) (m := s) (q := 113) hTb rfl rfl rfl rfl rfl rfl rfl rfl rfl rfl (by omega) (by show _ * 64 ≤ _; omega) (by unfold maxLen; omega)) ?_; conv => whnf)
    | (refine VR.pure hTb rfl rfl (o_purN (cR) rfl rfl rfl ⟨rfl, rfl, rfl, rfl⟩ rfl) ?_; conv => whnf)
    | (refine DT.pure hTb rfl (o_purN (cR) rfl rfl rfl ⟨rfl, rfl, rfl, rfl⟩ rfl) ?_; conv => whnf))
      all_goals first
        | exact endW [226] rfl rfl rfl rfl rfl (LeS.refl _) rfl rfl
        | trace_state
  rw [if_neg k2]
  by_cases k3 : kd = 3
  · subst k3
    rw [if_pos rfl, hset]
    rw [if_neg (by omega)] at hb cR
    generalize s[j] = sj at hrow hmj
    obtain ⟨x1, x2, x3, x4, ⟨x5, x6, x7⟩⟩ := sj
    simp only [ccName]
    (conv => whnf); repeat' (first
    | (exact absurd (hb.symm.trans (nott h)) (by decide))
    | (refine And.intro ?_ ?_ <;> ((try intro h) <;> (try simp only [Bool.not_true, Bool.not_false, decide_eq_true_eq, decide_eq_false_iff_not, Int.not_lt, Int.not_le, gt_iff_lt, ge_iff_le] at h) <;> first | exact absurd h Bool.false_ne_true | exact absurd h.symm Bool.false_ne_true | conv => whnf))
    | (refine VL.drawS hTb hMix (by kernel_rfl) (by kernel_rfl) (by kernel_rfl) ?_; conv => whnf)
    | (refine Need.mk ?_; kernel_rfl) | (refine Need.mk ⟨rfl, ?_⟩; decide)
    | ((exfalso; omega))
    | (refine VR.pure hTb rfl rfl (o_purN (cA) rfl rfl rfl ⟨rfl, rfl, rfl, rfl⟩ rfl) ?_; conv => whnf)
    | (refine DT.pure hTb rfl (o_purN (cA) rfl rfl rfl ⟨rfl, rfl, rfl, rfl⟩ rfl) ?_; conv => whnf)
    | (refine VR.opk hTb rfl rfl (o_app0 (f := encCol) (m := s) (q := 113) hTb rfl rfl rfl rfl rfl rfl rfl rfl rfl rfl (by omega) (by show _ * 64 ≤ _; omega) (by unfold maxLen; omega)) ?_; conv => whnf)
    | (refine DT.opk hTb rfl (o_app0 (f := encCol) (m := s) (q := 113) hTb rfl rfl rfl rfl rfl rfl rfl rfl rfl rfl (by omega) (by show _ * 64 ≤ _; omega) (by unfold maxLen; omega)) ?_; conv => whnf)
    | (refine VR.pure hTb rfl rfl (o_purN (cR) rfl rfl rfl ⟨rfl, rfl, rfl, rfl⟩ rfl) ?_; conv => whnf)
    | (refine DT.pure hTb rfl (o_purN (cR) rfl rfl rfl ⟨rfl, rfl, rfl, rfl⟩ rfl) ?_; conv => whnf)
    | (refine Need.mk ?_; exact ⟨rfl, by omega, by omega⟩)
    | (refine VR.op hTb rfl rfl (o_storeM hTb rfl rfl rfl rfl rfl (hrow) rfl rfl rfl ⟨rfl, by decide⟩ (c' := ⟨_, _, _, _, ⟨_, _, _⟩⟩) rfl) rfl ?_; conv => whnf)
    | (refine DT.op hTb rfl (o_storeM hTb rfl rfl rfl rfl rfl (hrow) rfl rfl rfl ⟨rfl, by decide⟩ (c' := ⟨_, _, _, _, ⟨_, _, _⟩⟩) rfl) rfl ?_; conv => whnf))
    all_goals first
      | exact endW [113] rfl rfl rfl rfl rfl (LeS.of_eq (congrArg (fun n => Slot.one (.own 0 0 n)) (by simp))) rfl rfl
      | trace_state
  rw [if_neg k3]
  by_cases k4 : kd = 4
  · subst k4
    rw [if_pos rfl] at hb cR
    rw [if_pos rfl]
    generalize s[j] = sj at hrow hrowI hmj
    obtain ⟨x1, x2, x3, x4, ⟨x5, x6, x7⟩⟩ := sj
    have cV := c_specValAs x5 x6 x7 ck (by have := hmj.2; simp only at this; unfold maxLen; omega)
    obtain ⟨⟨y1, y2, y3⟩, hy⟩ : ∃ y, valAs ⟨x5, x6, x7⟩ ck = y := ⟨_, rfl⟩
    rw [hy] at cV
    by_cases hw : nw.toList = (⟨#[]⟩ : ByteArray).toList ∧ ck ≠ x2
    · rw [if_pos hw, hset]
      simp only [ccKind, hy]
      have hrow2 : (s.set (0 + ((j : Nat) : Int).toNat) ⟨x1, ck, x3, x4, ⟨x5, x6, x7⟩⟩)[0 + ((j : Nat) : Int).toNat]? = some ⟨x1, ck, x3, x4, ⟨x5, x6, x7⟩⟩ := by rw [Int.toNat_natCast, Nat.zero_add, List.getElem?_set_self hj]
      have e2 : s.set (0 + ((j : Nat) : Int).toNat) ⟨x1, ck, x3, x4, ⟨y1, y2, y3⟩⟩ = (s.set (0 + ((j : Nat) : Int).toNat) ⟨x1, ck, x3, x4, ⟨x5, x6, x7⟩⟩).set (0 + ((j : Nat) : Int).toNat) ⟨x1, ck, x3, x4, ⟨y1, y2, y3⟩⟩ := by rw [List.set_set]
      rw [e2]
      (conv => whnf); repeat' (first
    | (exact absurd hw.1 (by simpa using h))
    | (exact absurd (by simpa using h) hw.2)
    | (exact absurd (hb.symm.trans (nott h)) (by decide))
    | (refine And.intro ?_ ?_ <;> ((try intro h) <;> (try simp only [Bool.not_true, Bool.not_false, decide_eq_true_eq, decide_eq_false_iff_not, Int.not_lt, Int.not_le, gt_iff_lt, ge_iff_le] at h) <;> first | exact absurd h Bool.false_ne_true | exact absurd h.symm Bool.false_ne_true | conv => whnf))
    | (refine VL.drawS hTb hMix (by kernel_rfl) (by kernel_rfl) (by kernel_rfl) ?_; conv => whnf)
    | (refine Need.mk ?_; kernel_rfl) | (refine Need.mk ⟨rfl, ?_⟩; decide)
    | ((exfalso; omega))
    | (refine VR.pure hTb rfl rfl (o_purN (cA) rfl rfl rfl ⟨rfl, rfl, rfl, rfl⟩ rfl) ?_; conv => whnf)
    | (refine DT.pure hTb rfl (o_purN (cA) rfl rfl rfl ⟨rfl, rfl, rfl, rfl⟩ rfl) ?_; conv => whnf)
    | (refine VR.opk hTb rfl rfl (o_app0 (f := encCol) (m := s) (q := 113) hTb rfl rfl rfl rfl rfl rfl rfl rfl rfl rfl (by omega) (by show _ * 64 ≤ _; omega) (by unfold maxLen; omega)) ?_; conv => whnf)
    | (refine DT.opk hTb rfl (o_app0 (f := encCol) (m := s) (q := 113) hTb rfl rfl rfl rfl rfl rfl rfl rfl rfl rfl (by omega) (by show _ * 64 ≤ _; omega) (by unfold maxLen; omega)) ?_; conv => whnf)
    | (refine VR.pure hTb rfl rfl (o_purN (cR) rfl rfl rfl ⟨rfl, rfl, rfl, rfl⟩ rfl) ?_; conv => whnf)
    | (refine DT.pure hTb rfl (o_purN (cR) rfl rfl rfl ⟨rfl, rfl, rfl, rfl⟩ rfl) ?_; conv => whnf)
    | (refine VR.op hTb rfl rfl (o_index_imm hTb rfl rfl rfl rfl rfl rfl rfl (by omega) (hrowI)) rfl ?_; conv => whnf)
    | (refine DT.op hTb rfl (o_index_imm hTb rfl rfl rfl rfl rfl rfl rfl (by omega) (hrowI)) rfl ?_; conv => whnf)
    | (refine Need.mk ?_; exact ⟨rfl, by omega, by omega⟩)
    | (refine VR.op hTb rfl rfl (o_storeM hTb rfl rfl rfl rfl rfl (hrow) rfl rfl rfl ⟨rfl, by decide⟩ (c' := ⟨_, _, _, _, ⟨_, _, _⟩⟩) rfl) rfl ?_; conv => whnf)
    | (refine DT.op hTb rfl (o_storeM hTb rfl rfl rfl rfl rfl (hrow) rfl rfl rfl ⟨rfl, by decide⟩ (c' := ⟨_, _, _, _, ⟨_, _, _⟩⟩) rfl) rfl ?_; conv => whnf)
    | (refine VR.pure hTb rfl rfl (o_purN (cV) rfl rfl rfl ⟨rfl, rfl, rfl, rfl⟩ rfl) ?_; conv => whnf)
    | (refine DT.pure hTb rfl (o_purN (cV) rfl rfl rfl ⟨rfl, rfl, rfl, rfl⟩ rfl) ?_; conv => whnf)
    | (refine VR.op hTb rfl rfl (o_storeM hTb rfl rfl rfl rfl rfl (hrow2) rfl rfl rfl ⟨rfl, by decide⟩ (c' := ⟨_, _, _, _, ⟨_, _, _⟩⟩) rfl) rfl ?_; conv => whnf)
    | (refine DT.op hTb rfl (o_storeM hTb rfl rfl rfl rfl rfl (hrow2) rfl rfl rfl ⟨rfl, by decide⟩ (c' := ⟨_, _, _, _, ⟨_, _, _⟩⟩) rfl) rfl ?_; conv => whnf))
      all_goals first
        | exact endW [113] rfl rfl rfl rfl rfl (LeS.of_eq (congrArg (fun n => Slot.one (.own 0 0 n)) (by simp))) rfl rfl
        | trace_state
    · rw [if_neg hw]
      (conv => whnf); repeat' (first
    | (exact absurd (hb.symm.trans (nott h)) (by decide))
    | (refine And.intro ?_ ?_ <;> ((try intro h) <;> (try simp only [Bool.not_true, Bool.not_false, decide_eq_true_eq, decide_eq_false_iff_not, Int.not_lt, Int.not_le, gt_iff_lt, ge_iff_le] at h) <;> first | exact absurd h Bool.false_ne_true | exact absurd h.symm Bool.false_ne_true | conv => whnf))
    | (refine VL.drawS hTb hMix (by kernel_rfl) (by kernel_rfl) (by kernel_rfl) ?_; conv => whnf)
    | (refine Need.mk ?_; kernel_rfl) | (refine Need.mk ⟨rfl, ?_⟩; decide)
    | ((exfalso; omega))
    | (refine VR.pure hTb rfl rfl (o_purN (cA) rfl rfl rfl ⟨rfl, rfl, rfl, rfl⟩ rfl) ?_; conv => whnf)
    | (refine DT.pure hTb rfl (o_purN (cA) rfl rfl rfl ⟨rfl, rfl, rfl, rfl⟩ rfl) ?_; conv => whnf)
    | (refine VR.opk hTb rfl rfl (o_app0 (f := encCol) (m := s) (q := 113) hTb rfl rfl rfl rfl rfl rfl rfl rfl rfl rfl (by omega) (by show _ * 64 ≤ _; omega) (by unfold maxLen; omega)) ?_; conv => whnf)
    | (refine DT.opk hTb rfl (o_app0 (f := encCol) (m := s) (q := 113) hTb rfl rfl rfl rfl rfl rfl rfl rfl rfl rfl (by omega) (by show _ * 64 ≤ _; omega) (by unfold maxLen; omega)) ?_; conv => whnf)
    | (refine VR.pure hTb rfl rfl (o_purN (cR) rfl rfl rfl ⟨rfl, rfl, rfl, rfl⟩ rfl) ?_; conv => whnf)
    | (refine DT.pure hTb rfl (o_purN (cR) rfl rfl rfl ⟨rfl, rfl, rfl, rfl⟩ rfl) ?_; conv => whnf)
    | (refine VR.op hTb rfl rfl (o_index_imm hTb rfl rfl rfl rfl rfl rfl rfl (by omega) (hrowI)) rfl ?_; conv => whnf)
    | (refine DT.op hTb rfl (o_index_imm hTb rfl rfl rfl rfl rfl rfl rfl (by omega) (hrowI)) rfl ?_; conv => whnf)
    | (refine Need.mk ?_; exact ⟨rfl, by omega, by omega⟩)
    | (refine VR.op hTb rfl rfl (o_storeM hTb rfl rfl rfl rfl rfl (hrow) rfl rfl rfl ⟨rfl, by decide⟩ (c' := ⟨_, _, _, _, ⟨_, _, _⟩⟩) rfl) rfl ?_; conv => whnf)
    | (refine DT.op hTb rfl (o_storeM hTb rfl rfl rfl rfl rfl (hrow) rfl rfl rfl ⟨rfl, by decide⟩ (c' := ⟨_, _, _, _, ⟨_, _, _⟩⟩) rfl) rfl ?_; conv => whnf)
    | (refine VR.pure hTb rfl rfl (o_purN (cV) rfl rfl rfl ⟨rfl, rfl, rfl, rfl⟩ rfl) ?_; conv => whnf)
    | (refine DT.pure hTb rfl (o_purN (cV) rfl rfl rfl ⟨rfl, rfl, rfl, rfl⟩ rfl) ?_; conv => whnf))
      all_goals first
        | exact endW [226] rfl rfl rfl rfl rfl (LeS.refl _) rfl rfl
        | (exfalso; clear cA cR cV; simp_all; done)
        | trace_state
  rw [if_neg k4]
  rw [if_neg k4] at hb cR
  (conv => whnf); repeat' (first
    | (exact absurd (beq_iff_eq.1 h) k1)
    | (exact absurd (beq_iff_eq.1 h) k2)
    | (exact absurd (beq_iff_eq.1 h) k3)
    | (exact absurd (beq_iff_eq.1 h) k4)
    | (exact absurd (hb.symm.trans (nott h)) (by decide))
    | (refine And.intro ?_ ?_ <;> ((try intro h) <;> (try simp only [Bool.not_true, Bool.not_false, decide_eq_true_eq, decide_eq_false_iff_not, Int.not_lt, Int.not_le, gt_iff_lt, ge_iff_le] at h) <;> first | exact absurd h Bool.false_ne_true | exact absurd h.symm Bool.false_ne_true | conv => whnf))
    | (refine VL.drawS hTb hMix (by kernel_rfl) (by kernel_rfl) (by kernel_rfl) ?_; conv => whnf)
    | (refine Need.mk ?_; kernel_rfl) | (refine Need.mk ⟨rfl, ?_⟩; decide)
    | ((exfalso; omega))
    | (refine VR.pure hTb rfl rfl (o_purN (cA) rfl rfl rfl ⟨rfl, rfl, rfl, rfl⟩ rfl) ?_; conv => whnf)
    | (refine DT.pure hTb rfl (o_purN (cA) rfl rfl rfl ⟨rfl, rfl, rfl, rfl⟩ rfl) ?_; conv => whnf)
    | (refine VR.opk hTb rfl rfl (o_app0 (f := encCol) (m := s) (q := 113) hTb rfl rfl rfl rfl rfl rfl rfl rfl rfl rfl (by omega) (by show _ * 64 ≤ _; omega) (by unfold maxLen; omega)) ?_; conv => whnf)
    | (refine DT.opk hTb rfl (o_app0 (f := encCol) (m := s) (q := 113) hTb rfl rfl rfl rfl rfl rfl rfl rfl rfl rfl (by omega) (by show _ * 64 ≤ _; omega) (by unfold maxLen; omega)) ?_; conv => whnf)
    | (refine VR.pure hTb rfl rfl (o_purN (cR) rfl rfl rfl ⟨rfl, rfl, rfl, rfl⟩ rfl) ?_; conv => whnf)
    | (refine DT.pure hTb rfl (o_purN (cR) rfl rfl rfl ⟨rfl, rfl, rfl, rfl⟩ rfl) ?_; conv => whnf))
  all_goals first
    | exact endW [226] rfl rfl rfl rfl rfl (LeS.refl _) rfl rfl
    | trace_state
end Go.Vl
