/- Contracts: copies of lists, things taken out of them. -/
import Derived.Test.YtegjajojckbkjaaDoorDg
import Derived.Test.YtegjajojckbkjaaDoorWi
namespace Go.Vl
open Go Go.RowKit Go.Proofs
set_option maxRecDepth 100000
set_option linter.unusedSimpArgs false
set_option linter.unusedVariables false
set_option maxHeartbeats 1000000
def zVal : Val := ⟨0, 0, ⟨#[]⟩⟩
def zCol : Col := ⟨⟨#[]⟩, 0, false, false, zVal⟩
def zChange : Change := ⟨0, ⟨#[]⟩, ⟨#[]⟩, zCol⟩
theorem take_drop_erase {α : Type} {L : List α} {n i : Nat} (hn : L.length = n) (h : i < n) (z : α) :
    (L.take i ++ (L.drop (i + 1)).take (n - (i + 1)) ++ L.drop (i + (n - (i + 1)))).take (0 + (i + (n - (i + 1)))) ++ List.replicate (n - (i + (n - (i + 1)))) z ++ (L.take i ++ (L.drop (i + 1)).take (n - (i + 1)) ++ L.drop (i + (n - (i + 1)))).drop (0 + (i + (n - (i + 1))) + (n - (i + (n - (i + 1))))) = L.eraseIdx i ++ [z] := by
  subst hn
  obtain ⟨a, ha⟩ : ∃ a, a = i + (L.length - (i + 1)) := ⟨_, rfl⟩
  have h1 : (L.drop (i + 1)).take (L.length - (i + 1)) = L.drop (i + 1) := List.take_of_length_le (by simp)
  have h3 : (L.take i ++ L.drop (i + 1)).length = 0 + a := by simp; omega
  have h4 : (L.drop a).length = 1 := by simp; omega
  have h5 : (L.take i ++ L.drop (i + 1) ++ L.drop a).drop (0 + a + 1) = [] := List.drop_eq_nil_of_le (by rw [List.length_append, h3, h4]; exact Nat.le_refl _)
  rw [h1, ← ha, show L.length - a = 1 by omega, List.take_left' h3, h5, List.append_nil, List.eraseIdx_eq_take_drop_succ]
  rfl
theorem map_erase {α β : Type} (f : α → β) : ∀ (l : List α) (i : Nat), (l.eraseIdx i).map f = (l.map f).eraseIdx i
  | [], _ => rfl
  | a :: l, 0 => rfl
  | a :: l, i + 1 => by simp [map_erase f l i]

theorem grVals (l : List Val) {E sz : Nat} : GrO (.arr E sz (l.map encVal)) := by
  intro r hr x hx
  obtain ⟨c, _, rfl⟩ := List.mem_map.1 hr
  obtain ⟨a1, a2, a3⟩ := c
  simp [encVal] at hx
  rcases hx with rfl | rfl | rfl <;> rfl
theorem c_CloneVal (l : List Val) (hl : l.length ≤ 2000000) : CallsV Tryd.prog 109 [.one (.imm 3 (l.map encVal))] [] (funQ (.one (.own 0 0 l.length)) [] [.arr 29 3 (l.map encVal)]) := by
  refine funF_walk hTb Tryd.func109 rfl rfl Tryd.ntmps109 (by simp) (by simp) ?_
  (conv => whnf); repeat' (first
    | (refine And.intro ?_ ?_ <;> ((try intro h) <;> (try simp only [Bool.not_true, Bool.not_false, decide_eq_true_eq, decide_eq_false_iff_not, Int.not_lt, Int.not_le, gt_iff_lt, ge_iff_le] at h) <;> first | exact absurd h Bool.false_ne_true | exact absurd h.symm Bool.false_ne_true | conv => whnf))
    | (refine VL.drawS hTb hMix (by kernel_rfl) (by kernel_rfl) (by kernel_rfl) ?_; conv => whnf)
    | (refine Need.mk ?_; kernel_rfl) | (refine Need.mk ⟨rfl, ?_⟩; decide)
    | (refine VR.rel hTb rfl rfl (o_isnil hTb rfl rfl rfl rfl) ?_; intro b hb; conv => whnf)
    | (refine VR.opk hTb rfl rfl (o_app0 (f := encVal) (m := l) (q := 107) hTb rfl rfl rfl rfl rfl rfl rfl rfl rfl rfl (by omega) (by show _ * 32 ≤ _; omega) (by unfold maxLen; omega)) ?_; conv => whnf)
    | (refine DT.opk hTb rfl (o_app0 (f := encVal) (m := l) (q := 107) hTb rfl rfl rfl rfl rfl rfl rfl rfl rfl rfl (by omega) (by show _ * 32 ≤ _; omega) (by unfold maxLen; omega)) ?_; conv => whnf))
  · have e := hb ‹b = true›
    have e : l = [] := by cases l with | nil => rfl | cons => simp at e
    subst e
    exact EndV.nil 2 102 3 29 rfl rfl (by decide) (endW [102] rfl rfl rfl rfl rfl (LeS.refl _) rfl rfl)
  · exact endW [107] rfl rfl rfl rfl rfl (LeS.refl _) rfl rfl
theorem c_ClipVal (l : List Val) (hl : l.length ≤ 2000000) : CallsV Tryd.prog 108 [.one (.own 0 0 l.length)] [.arr 29 3 (l.map encVal)] (funQ (.one (.own 0 0 l.length)) [some (.arr 29 3 (l.map encVal))] []) := by
  refine funF_walk hTb Tryd.func108 rfl rfl Tryd.ntmps108 (by simp) (by simp) ?_
  (conv => whnf); repeat' (first
    | (refine And.intro ?_ ?_ <;> ((try intro h) <;> (try simp only [Bool.not_true, Bool.not_false, decide_eq_true_eq, decide_eq_false_iff_not, Int.not_lt, Int.not_le, gt_iff_lt, ge_iff_le] at h) <;> first | exact absurd h Bool.false_ne_true | exact absurd h.symm Bool.false_ne_true | conv => whnf))
    | (refine VL.drawS hTb hMix (by kernel_rfl) (by kernel_rfl) (by kernel_rfl) ?_; conv => whnf)
    | (refine Need.mk ?_; kernel_rfl) | (refine Need.mk ⟨rfl, ?_⟩; decide)
    | (refine VR.op hTb rfl rfl (o_slice3_own (n1 := 0) (n2 := l.length) (n3 := l.length) hTb rfl rfl rfl rfl rfl rfl rfl bnd_none (bnd_some rfl) (bnd_some rfl) (Nat.zero_le _) (Nat.le_refl _) (Nat.le_refl _) (by simp)) rfl ?_; conv => whnf))
  exact endW [] rfl rfl rfl rfl rfl (LeS.refl _) rfl rfl
theorem c_cloneVal (l : List Val) (hl : l.length ≤ 2000000) : CallsV Tryd.prog 94 [.one (.imm 3 (l.map encVal))] [] (funQ (.one (.own 0 0 l.length)) [] [.arr 29 3 (l.map encVal)]) := by
  refine funF_walk hTb Tryd.func94 rfl rfl Tryd.ntmps94 (by simp) (by simp) ?_
  (conv => whnf); repeat' (first
    | (refine And.intro ?_ ?_ <;> ((try intro h) <;> (try simp only [Bool.not_true, Bool.not_false, decide_eq_true_eq, decide_eq_false_iff_not, Int.not_lt, Int.not_le, gt_iff_lt, ge_iff_le] at h) <;> first | exact absurd h Bool.false_ne_true | exact absurd h.symm Bool.false_ne_true | conv => whnf))
    | (refine VL.drawS hTb hMix (by kernel_rfl) (by kernel_rfl) (by kernel_rfl) ?_; conv => whnf)
    | (refine Need.mk ?_; kernel_rfl) | (refine Need.mk ⟨rfl, ?_⟩; decide)
    | (refine VR.fun hTb rfl rfl (o_funN (c_CloneVal l hl) false [] (fun h => by cases h) (by simp) rfl rfl rfl rfl rfl ⟨rfl, rfl, rfl, rfl⟩ rfl rfl) ?_; conv => whnf)
    | (refine DT.fun hTb rfl (o_funN (c_CloneVal l hl) false [] (fun h => by cases h) (by simp) rfl rfl rfl rfl rfl ⟨rfl, rfl, rfl, rfl⟩ rfl rfl) rfl ?_; conv => whnf)
    | (refine VR.fun hTb rfl rfl (o_funN (c_ClipVal l hl) false [1016] (fun h => by cases h) (by simp) rfl rfl rfl rfl rfl ⟨rfl, rfl, rfl, rfl⟩ rfl rfl) ?_; conv => whnf)
    | (refine DT.fun hTb rfl (o_funN (c_ClipVal l hl) false [1016] (fun h => by cases h) (by simp) rfl rfl rfl rfl rfl ⟨rfl, rfl, rfl, rfl⟩ rfl rfl) rfl ?_; conv => whnf))
  exact endW [1016] rfl rfl rfl rfl rfl (LeS.refl _) rfl rfl
theorem c_DeleteVal (l : List Val) (i : Nat) (hi : i < l.length) (hl : l.length ≤ 2000000) : CallsV Tryd.prog 95 [.one (.own 0 0 l.length), iS i, iS ((i + 1 : Nat) : Int)] [.arr 29 3 (l.map encVal)]
    (funQ (.one (.own 0 0 (l.length - 1))) [some (.arr 29 3 ((l.eraseIdx i ++ [zVal]).map encVal))] []) := by
  refine funF_walk hTb Tryd.func95 rfl rfl Tryd.ntmps95 (by simp) (by simp) ?_
  have hlm : (l.map encVal).length = l.length := List.length_map _
  have e1 : i + (l.length - (i + 1)) = l.length - 1 := by omega
  (conv => whnf); repeat' (first
    | (refine And.intro ?_ ?_ <;> ((try intro h) <;> (try simp only [Bool.not_true, Bool.not_false, decide_eq_true_eq, decide_eq_false_iff_not, Int.not_lt, Int.not_le, gt_iff_lt, ge_iff_le] at h) <;> first | exact absurd h Bool.false_ne_true | exact absurd h.symm Bool.false_ne_true | conv => whnf))
    | (refine VL.drawS hTb hMix (by kernel_rfl) (by kernel_rfl) (by kernel_rfl) ?_; conv => whnf)
    | (refine Need.mk ?_; kernel_rfl) | (refine Need.mk ⟨rfl, ?_⟩; decide)
    | (refine VR.op hTb rfl rfl (o_slice3_own (n1 := i) (n2 := i + 1) (n3 := l.length) hTb rfl rfl rfl rfl rfl rfl rfl (bnd_some rfl) (bnd_some rfl) (bnd_some rfl) (Nat.le_succ _) (by omega) (Nat.le_refl _) (by simp)) rfl ?_; conv => whnf)
    | (refine DT.op hTb rfl (o_slice_ownX (n1 := 0) (n2 := i) hTb rfl rfl rfl rfl rfl rfl rfl bnd_none (bnd_some rfl) (Nat.zero_le _) (by simp; omega)) rfl ?_; conv => whnf)
    | (refine DT.op hTb rfl (o_slice_ownX (n1 := i + 1) (n2 := l.length) hTb rfl rfl rfl rfl rfl rfl rfl (bnd_some rfl) bnd_none (by omega) (by simp)) rfl ?_; conv => whnf)
    | (refine DT.op hTb rfl (o_app_in (x := i) (y := i + 1) (m := l.length - (i + 1)) hTb rfl rfl rfl rfl (by simp only [Nat.sub_zero, Nat.add_zero]; rfl) rfl (by simp only [Nat.zero_add]; rfl) rfl (by simp; omega) (by simp; omega) (by simp; omega) (by show _ * 32 ≤ _; omega) (by unfold maxLen; omega)) rfl ?_; conv => whnf)
    | (refine VR.op hTb rfl rfl (o_slice_ownX (n1 := i + (l.length - (i + 1))) (n2 := l.length) hTb rfl rfl rfl rfl rfl rfl rfl (bnd_some rfl) (bnd_some rfl) (by omega) (by simp; omega)) rfl ?_; conv => whnf)
    | (refine VR.op hTb rfl rfl (o_clear hTb rfl rfl rfl rfl rfl rfl rfl rfl (by omega)) rfl ?_; conv => whnf))
  · exfalso
    have := ‹((i : Int) == ((i + 1 : Nat) : Int)) = true›
    rw [beq_iff_eq] at this
    omega
  · have hr := take_drop_erase hlm hi (encVal zVal)
    rw [← map_erase, ← List.map_singleton, ← List.map_append] at hr
    exact endW [] rfl rfl rfl rfl rfl (LeS.of_eq (congrArg (fun m => Slot.one (.own 0 0 m)) e1)) (congrArg (fun r => [some (Ob.arr 29 3 r)]) hr) rfl

theorem grCols (l : List Col) {E sz : Nat} : GrO (.arr E sz (l.map encCol)) := by
  intro r hr x hx
  obtain ⟨c, _, rfl⟩ := List.mem_map.1 hr
  obtain ⟨a1, a2, a3, a4, ⟨a5, a6, a7⟩⟩ := c
  simp [encCol] at hx
  rcases hx with rfl | rfl | rfl | rfl | rfl | rfl | rfl <;> rfl
theorem c_CloneCol (l : List Col) (hl : l.length ≤ 2000000) : CallsV Tryd.prog 105 [.one (.imm 7 (l.map encCol))] [] (funQ (.one (.own 0 0 l.length)) [] [.arr 31 7 (l.map encCol)]) := by
  refine funF_walk hTb Tryd.func105 rfl rfl Tryd.ntmps105 (by simp) (by simp) ?_
  (conv => whnf); repeat' (first
    | (refine And.intro ?_ ?_ <;> ((try intro h) <;> (try simp only [Bool.not_true, Bool.not_false, decide_eq_true_eq, decide_eq_false_iff_not, Int.not_lt, Int.not_le, gt_iff_lt, ge_iff_le] at h) <;> first | exact absurd h Bool.false_ne_true | exact absurd h.symm Bool.false_ne_true | conv => whnf))
    | (refine VL.drawS hTb hMix (by kernel_rfl) (by kernel_rfl) (by kernel_rfl) ?_; conv => whnf)
    | (refine Need.mk ?_; kernel_rfl) | (refine Need.mk ⟨rfl, ?_⟩; decide)
    | (refine VR.rel hTb rfl rfl (o_isnil hTb rfl rfl rfl rfl) ?_; intro b hb; conv => whnf)
    | (refine VR.opk hTb rfl rfl (o_app0 (f := encCol) (m := l) (q := 107) hTb rfl rfl rfl rfl rfl rfl rfl rfl rfl rfl (by omega) (by show _ * 64 ≤ _; omega) (by unfold maxLen; omega)) ?_; conv => whnf)
    | (refine DT.opk hTb rfl (o_app0 (f := encCol) (m := l) (q := 107) hTb rfl rfl rfl rfl rfl rfl rfl rfl rfl rfl (by omega) (by show _ * 64 ≤ _; omega) (by unfold maxLen; omega)) ?_; conv => whnf))
  · have e := hb ‹b = true›
    have e : l = [] := by cases l with | nil => rfl | cons => simp at e
    subst e
    exact EndV.nil 2 102 7 31 rfl rfl (by decide) (endW [102] rfl rfl rfl rfl rfl (LeS.refl _) rfl rfl)
  · exact endW [107] rfl rfl rfl rfl rfl (LeS.refl _) rfl rfl
theorem c_ClipCol (l : List Col) (hl : l.length ≤ 2000000) : CallsV Tryd.prog 104 [.one (.own 0 0 l.length)] [.arr 31 7 (l.map encCol)] (funQ (.one (.own 0 0 l.length)) [some (.arr 31 7 (l.map encCol))] []) := by
  refine funF_walk hTb Tryd.func104 rfl rfl Tryd.ntmps104 (by simp) (by simp) ?_
  (conv => whnf); repeat' (first
    | (refine And.intro ?_ ?_ <;> ((try intro h) <;> (try simp only [Bool.not_true, Bool.not_false, decide_eq_true_eq, decide_eq_false_iff_not, Int.not_lt, Int.not_le, gt_iff_lt, ge_iff_le] at h) <;> first | exact absurd h Bool.false_ne_true | exact absurd h.symm Bool.false_ne_true | conv => whnf))
    | (refine VL.drawS hTb hMix (by kernel_rfl) (by kernel_rfl) (by kernel_rfl) ?_; conv => whnf)
    | (refine Need.mk ?_; kernel_rfl) | (refine Need.mk ⟨rfl, ?_⟩; decide)
    | (refine VR.op hTb rfl rfl (o_slice3_own (n1 := 0) (n2 := l.length) (n3 := l.length) hTb rfl rfl rfl rfl rfl rfl rfl bnd_none (bnd_some rfl) (bnd_some rfl) (Nat.zero_le _) (Nat.le_refl _) (Nat.le_refl _) (by simp)) rfl ?_; conv => whnf))
  exact endW [] rfl rfl rfl rfl rfl (LeS.refl _) rfl rfl
theorem c_cloneCol (l : List Col) (hl : l.length ≤ 2000000) : CallsV Tryd.prog 90 [.one (.imm 7 (l.map encCol))] [] (funQ (.one (.own 0 0 l.length)) [] [.arr 31 7 (l.map encCol)]) := by
  refine funF_walk hTb Tryd.func90 rfl rfl Tryd.ntmps90 (by simp) (by simp) ?_
  (conv => whnf); repeat' (first
    | (refine And.intro ?_ ?_ <;> ((try intro h) <;> (try simp only [Bool.not_true, Bool.not_false, decide_eq_true_eq, decide_eq_false_iff_not, Int.not_lt, Int.not_le, gt_iff_lt, ge_iff_le] at h) <;> first | exact absurd h Bool.false_ne_true | exact absurd h.symm Bool.false_ne_true | conv => whnf))
    | (refine VL.drawS hTb hMix (by kernel_rfl) (by kernel_rfl) (by kernel_rfl) ?_; conv => whnf)
    | (refine Need.mk ?_; kernel_rfl) | (refine Need.mk ⟨rfl, ?_⟩; decide)
    | (refine VR.fun hTb rfl rfl (o_funN (c_CloneCol l hl) false [] (fun h => by cases h) (by simp) rfl rfl rfl rfl rfl ⟨rfl, rfl, rfl, rfl⟩ rfl rfl) ?_; conv => whnf)
    | (refine DT.fun hTb rfl (o_funN (c_CloneCol l hl) false [] (fun h => by cases h) (by simp) rfl rfl rfl rfl rfl ⟨rfl, rfl, rfl, rfl⟩ rfl rfl) rfl ?_; conv => whnf)
    | (refine VR.fun hTb rfl rfl (o_funN (c_ClipCol l hl) false [1016] (fun h => by cases h) (by simp) rfl rfl rfl rfl rfl ⟨rfl, rfl, rfl, rfl⟩ rfl rfl) ?_; conv => whnf)
    | (refine DT.fun hTb rfl (o_funN (c_ClipCol l hl) false [1016] (fun h => by cases h) (by simp) rfl rfl rfl rfl rfl ⟨rfl, rfl, rfl, rfl⟩ rfl rfl) rfl ?_; conv => whnf))
  exact endW [1016] rfl rfl rfl rfl rfl (LeS.refl _) rfl rfl
theorem c_DeleteCol (l : List Col) (i : Nat) (hi : i < l.length) (hl : l.length ≤ 2000000) : CallsV Tryd.prog 92 [.one (.own 0 0 l.length), iS i, iS ((i + 1 : Nat) : Int)] [.arr 31 7 (l.map encCol)]
    (funQ (.one (.own 0 0 (l.length - 1))) [some (.arr 31 7 ((l.eraseIdx i ++ [zCol]).map encCol))] []) := by
  refine funF_walk hTb Tryd.func92 rfl rfl Tryd.ntmps92 (by simp) (by simp) ?_
  have hlm : (l.map encCol).length = l.length := List.length_map _
  have e1 : i + (l.length - (i + 1)) = l.length - 1 := by omega
  (conv => whnf); repeat' (first
    | (refine And.intro ?_ ?_ <;> ((try intro h) <;> (try simp only [Bool.not_true, Bool.not_false, decide_eq_true_eq, decide_eq_false_iff_not, Int.not_lt, Int.not_le, gt_iff_lt, ge_iff_le] at h) <;> first | exact absurd h Bool.false_ne_true | exact absurd h.symm Bool.false_ne_true | conv => whnf))
    | (refine VL.drawS hTb hMix (by kernel_rfl) (by kernel_rfl) (by kernel_rfl) ?_; conv => whnf)
    | (refine Need.mk ?_; kernel_rfl) | (refine Need.mk ⟨rfl, ?_⟩; decide)
    | (refine VR.op hTb rfl rfl (o_slice3_own (n1 := i) (n2 := i + 1) (n3 := l.length) hTb rfl rfl rfl rfl rfl rfl rfl (bnd_some rfl) (bnd_some rfl) (bnd_some rfl) (Nat.le_succ _) (by omega) (Nat.le_refl _) (by simp)) rfl ?_; conv => whnf)
    | (refine DT.op hTb rfl (o_slice_ownX (n1 := 0) (n2 := i) hTb rfl rfl rfl rfl rfl rfl rfl bnd_none (bnd_some rfl) (Nat.zero_le _) (by simp; omega)) rfl ?_; conv => whnf)
    | (refine DT.op hTb rfl (o_slice_ownX (n1 := i + 1) (n2 := l.length) hTb rfl rfl rfl rfl rfl rfl rfl (bnd_some rfl) bnd_none (by omega) (by simp)) rfl ?_; conv => whnf)
    | (refine DT.op hTb rfl (o_app_in (x := i) (y := i + 1) (m := l.length - (i + 1)) hTb rfl rfl rfl rfl (by simp only [Nat.sub_zero, Nat.add_zero]; rfl) rfl (by simp only [Nat.zero_add]; rfl) rfl (by simp; omega) (by simp; omega) (by simp; omega) (by show _ * 64 ≤ _; omega) (by unfold maxLen; omega)) rfl ?_; conv => whnf)
    | (refine VR.op hTb rfl rfl (o_slice_ownX (n1 := i + (l.length - (i + 1))) (n2 := l.length) hTb rfl rfl rfl rfl rfl rfl rfl (bnd_some rfl) (bnd_some rfl) (by omega) (by simp; omega)) rfl ?_; conv => whnf)
    | (refine VR.op hTb rfl rfl (o_clear hTb rfl rfl rfl rfl rfl rfl rfl rfl (by omega)) rfl ?_; conv => whnf))
  · exfalso
    have := ‹((i : Int) == ((i + 1 : Nat) : Int)) = true›
    rw [beq_iff_eq] at this
    omega
  · have hr := take_drop_erase hlm hi (encCol zCol)
    rw [← map_erase, ← List.map_singleton, ← List.map_append] at hr
    exact endW [] rfl rfl rfl rfl rfl (LeS.of_eq (congrArg (fun m => Slot.one (.own 0 0 m)) e1)) (congrArg (fun r => [some (Ob.arr 31 7 r)]) hr) rfl
end Go.Vl
