/- Sizes of bases, summed; the law: a right base. Contracts: what goes with a row: the program's. Contracts: what goes with a row, in order: the program's. -/
import Derived.Test.YtdijjjgplhbkkaaGreatDoorJDm
set_option linter.unusedSimpArgs false
set_option linter.unusedVariables false

namespace Go.Vl
open Go Go.RowKit Go.Proofs
set_option maxRecDepth 100000
set_option linter.unusedSimpArgs false
set_option linter.unusedVariables false
set_option maxHeartbeats 8000000

theorem y_ChangesN (l : List Change) (hl : l.length ≤ maxLen) (hv : ∀ x ∈ l, x.ok) (n : Int) (h0 : 0 ≤ n) (h1 : n ≤ 1048576) : CallsV Tryz.prog 212 [changesI l, iS n] [] (relQ (fun y : Int => y ≤ n ∧ (0 ≤ y → y + l.length ≤ n ∧ ∀ x ∈ l, x.md)) iS (fun _ => []) (fun _ => [])) := by
  refine funF_walk hTb Tryz.func212 rfl rfl Tryz.ntmps212 (by simp) (by simp) ?_
  have e1 : IntKind.i64.wrap (n - ((l.map encChange).length : Int)) = n - l.length := by rw [List.length_map]; exact wsub h0 h1 hl
  (conv => whnf); repeat' (first | (refine And.intro ?_ ?_ <;> ((try intro h) <;> (try simp only [Bool.not_true, Bool.not_false] at h) <;> first | exact absurd h Bool.false_ne_true | exact absurd h.symm Bool.false_ne_true | conv => whnf)) | (refine Need.mk ?_; kernel_rfl) | (refine Need.mk ⟨rfl, ?_⟩; decide))
  · rw [e1] at h
    refine endR [] _ rfl rfl rfl rfl rfl (LeS.refl _) rfl rfl ⟨by omega, fun hp => by omega⟩
  rw [e1] at h ⊢
  have h2 : (l.length : Int) ≤ n := by simp at h; omega
  refine VL.loopI hTb (fun (x : Nat × Int) => x.1 ≤ l.length ∧ 0 ≤ x.2 ∧ x.2 ≤ n - l.length ∧ ∀ j (hj : j < l.length), j < x.1 → (l[j]).md) (fun x => ⟨[(0, changesI l), (5, iS x.1), (1, iS x.2)], [], []⟩) (fun x => l.length - x.1) (0, n - l.length) ⟨Nat.zero_le _, by simp only; omega, by simp only; omega, fun j _ hj => absurd hj (Nat.not_lt_zero _)⟩
    (wk_to [] rfl rfl rfl ⟨rfl, rfl, rfl, trivial⟩ trivial) (fun x hx => ?_)
  obtain ⟨i, y0⟩ := x
  obtain ⟨hi, k0, k1, hs⟩ := hx
  simp only at hi k0 k1 hs
  (conv => whnf)
  refine And.intro (fun h3 => ?_) (fun h3 => ?_)
  · have hlt : i < l.length := by simpa using h3
    have hrow := rowChange hlt
    have hc := y_Change l[i] (hv _ (List.getElem_mem hlt)) y0 k0 (by omega)
    generalize hci : l[i] = ci at hrow hc
    (conv => whnf); repeat' (first
    | (refine And.intro ?_ ?_ <;> ((try intro h) <;> (try simp only [Bool.not_true, Bool.not_false, decide_eq_true_eq, decide_eq_false_iff_not, Int.not_lt, Int.not_le, gt_iff_lt, ge_iff_le] at h) <;> first | exact absurd h Bool.false_ne_true | exact absurd h.symm Bool.false_ne_true | conv => whnf))
    | (refine VL.drawS hTb hMix (by kernel_rfl) (by kernel_rfl) (by kernel_rfl) ?_; conv => whnf)
    | (refine Need.mk ?_; kernel_rfl) | (refine Need.mk ⟨rfl, ?_⟩; decide)
    | (refine VR.op hTb rfl rfl (o_index_imm hTb rfl rfl rfl rfl rfl rfl rfl (by omega) (hrow)) rfl ?_; conv => whnf)
    | (refine DT.op hTb rfl (o_index_imm hTb rfl rfl rfl rfl rfl rfl rfl (by omega) (hrow)) rfl ?_; conv => whnf)
    | (refine VR.rel hTb rfl rfl (o_relN (hc) false [] (fun _ _ => ⟨by simp, fun h => by cases h⟩) rfl rfl rfl rfl rfl ⟨rfl, rfl, rfl, rfl⟩ rfl rfl) ?_; rintro y1 hy1; (try simp only at hy1); conv => whnf)
    | (refine DT.rel hTb rfl (o_relN (hc) false [] (fun _ _ => ⟨by simp, fun h => by cases h⟩) rfl rfl rfl rfl rfl ⟨rfl, rfl, rfl, rfl⟩ rfl rfl) [] (by kernel_rfl) (by kernel_rfl) ?_; rintro y1 hy1; (try simp only at hy1); refine And.intro rfl (And.intro rfl ?_); conv => whnf))
    · refine endR [] _ rfl rfl rfl rfl rfl (LeS.refl _) rfl rfl ⟨by omega, fun hp => by omega⟩
    · have h4 : 0 ≤ y1 := by first | omega | (simp at h; omega)
      refine ⟨(i + 1, y1), ⟨hlt, h4, by simp only; omega, fun j hj hj2 => ?_⟩, by show l.length - (i + 1) < l.length - i; omega, wk_to [] rfl rfl rfl ⟨rfl, congrArg (fun x => Slot.one (.g (.int .i64 x))) (wrap64' (by unfold maxLen; omega)), rfl, trivial⟩ trivial⟩
      by_cases hji : j = i
      · subst hji; rw [hci]; exact hy1.2 h4
      · exact hs j hj (by omega)
  · (conv => whnf)
    have hie : i = l.length := by simp at h3; omega
    subst hie
    refine endR [] _ rfl rfl rfl rfl rfl (LeS.refl _) rfl rfl ⟨by omega, fun hp => ⟨by omega, fun x hx => ?_⟩⟩
    obtain ⟨j, hj, rfl⟩ := List.getElem_of_mem hx
    exact hs j hj hj
theorem y_VLink (v : VLink) (hv : v.ok) (n : Int) (h0 : 0 ≤ n) (h1 : n ≤ 1048576) : CallsV Tryz.prog 149 [.agg (encVLink v), iS n] [] (relQ (fun y : Int => y ≤ n) iS (fun _ => []) (fun _ => [])) :=
  CallsV.mono (z_VLink v hv n h0 h1) fun _ _ _ ⟨y, hy, e1, e2, e3⟩ => ⟨y, hy.1, e1, e2, e3⟩
theorem y_VLinksN (l : List VLink) (hl : l.length ≤ maxLen) (hv : ∀ x ∈ l, x.ok) (n : Int) (h0 : 0 ≤ n) (h1 : n ≤ 1048576) : CallsV Tryz.prog 88 [vlinksI l, iS n] [] (relQ (fun y : Int => y ≤ n ∧ (0 ≤ y → y + l.length ≤ n)) iS (fun _ => []) (fun _ => [])) := by
  refine funF_walk hTb Tryz.func88 rfl rfl Tryz.ntmps88 (by simp) (by simp) ?_
  have e1 : IntKind.i64.wrap (n - ((l.map encVLink).length : Int)) = n - l.length := by rw [List.length_map]; exact wsub h0 h1 hl
  (conv => whnf); repeat' (first | (refine And.intro ?_ ?_ <;> ((try intro h) <;> (try simp only [Bool.not_true, Bool.not_false] at h) <;> first | exact absurd h Bool.false_ne_true | exact absurd h.symm Bool.false_ne_true | conv => whnf)) | (refine Need.mk ?_; kernel_rfl) | (refine Need.mk ⟨rfl, ?_⟩; decide))
  · rw [e1] at h
    refine endR [] _ rfl rfl rfl rfl rfl (LeS.refl _) rfl rfl ⟨by omega, fun hp => by omega⟩
  rw [e1] at h ⊢
  have h2 : (l.length : Int) ≤ n := by simp at h; omega
  refine VL.loopI hTb (fun (x : Nat × Int) => x.1 ≤ l.length ∧ 0 ≤ x.2 ∧ x.2 ≤ n - l.length) (fun x => ⟨[(0, vlinksI l), (5, iS x.1), (1, iS x.2)], [], []⟩) (fun x => l.length - x.1) (0, n - l.length) ⟨Nat.zero_le _, by simp only; omega, by simp only; omega⟩
    (wk_to [] rfl rfl rfl ⟨rfl, rfl, rfl, trivial⟩ trivial) (fun x hx => ?_)
  obtain ⟨i, y0⟩ := x
  obtain ⟨hi, k0, k1⟩ := hx
  simp only at hi k0 k1
  (conv => whnf)
  refine And.intro (fun h3 => ?_) (fun h3 => ?_)
  · have hlt : i < l.length := by simpa using h3
    have hrow := rowVLink hlt
    have hc := y_VLink l[i] (hv _ (List.getElem_mem hlt)) y0 k0 (by omega)
    generalize hci : l[i] = ci at hrow hc
    (conv => whnf); repeat' (first
    | (refine And.intro ?_ ?_ <;> ((try intro h) <;> (try simp only [Bool.not_true, Bool.not_false, decide_eq_true_eq, decide_eq_false_iff_not, Int.not_lt, Int.not_le, gt_iff_lt, ge_iff_le] at h) <;> first | exact absurd h Bool.false_ne_true | exact absurd h.symm Bool.false_ne_true | conv => whnf))
    | (refine VL.drawS hTb hMix (by kernel_rfl) (by kernel_rfl) (by kernel_rfl) ?_; conv => whnf)
    | (refine Need.mk ?_; kernel_rfl) | (refine Need.mk ⟨rfl, ?_⟩; decide)
    | (refine VR.op hTb rfl rfl (o_index_imm hTb rfl rfl rfl rfl rfl rfl rfl (by omega) (hrow)) rfl ?_; conv => whnf)
    | (refine DT.op hTb rfl (o_index_imm hTb rfl rfl rfl rfl rfl rfl rfl (by omega) (hrow)) rfl ?_; conv => whnf)
    | (refine VR.rel hTb rfl rfl (o_relN (hc) false [] (fun _ _ => ⟨by simp, fun h => by cases h⟩) rfl rfl rfl rfl rfl ⟨rfl, rfl, rfl, rfl⟩ rfl rfl) ?_; rintro y1 hy1; (try simp only at hy1); conv => whnf)
    | (refine DT.rel hTb rfl (o_relN (hc) false [] (fun _ _ => ⟨by simp, fun h => by cases h⟩) rfl rfl rfl rfl rfl ⟨rfl, rfl, rfl, rfl⟩ rfl rfl) [] (by kernel_rfl) (by kernel_rfl) ?_; rintro y1 hy1; (try simp only at hy1); refine And.intro rfl (And.intro rfl ?_); conv => whnf))
    · refine endR [] _ rfl rfl rfl rfl rfl (LeS.refl _) rfl rfl ⟨by omega, fun hp => by omega⟩
    · have h4 : 0 ≤ y1 := by first | omega | (simp at h; omega)
      exact ⟨(i + 1, y1), ⟨hlt, h4, by simp only; omega⟩, by show l.length - (i + 1) < l.length - i; omega, wk_to [] rfl rfl rfl ⟨rfl, congrArg (fun x => Slot.one (.g (.int .i64 x))) (wrap64' (by unfold maxLen; omega)), rfl, trivial⟩ trivial⟩
  · (conv => whnf)
    exact endR [] _ rfl rfl rfl rfl rfl (LeS.refl _) rfl rfl ⟨by omega, fun hp => by omega⟩
def tW (t : VTable) : Nat := tabW t.first.length t.changes.length (lens t.rows)
theorem y_VTableW (t : VTable) (hv : t.ok) (n : Int) (h0 : 0 ≤ n) (h1 : n ≤ 1048576) : CallsV Tryz.prog 192 [.agg (encVTable t), iS n] [] (relQ (fun y : Int => y ≤ n ∧ (0 ≤ y → t.md ∧ t.first.length + t.changes.length ≤ 1048576 ∧ 10 * y + tW t ≤ 10 * n)) iS (fun _ => []) (fun _ => [])) := by
  refine funF_walk hTb Tryz.func192 rfl rfl Tryz.ntmps192 (by simp) (by simp) ?_
  (conv => whnf); repeat' (first
    | (refine And.intro ?_ ?_ <;> ((try intro h) <;> (try simp only [Bool.not_true, Bool.not_false, decide_eq_true_eq, decide_eq_false_iff_not, Int.not_lt, Int.not_le, gt_iff_lt, ge_iff_le] at h) <;> first | exact absurd h Bool.false_ne_true | exact absurd h.symm Bool.false_ne_true | conv => whnf))
    | (refine VL.drawS hTb hMix (by kernel_rfl) (by kernel_rfl) (by kernel_rfl) ?_; conv => whnf)
    | (refine Need.mk ?_; kernel_rfl) | (refine Need.mk ⟨rfl, ?_⟩; decide)
    | (refine VR.rel hTb rfl rfl (o_relN (y_ColsN t.first hv.1.1 hv.1.2 n h0 h1) false [] (fun _ _ => ⟨by simp, fun h => by cases h⟩) rfl rfl rfl rfl rfl ⟨rfl, rfl, rfl, rfl⟩ rfl rfl) ?_; rintro y1 hy1; (try simp only at hy1); conv => whnf)
    | (refine DT.rel hTb rfl (o_relN (y_ColsN t.first hv.1.1 hv.1.2 n h0 h1) false [] (fun _ _ => ⟨by simp, fun h => by cases h⟩) rfl rfl rfl rfl rfl ⟨rfl, rfl, rfl, rfl⟩ rfl rfl) [] (by kernel_rfl) (by kernel_rfl) ?_; rintro y1 hy1; (try simp only at hy1); refine And.intro rfl (And.intro rfl ?_); conv => whnf))
  · exact endR [] (-1) rfl rfl rfl rfl rfl (LeS.refl _) rfl rfl ⟨by omega, fun hp => by omega⟩
  have k1 : 0 ≤ y1 := by first | omega | (simp at h; omega)
  obtain ⟨hn, hm⟩ := hy1.2 k1
  (conv => whnf); repeat' (first
    | (refine And.intro ?_ ?_ <;> ((try intro h) <;> (try simp only [Bool.not_true, Bool.not_false, decide_eq_true_eq, decide_eq_false_iff_not, Int.not_lt, Int.not_le, gt_iff_lt, ge_iff_le] at h) <;> first | exact absurd h Bool.false_ne_true | exact absurd h.symm Bool.false_ne_true | conv => whnf))
    | (refine VL.drawS hTb hMix (by kernel_rfl) (by kernel_rfl) (by kernel_rfl) ?_; conv => whnf)
    | (refine Need.mk ?_; kernel_rfl) | (refine Need.mk ⟨rfl, ?_⟩; decide)
    | (refine VR.rel hTb rfl rfl (o_relN (y_ChangesN t.changes hv.2.1.1 hv.2.1.2 y1 k1 (by omega)) false [] (fun _ _ => ⟨by simp, fun h => by cases h⟩) rfl rfl rfl rfl rfl ⟨rfl, rfl, rfl, rfl⟩ rfl rfl) ?_; rintro y2 hy2; (try simp only at hy2); conv => whnf)
    | (refine DT.rel hTb rfl (o_relN (y_ChangesN t.changes hv.2.1.1 hv.2.1.2 y1 k1 (by omega)) false [] (fun _ _ => ⟨by simp, fun h => by cases h⟩) rfl rfl rfl rfl rfl ⟨rfl, rfl, rfl, rfl⟩ rfl rfl) [] (by kernel_rfl) (by kernel_rfl) ?_; rintro y2 hy2; (try simp only at hy2); refine And.intro rfl (And.intro rfl ?_); conv => whnf))
  · exact endR [] (-1) rfl rfl rfl rfl rfl (LeS.refl _) rfl rfl ⟨by omega, fun hp => by omega⟩
  have k2 : 0 ≤ y2 := by first | omega | (simp at h; omega)
  obtain ⟨hc, hcm⟩ := hy2.2 k2
  (conv => whnf); repeat' (first
    | (refine And.intro ?_ ?_ <;> ((try intro h) <;> (try simp only [Bool.not_true, Bool.not_false, decide_eq_true_eq, decide_eq_false_iff_not, Int.not_lt, Int.not_le, gt_iff_lt, ge_iff_le] at h) <;> first | exact absurd h Bool.false_ne_true | exact absurd h.symm Bool.false_ne_true | conv => whnf))
    | (refine VL.drawS hTb hMix (by kernel_rfl) (by kernel_rfl) (by kernel_rfl) ?_; conv => whnf)
    | (refine Need.mk ?_; kernel_rfl) | (refine Need.mk ⟨rfl, ?_⟩; decide)
    | (refine VR.rel hTb rfl rfl (o_relN (y_VRowsN t.rows hv.2.2.1 hv.2.2.2 y2 k2 (by omega)) false [] (fun _ _ => ⟨by simp, fun h => by cases h⟩) rfl rfl rfl rfl rfl ⟨rfl, rfl, rfl, rfl⟩ rfl rfl) ?_; rintro y3 hy3; (try simp only at hy3); conv => whnf)
    | (refine DT.rel hTb rfl (o_relN (y_VRowsN t.rows hv.2.2.1 hv.2.2.2 y2 k2 (by omega)) false [] (fun _ _ => ⟨by simp, fun h => by cases h⟩) rfl rfl rfl rfl rfl ⟨rfl, rfl, rfl, rfl⟩ rfl rfl) [] (by kernel_rfl) (by kernel_rfl) ?_; rintro y3 hy3; (try simp only at hy3); refine And.intro rfl (And.intro rfl ?_); conv => whnf))
  · exact endR [] (-1) rfl rfl rfl rfl rfl (LeS.refl _) rfl rfl ⟨by omega, fun hp => by omega⟩
  · have k3 : 0 ≤ y3 := by first | omega | (simp at h; omega)
    obtain ⟨hr, hrm⟩ := hy3.2 k3
    exact endR [] _ rfl rfl rfl rfl rfl (LeS.refl _) rfl rfl ⟨by omega, fun _ => ⟨⟨by omega, hm, hcm, by omega, hrm⟩, by omega, by unfold tW tabW; omega⟩⟩
theorem y_VTabW (v : VTab) (hv : v.ok) (n : Int) (h0 : 0 ≤ n) (h1 : n ≤ 1048576) : CallsV Tryz.prog 148 [.agg (encVTab v), iS n] [] (relQ (fun y : Int => y ≤ n ∧ (0 ≤ y → v.table.md ∧ v.table.first.length + v.table.changes.length ≤ 1048576 ∧ 10 * y + tW v.table ≤ 10 * n)) iS (fun _ => []) (fun _ => [])) := by
  have e1 : IntKind.i64.wrap (n - (v.name.size : Int)) = n - v.name.size := wsub h0 h1 hv.1
  have hc := fun (m : Int) h0 h1 => y_VTableW v.table hv.2 m h0 h1
  refine funF_walk hTb Tryz.func148 rfl rfl Tryz.ntmps148 (by simp) (by simp) ?_
  (conv => whnf); repeat' (first | (refine And.intro ?_ ?_ <;> ((try intro h) <;> (try simp only [Bool.not_true, Bool.not_false] at h) <;> first | exact absurd h Bool.false_ne_true | exact absurd h.symm Bool.false_ne_true | conv => whnf)) | (refine Need.mk ?_; kernel_rfl) | (refine Need.mk ⟨rfl, ?_⟩; decide))
  · rw [e1] at h
    exact endR [] (-1) rfl rfl rfl rfl rfl (LeS.refl _) rfl rfl ⟨by omega, fun hp => by omega⟩
  rw [e1] at h ⊢
  have k0 : 0 ≤ n - (v.name.size : Int) := by simp at h; omega
  (conv => whnf); repeat' (first
    | (refine And.intro ?_ ?_ <;> ((try intro h) <;> (try simp only [Bool.not_true, Bool.not_false, decide_eq_true_eq, decide_eq_false_iff_not, Int.not_lt, Int.not_le, gt_iff_lt, ge_iff_le] at h) <;> first | exact absurd h Bool.false_ne_true | exact absurd h.symm Bool.false_ne_true | conv => whnf))
    | (refine VL.drawS hTb hMix (by kernel_rfl) (by kernel_rfl) (by kernel_rfl) ?_; conv => whnf)
    | (refine Need.mk ?_; kernel_rfl) | (refine Need.mk ⟨rfl, ?_⟩; decide)
    | (refine VR.rel hTb rfl rfl (o_relN (hc _ k0 (by omega)) false [] (fun _ _ => ⟨by simp, fun h => by cases h⟩) rfl rfl rfl rfl rfl ⟨rfl, rfl, rfl, rfl⟩ rfl rfl) ?_; rintro y1 hy1; (try simp only at hy1); conv => whnf)
    | (refine DT.rel hTb rfl (o_relN (hc _ k0 (by omega)) false [] (fun _ _ => ⟨by simp, fun h => by cases h⟩) rfl rfl rfl rfl rfl ⟨rfl, rfl, rfl, rfl⟩ rfl rfl) [] (by kernel_rfl) (by kernel_rfl) ?_; rintro y1 hy1; (try simp only at hy1); refine And.intro rfl (And.intro rfl ?_); conv => whnf))
  · exact endR [] (-1) rfl rfl rfl rfl rfl (LeS.refl _) rfl rfl ⟨by omega, fun hp => by omega⟩
  · have k3 : 0 ≤ y1 := by first | omega | (simp at h; omega)
    have h5 := hy1.2 k3
    exact endR [] _ rfl rfl rfl rfl rfl (LeS.refl _) rfl rfl ⟨by omega, fun _ => ⟨h5.1, h5.2.1, by omega⟩⟩
def tabsW : List VTab → Nat
  | [] => 0
  | t :: ts => 2 + tW t.table + tabsW ts
theorem tabsW_snoc (t : VTab) : ∀ ts : List VTab, tabsW (ts ++ [t]) = tabsW ts + (2 + tW t.table)
  | [] => by simp [tabsW]
  | x :: ts => by rw [List.cons_append, tabsW, tabsW, tabsW_snoc t ts]; omega
theorem tabsW_step (ts : List VTab) (i : Nat) (h : i < ts.length) : tabsW (ts.take (i + 1)) = tabsW (ts.take i) + (2 + tW ts[i].table) := by
  rw [List.take_succ_eq_append_getElem h, tabsW_snoc]
theorem y_VTabsW (l : List VTab) (hl : l.length ≤ maxLen) (hv : ∀ x ∈ l, x.ok) (n : Int) (h0 : 0 ≤ n) (h1 : n ≤ 1048576) : CallsV Tryz.prog 87 [vtabsI l, iS n] [] (relQ (fun y : Int => y ≤ n ∧ (0 ≤ y → (10 * y + tabsW l ≤ 10 * n ∧ y + l.length ≤ n) ∧ ∀ x ∈ l, x.table.md ∧ x.table.first.length + x.table.changes.length ≤ 1048576)) iS (fun _ => []) (fun _ => [])) := by
  refine funF_walk hTb Tryz.func87 rfl rfl Tryz.ntmps87 (by simp) (by simp) ?_
  have e1 : IntKind.i64.wrap (n - ((l.map encVTab).length : Int)) = n - l.length := by rw [List.length_map]; exact wsub h0 h1 hl
  (conv => whnf); repeat' (first | (refine And.intro ?_ ?_ <;> ((try intro h) <;> (try simp only [Bool.not_true, Bool.not_false] at h) <;> first | exact absurd h Bool.false_ne_true | exact absurd h.symm Bool.false_ne_true | conv => whnf)) | (refine Need.mk ?_; kernel_rfl) | (refine Need.mk ⟨rfl, ?_⟩; decide))
  · rw [e1] at h
    refine endR [] _ rfl rfl rfl rfl rfl (LeS.refl _) rfl rfl ⟨by omega, fun hp => by omega⟩
  rw [e1] at h ⊢
  have h2 : (l.length : Int) ≤ n := by simp at h; omega
  refine VL.loopI hTb (fun (x : Nat × Int) => x.1 ≤ l.length ∧ 0 ≤ x.2 ∧ (x.2 + l.length ≤ n ∧ 10 * x.2 + 10 * l.length + (tabsW (l.take x.1) : Nat) ≤ 10 * n + 2 * x.1) ∧ ∀ j (hj : j < l.length), j < x.1 → (l[j]).table.md ∧ (l[j]).table.first.length + (l[j]).table.changes.length ≤ 1048576) (fun x => ⟨[(0, vtabsI l), (5, iS x.1), (1, iS x.2)], [], []⟩) (fun x => l.length - x.1) (0, n - l.length) ⟨Nat.zero_le _, by simp only; omega, ⟨by simp only; omega, by simp only [List.take_zero, tabsW]; omega⟩, fun j _ hj => absurd hj (Nat.not_lt_zero _)⟩
    (wk_to [] rfl rfl rfl ⟨rfl, rfl, rfl, trivial⟩ trivial) (fun x hx => ?_)
  obtain ⟨i, y0⟩ := x
  obtain ⟨hi, k0, k1, hs⟩ := hx
  simp only at hi k0 k1 hs
  (conv => whnf)
  refine And.intro (fun h3 => ?_) (fun h3 => ?_)
  · have hlt : i < l.length := by simpa using h3
    have hrow := rowVTab hlt
    have hc := y_VTabW l[i] (hv _ (List.getElem_mem hlt)) y0 k0 (by omega)
    have hw := tabsW_step l i hlt
    generalize hci : l[i] = ci at hrow hc hw
    (conv => whnf); repeat' (first
    | (refine And.intro ?_ ?_ <;> ((try intro h) <;> (try simp only [Bool.not_true, Bool.not_false, decide_eq_true_eq, decide_eq_false_iff_not, Int.not_lt, Int.not_le, gt_iff_lt, ge_iff_le] at h) <;> first | exact absurd h Bool.false_ne_true | exact absurd h.symm Bool.false_ne_true | conv => whnf))
    | (refine VL.drawS hTb hMix (by kernel_rfl) (by kernel_rfl) (by kernel_rfl) ?_; conv => whnf)
    | (refine Need.mk ?_; kernel_rfl) | (refine Need.mk ⟨rfl, ?_⟩; decide)
    | (refine VR.op hTb rfl rfl (o_index_imm hTb rfl rfl rfl rfl rfl rfl rfl (by omega) (hrow)) rfl ?_; conv => whnf)
    | (refine DT.op hTb rfl (o_index_imm hTb rfl rfl rfl rfl rfl rfl rfl (by omega) (hrow)) rfl ?_; conv => whnf)
    | (refine VR.rel hTb rfl rfl (o_relN (hc) false [] (fun _ _ => ⟨by simp, fun h => by cases h⟩) rfl rfl rfl rfl rfl ⟨rfl, rfl, rfl, rfl⟩ rfl rfl) ?_; rintro y1 hy1; (try simp only at hy1); conv => whnf)
    | (refine DT.rel hTb rfl (o_relN (hc) false [] (fun _ _ => ⟨by simp, fun h => by cases h⟩) rfl rfl rfl rfl rfl ⟨rfl, rfl, rfl, rfl⟩ rfl rfl) [] (by kernel_rfl) (by kernel_rfl) ?_; rintro y1 hy1; (try simp only at hy1); refine And.intro rfl (And.intro rfl ?_); conv => whnf))
    · refine endR [] _ rfl rfl rfl rfl rfl (LeS.refl _) rfl rfl ⟨by omega, fun hp => by omega⟩
    · have h4 : 0 ≤ y1 := by first | omega | (simp at h; omega)
      refine ⟨(i + 1, y1), ⟨hlt, h4, (by have h5 := hy1.2 h4; simp only [hw]; omega), fun j hj hj2 => ?_⟩, by show l.length - (i + 1) < l.length - i; omega, wk_to [] rfl rfl rfl ⟨rfl, congrArg (fun x => Slot.one (.g (.int .i64 x))) (wrap64' (by unfold maxLen; omega)), rfl, trivial⟩ trivial⟩
      by_cases hji : j = i
      · subst hji; rw [hci]; exact ⟨(hy1.2 h4).1, (hy1.2 h4).2.1⟩
      · exact hs j hj (by omega)
  · (conv => whnf)
    have hie : i = l.length := by simp at h3; omega
    subst hie
    refine endR [] _ rfl rfl rfl rfl rfl (LeS.refl _) rfl rfl ⟨by omega, fun hp => ⟨⟨by rw [List.take_length] at k1; omega, k1.1⟩, fun x hx => ?_⟩⟩
    obtain ⟨j, hj, rfl⟩ := List.getElem_of_mem hx
    exact hs j hj hj
def bW (b : VBase) : Nat := tabsW b.tabs + 4 * b.links.length
structure VBase.sz (b : VBase) : Prop where
  md : b.md
  w : bW b ≤ 10485760
  fc : ∀ t ∈ b.tabs, t.table.first.length + t.table.changes.length ≤ 1048576
theorem y_VBaseW (b : VBase) (hv : b.ok) : CallsV Tryz.prog 31 [.agg (encVBase b), iS 1048576] [] (relQ (fun y : Int => 0 ≤ y → b.sz) iS (fun _ => []) (fun _ => [])) := by
  refine funF_walk hTb Tryz.func31 rfl rfl Tryz.ntmps31 (by simp) (by simp) ?_
  (conv => whnf); repeat' (first
    | (refine And.intro ?_ ?_ <;> ((try intro h) <;> (try simp only [Bool.not_true, Bool.not_false, decide_eq_true_eq, decide_eq_false_iff_not, Int.not_lt, Int.not_le, gt_iff_lt, ge_iff_le] at h) <;> first | exact absurd h Bool.false_ne_true | exact absurd h.symm Bool.false_ne_true | conv => whnf))
    | (refine VL.drawS hTb hMix (by kernel_rfl) (by kernel_rfl) (by kernel_rfl) ?_; conv => whnf)
    | (refine Need.mk ?_; kernel_rfl) | (refine Need.mk ⟨rfl, ?_⟩; decide)
    | (refine VR.rel hTb rfl rfl (o_relN (y_VTabsW b.tabs hv.1.1 hv.1.2 1048576 (by omega) (by omega)) false [] (fun _ _ => ⟨by simp, fun h => by cases h⟩) rfl rfl rfl rfl rfl ⟨rfl, rfl, rfl, rfl⟩ rfl rfl) ?_; rintro y1 hy1; (try simp only at hy1); conv => whnf)
    | (refine DT.rel hTb rfl (o_relN (y_VTabsW b.tabs hv.1.1 hv.1.2 1048576 (by omega) (by omega)) false [] (fun _ _ => ⟨by simp, fun h => by cases h⟩) rfl rfl rfl rfl rfl ⟨rfl, rfl, rfl, rfl⟩ rfl rfl) [] (by kernel_rfl) (by kernel_rfl) ?_; rintro y1 hy1; (try simp only at hy1); refine And.intro rfl (And.intro rfl ?_); conv => whnf))
  · exact endR [] (-1) rfl rfl rfl rfl rfl (LeS.refl _) rfl rfl (fun hp => by omega)
  have k1 : 0 ≤ y1 := by first | omega | (simp at h; omega)
  obtain ⟨hn, hm⟩ := hy1.2 k1
  (conv => whnf); repeat' (first
    | (refine And.intro ?_ ?_ <;> ((try intro h) <;> (try simp only [Bool.not_true, Bool.not_false, decide_eq_true_eq, decide_eq_false_iff_not, Int.not_lt, Int.not_le, gt_iff_lt, ge_iff_le] at h) <;> first | exact absurd h Bool.false_ne_true | exact absurd h.symm Bool.false_ne_true | conv => whnf))
    | (refine VL.drawS hTb hMix (by kernel_rfl) (by kernel_rfl) (by kernel_rfl) ?_; conv => whnf)
    | (refine Need.mk ?_; kernel_rfl) | (refine Need.mk ⟨rfl, ?_⟩; decide)
    | (refine VR.rel hTb rfl rfl (o_relN (y_VLinksN b.links hv.2.1 hv.2.2 y1 k1 (by omega)) false [] (fun _ _ => ⟨by simp, fun h => by cases h⟩) rfl rfl rfl rfl rfl ⟨rfl, rfl, rfl, rfl⟩ rfl rfl) ?_; rintro y2 hy2; (try simp only at hy2); conv => whnf)
    | (refine DT.rel hTb rfl (o_relN (y_VLinksN b.links hv.2.1 hv.2.2 y1 k1 (by omega)) false [] (fun _ _ => ⟨by simp, fun h => by cases h⟩) rfl rfl rfl rfl rfl ⟨rfl, rfl, rfl, rfl⟩ rfl rfl) [] (by kernel_rfl) (by kernel_rfl) ?_; rintro y2 hy2; (try simp only at hy2); refine And.intro rfl (And.intro rfl ?_); conv => whnf))
  · exact endR [] (-1) rfl rfl rfl rfl rfl (LeS.refl _) rfl rfl (fun hp => by omega)
  · have k2 : 0 ≤ y2 := by first | omega | (simp at h; omega)
    have h6 := hy2.2 k2
    exact endR [] _ rfl rfl rfl rfl rfl (LeS.refl _) rfl rfl (fun _ => ⟨⟨by omega, fun t ht => ⟨(hv.1.2 t ht).1, (hm t ht).1⟩, by omega, hv.2.2⟩, by unfold bW; omega, fun t ht => (hm t ht).2⟩)
theorem VBase.sz.sm {b : VBase} (h : b.sz) : b.sm := ⟨⟨h.md.tl, fun t ht => md_sm (h.md.tm t ht).2 (h.fc t ht)⟩, ⟨h.md.ll, fun _ _ => trivial⟩⟩
end Go.Vl

namespace Go.Vl
open Go Go.RowKit Go.Proofs
set_option maxRecDepth 100000
set_option linter.unusedSimpArgs false
set_option linter.unusedVariables false
set_option maxHeartbeats 8000000

def keyR (r : VRef) : List Value := [.string r.name, .int .i64 r.id]
abbrev mapO (K : List VRef) : Ob := .map ((trK K).map (entV keyR Value.bool))
abbrev lkBox (l : VLink) : Ob := .box (encVLink l)
theorem get_trV {K : List VRef} {x : VRef} : Value.bool (inL K x) = ((mGet q_VRef x (trK K)).map Value.bool).getD (.bool false) := by
  rw [← get_trK]; cases mGet q_VRef x (trK K) <;> rfl
theorem c_doom1 (l : VLink) (K : List VRef) (id n : Int) : CallsV Tryz.prog 167 [iS id, iS n, .one (.ptr 0 0), .one (.ptr 1 0)] [lkBox l, .box [.mp 2], mapO K]
    (funQ (.tup []) [some (lkBox l), some (.box [.mp 2]), some (mapO (stpF (dmC l) (dmK l) K (id, n)))] []) := by
  refine fun_walk hTb Tryz.func167 rfl rfl Tryz.ntmps167 (by simp) (by simp) ?_
  (conv => whnf); repeat' (first
    | (refine And.intro ?_ ?_ <;> ((try intro h) <;> (try simp only [Bool.not_true, Bool.not_false, decide_eq_true_eq, decide_eq_false_iff_not, Int.not_lt, Int.not_le, gt_iff_lt, ge_iff_le] at h) <;> first | exact absurd h Bool.false_ne_true | exact absurd h.symm Bool.false_ne_true | conv => whnf))
    | (refine VL.drawS hTb hMix (by kernel_rfl) (by kernel_rfl) (by kernel_rfl) ?_; conv => whnf)
    | (refine Need.mk ?_; kernel_rfl) | (refine Need.mk ⟨rfl, ?_⟩; decide)
    | (refine VR.op hTb rfl rfl (o_lookup (g := keyR) (h := Value.bool) (eqb := q_VRef) (l := trK K) (x := ⟨l.dst, n⟩) (z := .bool false) (r := .bool (inL K ⟨l.dst, n⟩)) hTb rfl rfl rfl rfl rfl (by kernel_rfl) rfl (fun ⟨_, _⟩ ⟨_, _⟩ => rfl) (fun _ => rfl) rfl rfl rfl rfl get_trV) rfl ?_; conv => whnf)
    | (refine VR.op hTb rfl rfl (o_mapupd (g := keyR) (h := Value.bool) (eqb := q_VRef) (l := trK K) (x := ⟨l.src, id⟩) (v := true) hTb (.inl rfl) rfl rfl rfl rfl rfl (fun ⟨_, _⟩ ⟨_, _⟩ => rfl) (fun x y h => by rw [qR_iff.1 h]) rfl rfl rfl rfl rfl rfl) rfl ?_; conv => whnf))
  · rename_i q
    refine endG [] rfl rfl rfl rfl rfl ⟨rfl, ?_, rfl⟩
    have e : stpF (dmC l) (dmK l) K (id, n) = insL K ⟨l.src, id⟩ := by unfold stpF dmC dmK; rw [q, h]; rfl
    rw [e]
    exact congrArg (fun x => [some (lkBox l), some (.box [.mp 2]), some (Ob.map (x.map (entV keyR Value.bool)))]) (put_trK (r := ⟨l.src, id⟩) (K := K))
  · rename_i q
    refine endG [] rfl rfl rfl rfl rfl ⟨rfl, ?_, rfl⟩
    have e : stpF (dmC l) (dmK l) K (id, n) = K := by unfold stpF dmC; rw [q, h]; rfl
    rw [e]; rfl
  · have q := ‹(l.how == 2) = false›
    refine endG [] rfl rfl rfl rfl rfl ⟨rfl, ?_, rfl⟩
    have e : stpF (dmC l) (dmK l) K (id, n) = K := by unfold stpF dmC; rw [q]; rfl
    rw [e]; rfl
def dmF (b : VBase) (l : VLink) (K : List VRef) (r : VRow) : List VRef := if (lkV b l r).k != 0 then stpF (dmC l) (dmK l) K (r.id, (lkV b l r).n) else K
theorem dmF_all {b : VBase} {l : VLink} : ∀ (rows : List VRow) (K : List VRef), rows.foldl (dmF b l) K = ((rows.filter fun r => (lkV b l r).k != 0).map fun r => (r.id, (lkV b l r).n)).foldl (stpF (dmC l) (dmK l)) K
  | [], K => rfl
  | r :: rs, K => by
    rw [List.foldl_cons, dmF_all rs, List.filter_cons]
    unfold dmF
    split
    · rw [List.map_cons, List.foldl_cons]
    · rfl
theorem c_namingD (b : VBase) (l : VLink) (h : LkOk b l) (K : List VRef) : CallsV Tryz.prog 158 [.agg (encVBase b), .agg (encVLink l), .one (.clo 167 [0, 1])] [lkBox l, .box [.mp 2], mapO K]
    (funQ (.tup []) [some (lkBox l), some (.box [.mp 2]), some (mapO (dmL b K l))] []) := by
  have hl : b.tabs.length ≤ maxLen := lmax (by have := h.md.tl; omega)
  have c1 := c_tabAt b l.src hl
  have hm := tabOf_md h.md l.src
  have cS := c_tShape (tabOf b l.src) hm (tabOk_iff.1 h.tab).sh
  have cA := c_colAt (tL (tabOf b l.src)) l.col (tL_ml hm)
  obtain ⟨n', hR⟩ := rowTabZ h.i
  have cN := fun i (hi : i < (tabOf b l.src).rows.length) => (c_tNow (tabOf b l.src) (tabOf b l.src).rows[i] hm (tabOk_iff.1 h.tab).sh (rowFacts h.tab hi).1 (rowFacts h.tab hi).2 (hm.rm _ (List.getElem_mem hi)).2).pure (pureVals _)
  have hv := fun i (hi : i < (tabOf b l.src).rows.length) => rowVZ h.z (h.now hi)
  have hq : ∀ i (hi : i < (tabOf b l.src).rows.length), lkV b l (tabOf b l.src).rows[i] = (tNow (tabOf b l.src) (tabOf b l.src).rows[i]).getD (lkAt b l).toNat zVal := fun _ _ => rfl
  have hzz : nameAt (tL (tabOf b l.src)) l.col = lkAt b l := rfl
  rw [hzz] at cA
  have hlen := hm.r
  have hiz := h.i
  have hz0 := h.z
  clear hm h hzz
  unfold dmL nmd
  rw [← dmF_all]
  obtain ⟨f, hf⟩ : ∃ f : List VRef → VRow → List VRef, f = dmF b l := ⟨_, rfl⟩
  have hfs : ∀ K r, f K r = if (lkV b l r).k != 0 then stpF (dmC l) (dmK l) K (r.id, (lkV b l r).n) else K := by intro ok r; rw [hf]; rfl
  rw [← hf]
  clear hf
  generalize tL (tabOf b l.src) = L at cS cA
  generalize lkAt b l = z at *
  generalize tabOf b l.src = t at *
  generalize tabIx b l.src = iz at *
  refine fun_walk hTb Tryz.func158 rfl rfl Tryz.ntmps158 (by simp) (by simp) ?_
  (conv => whnf); repeat' (first
    | (refine And.intro ?_ ?_ <;> ((try intro h) <;> (try simp only [Bool.not_true, Bool.not_false, decide_eq_true_eq, decide_eq_false_iff_not, Int.not_lt, Int.not_le, gt_iff_lt, ge_iff_le] at h) <;> first | exact absurd h Bool.false_ne_true | exact absurd h.symm Bool.false_ne_true | conv => whnf))
    | (refine VL.drawS hTb hMix (by kernel_rfl) (by kernel_rfl) (by kernel_rfl) ?_; conv => whnf)
    | (refine Need.mk ?_; kernel_rfl) | (refine Need.mk ⟨rfl, ?_⟩; decide)
    | (refine VR.pure hTb rfl rfl (o_purN (c1) rfl rfl rfl ⟨rfl, rfl, rfl, rfl⟩ rfl) ?_; conv => whnf)
    | (refine DT.pure hTb rfl (o_purN (c1) rfl rfl rfl ⟨rfl, rfl, rfl, rfl⟩ rfl) ?_; conv => whnf)
    | (refine VR.op hTb rfl rfl (o_index_imm hTb rfl rfl rfl rfl rfl rfl rfl (by omega) (hR)) rfl ?_; conv => whnf)
    | (refine DT.op hTb rfl (o_index_imm hTb rfl rfl rfl rfl rfl rfl rfl (by omega) (hR)) rfl ?_; conv => whnf)
    | (refine VR.pure hTb rfl rfl (o_purF (cS) rfl rfl rfl ⟨rfl, rfl, rfl, rfl⟩ rfl) ?_; conv => whnf)
    | (refine DT.pure hTb rfl (o_purF (cS) rfl rfl rfl ⟨rfl, rfl, rfl, rfl⟩ rfl) ?_; conv => whnf)
    | (refine VR.pure hTb rfl rfl (o_purN (cA) rfl rfl rfl ⟨rfl, rfl, rfl, rfl⟩ rfl) ?_; conv => whnf)
    | (refine DT.pure hTb rfl (o_purN (cA) rfl rfl rfl ⟨rfl, rfl, rfl, rfl⟩ rfl) ?_; conv => whnf))
  refine VL.loopI hTb (fun i => i ≤ t.rows.length) (fun i => ⟨[(2, .one (.clo 167 [0, 1])), (6, .one (.ptr 106 0)), (7, iS z), (26, vrowsI t.rows), (27, iS ((t.rows.map encVRow).length : Nat)), (28, iS i)], [(0, lkBox l), (1, .box [.mp 2]), (2, mapO ((t.rows.take i).foldl f K)), (106, tbBox t)], []⟩) (fun i => t.rows.length - i) 0 (Nat.zero_le _)
    (wk_to [(0, 0), (1, 1), (2, 2), (106, 106)] rfl rfl rfl ⟨rfl, rfl, rfl, rfl, rfl, rfl, trivial⟩ ⟨rfl, ⟨_, rfl, rfl⟩, rfl, ⟨_, rfl, rfl⟩, rfl, ⟨_, rfl, rfl⟩, rfl, ⟨_, rfl, rfl⟩, trivial⟩) (fun i hi => ?_)
  (conv => whnf)
  refine And.intro (fun h2 => ?_) (fun h2 => ?_)
  · have hlt : i < t.rows.length := by simpa using h2
    have hrow := rowVRow hlt
    have hc := cN i hlt
    have hvi := hv i hlt
    have hst := foldl_take_step (f := f) hlt K
    rw [hfs, hq i hlt] at hst
    generalize tNow t t.rows[i] = w at hc hvi hst
    generalize t.rows[i] = ri at hrow hc hst
    generalize w.getD z.toNat zVal = v at hvi hst
    generalize (t.rows.take i).foldl f K = Ki at hst ⊢
    obtain ⟨k, n, tx⟩ := v
    have ch := c_doom1 l Ki ri.id n
    (conv => whnf); repeat' (first
    | (refine And.intro ?_ ?_ <;> ((try intro h) <;> (try simp only [Bool.not_true, Bool.not_false, decide_eq_true_eq, decide_eq_false_iff_not, Int.not_lt, Int.not_le, gt_iff_lt, ge_iff_le] at h) <;> first | exact absurd h Bool.false_ne_true | exact absurd h.symm Bool.false_ne_true | conv => whnf))
    | (refine VL.drawS hTb hMix (by kernel_rfl) (by kernel_rfl) (by kernel_rfl) ?_; conv => whnf)
    | (refine Need.mk ?_; kernel_rfl) | (refine Need.mk ⟨rfl, ?_⟩; decide)
    | (refine VR.op hTb rfl rfl (o_index_imm hTb rfl rfl rfl rfl rfl rfl rfl (by omega) (hrow)) rfl ?_; conv => whnf)
    | (refine DT.op hTb rfl (o_index_imm hTb rfl rfl rfl rfl rfl rfl rfl (by omega) (hrow)) rfl ?_; conv => whnf)
    | (refine VR.pure hTb rfl rfl (o_purF (hc) rfl rfl rfl ⟨rfl, rfl, rfl, rfl⟩ rfl) ?_; conv => whnf)
    | (refine DT.pure hTb rfl (o_purF (hc) rfl rfl rfl ⟨rfl, rfl, rfl, rfl⟩ rfl) ?_; conv => whnf)
    | (refine VR.op hTb rfl rfl (o_index_imm hTb rfl rfl rfl rfl rfl rfl rfl (by omega) (hvi)) rfl ?_; conv => whnf)
    | (refine DT.op hTb rfl (o_index_imm hTb rfl rfl rfl rfl rfl rfl rfl (by omega) (hvi)) rfl ?_; conv => whnf)
    | (refine VR.fun hTb rfl rfl (o_funN (ch) false [0, 1, 2] (fun h => by cases h) (by simp) rfl rfl rfl rfl rfl ⟨rfl, rfl, rfl, rfl⟩ rfl rfl) ?_; conv => whnf)
    | (refine DT.fun hTb rfl (o_funN (ch) false [0, 1, 2] (fun h => by cases h) (by simp) rfl rfl rfl rfl rfl ⟨rfl, rfl, rfl, rfl⟩ rfl rfl) rfl ?_; conv => whnf))
    · have hk : (k != 0) = true := h
      refine ⟨i + 1, hlt, by omega, wk_to [(0, 0), (1, 1), (2, 2), (106, 106)] rfl rfl rfl ⟨rfl, rfl, rfl, rfl, rfl, congrArg (fun x => Slot.one (.g (.int .i64 x))) (wrap64' (by unfold maxLen; omega)), trivial⟩ ⟨rfl, ⟨_, rfl, rfl⟩, rfl, ⟨_, rfl, rfl⟩, rfl, ⟨_, rfl, ?_⟩, rfl, ⟨_, rfl, rfl⟩, trivial⟩⟩
      rw [hst, if_pos hk]; rfl
    · have hk : (k != 0) = false := h
      refine ⟨i + 1, hlt, by omega, wk_to [(0, 0), (1, 1), (2, 2), (106, 106)] rfl rfl rfl ⟨rfl, rfl, rfl, rfl, rfl, congrArg (fun x => Slot.one (.g (.int .i64 x))) (wrap64' (by unfold maxLen; omega)), trivial⟩ ⟨rfl, ⟨_, rfl, rfl⟩, rfl, ⟨_, rfl, rfl⟩, rfl, ⟨_, rfl, ?_⟩, rfl, ⟨_, rfl, rfl⟩, trivial⟩⟩
      rw [hst, if_neg (by rw [hk]; simp)]; rfl
  · (conv => whnf)
    have hie : i = t.rows.length := by simp at h2; omega
    refine endG [] rfl rfl rfl rfl rfl ⟨rfl, ?_, rfl⟩
    rw [hie, List.take_length]; rfl
theorem BOkB.lkOk {b : VBase} (h : BOkB b) (hm : b.md) {l : VLink} (hl : l ∈ b.links) : LkOk b l := LkOk.of hm (tabsOk_of h.tb) (h.lnk hl)
theorem trK_len (K : List VRef) : ((trK K).map (entV keyR Value.bool)).length = K.length := by simp
theorem c_doomed (b : VBase) (s : VRef) (hm : b.md) (hb : BOkB b) : CallsV Tryz.prog 106 [.agg (encVBase b), strS s.name, iS s.id] []
    (relQ (fun K => Fnd b s K) (fun _ => .one (.mp 0)) (fun _ => []) (fun K => [mapO K])) := by
  have hll := hm.ll
  have cN := fun i (hi : i < b.links.length) K => c_namingD b b.links[i] (hb.lkOk hm (List.getElem_mem hi)) K
  obtain ⟨sn, si⟩ := s
  refine funF_walk hTb Tryz.func106 rfl rfl Tryz.ntmps106 (by simp) (by simp) ?_
  (conv => whnf); repeat' (first
    | (refine And.intro ?_ ?_ <;> ((try intro h) <;> (try simp only [Bool.not_true, Bool.not_false, decide_eq_true_eq, decide_eq_false_iff_not, Int.not_lt, Int.not_le, gt_iff_lt, ge_iff_le] at h) <;> first | exact absurd h Bool.false_ne_true | exact absurd h.symm Bool.false_ne_true | conv => whnf))
    | (refine VL.drawS hTb hMix (by kernel_rfl) (by kernel_rfl) (by kernel_rfl) ?_; conv => whnf)
    | (refine Need.mk ?_; kernel_rfl) | (refine Need.mk ⟨rfl, ?_⟩; decide)
    | (refine VR.op hTb rfl rfl (o_mkmap (q := 111) rfl rfl (by decide)) rfl ?_; conv => whnf)
    | (refine VR.op hTb rfl rfl (o_mapupd (g := keyR) (h := Value.bool) (eqb := q_VRef) (l := trK []) (x := ⟨sn, si⟩) (v := true) hTb (.inr rfl) rfl rfl rfl rfl rfl (fun ⟨_, _⟩ ⟨_, _⟩ => rfl) (fun x y h => by rw [qR_iff.1 h]) rfl rfl rfl rfl rfl rfl) rfl ?_; conv => whnf))
  refine VL.loopI hTb (α := Int × List VRef) (fun x => (∀ r ∈ x.2, Rch b ⟨sn, si⟩ r) ∧ (⟨sn, si⟩ : VRef) ∈ x.2 ∧ ((x.1 = 0 ∧ x.2.length = 1) ∨ ∃ K0 : List VRef, x.1 = (K0.length : Int) ∧ x.2 = dmP b K0 ∧ (∀ r ∈ K0, Rch b ⟨sn, si⟩ r) ∧ (⟨sn, si⟩ : VRef) ∈ K0))
    (fun x => ⟨[(3, .one (.ptr 103 0)), (7, .one (.ptr 107 0)), (8, iS x.1)], [(103, .box (encVBase b)), (107, .box [.mp 111]), (111, mapO x.2)], []⟩) (fun x => if (x.2.length : Int) = x.1 then 0 else 1 + cntU (dmU b) x.2) (0, [⟨sn, si⟩])
    ⟨fun r hr => by (simp at hr; subst hr; exact .start), by simp, .inl ⟨rfl, rfl⟩⟩
    (wk_to [(103, 103), (107, 107), (111, 111)] rfl rfl rfl ⟨rfl, rfl, rfl, trivial⟩ ⟨rfl, ⟨_, rfl, rfl⟩, rfl, ⟨_, rfl, rfl⟩, rfl, ⟨_, rfl, rfl⟩, trivial⟩) (fun x hx => ?_)
  obtain ⟨n, K⟩ := x
  obtain ⟨h1, h2, h3⟩ := hx
  simp only at h1 h2 h3
  (conv => whnf); repeat' (first
    | (refine And.intro ?_ ?_ <;> ((try intro h) <;> (try simp only [Bool.not_true, Bool.not_false, decide_eq_true_eq, decide_eq_false_iff_not, Int.not_lt, Int.not_le, gt_iff_lt, ge_iff_le] at h) <;> first | exact absurd h Bool.false_ne_true | exact absurd h.symm Bool.false_ne_true | conv => whnf))
    | (refine VL.drawS hTb hMix (by kernel_rfl) (by kernel_rfl) (by kernel_rfl) ?_; conv => whnf)
    | (refine Need.mk ?_; kernel_rfl) | (refine Need.mk ⟨rfl, ?_⟩; decide)
    | (refine VR.op hTb rfl rfl (o_len_map hTb rfl rfl rfl rfl rfl (trK_len K)) rfl ?_; conv => whnf))
  · have hne : ¬ (K.length : Int) = n := by intro e; rw [← e] at h; simp at h
    refine VL.loopI hTb (fun i => i ≤ b.links.length) (fun i => ⟨[(3, .one (.ptr 103 0)), (7, .one (.ptr 107 0)), (8, iS (K.length : Nat)), (23, vlinksI b.links), (24, iS ((b.links.map encVLink).length : Nat)), (25, iS i)], [(103, .box (encVBase b)), (107, .box [.mp 111]), (111, mapO ((b.links.take i).foldl (dmL b) K))], []⟩) (fun i => b.links.length - i) 0 (Nat.zero_le _)
      (wk_to [(103, 103), (107, 107), (111, 111)] rfl rfl rfl ⟨rfl, rfl, rfl, rfl, rfl, rfl, trivial⟩ ⟨rfl, ⟨_, rfl, rfl⟩, rfl, ⟨_, rfl, rfl⟩, rfl, ⟨_, rfl, rfl⟩, trivial⟩) (fun i hi => ?_)
    (conv => whnf)
    refine And.intro (fun h4 => ?_) (fun h4 => ?_)
    · have hlt : i < b.links.length := by simpa using h4
      have hrow := rowVLink hlt
      have hst := foldl_take_step (f := dmL b) hlt K
      have hc := cN i hlt ((b.links.take i).foldl (dmL b) K)
      generalize (b.links.take i).foldl (dmL b) K = Ki at hst hc ⊢
      generalize b.links[i] = li at hrow hc hst
      (conv => whnf); repeat' (first
    | (refine And.intro ?_ ?_ <;> ((try intro h) <;> (try simp only [Bool.not_true, Bool.not_false, decide_eq_true_eq, decide_eq_false_iff_not, Int.not_lt, Int.not_le, gt_iff_lt, ge_iff_le] at h) <;> first | exact absurd h Bool.false_ne_true | exact absurd h.symm Bool.false_ne_true | conv => whnf))
    | (refine VL.drawS hTb hMix (by kernel_rfl) (by kernel_rfl) (by kernel_rfl) ?_; conv => whnf)
    | (refine Need.mk ?_; kernel_rfl) | (refine Need.mk ⟨rfl, ?_⟩; decide)
    | (refine VR.op hTb rfl rfl (o_index_imm hTb rfl rfl rfl rfl rfl rfl rfl (by omega) (hrow)) rfl ?_; conv => whnf)
    | (refine DT.op hTb rfl (o_index_imm hTb rfl rfl rfl rfl rfl rfl rfl (by omega) (hrow)) rfl ?_; conv => whnf)
    | (refine VR.fun hTb rfl rfl (o_funN (hc) false [110, 107, 111] (fun h => by cases h) (by simp) rfl rfl rfl rfl rfl ⟨rfl, rfl, rfl, rfl⟩ rfl rfl) ?_; conv => whnf)
    | (refine DT.fun hTb rfl (o_funN (hc) false [110, 107, 111] (fun h => by cases h) (by simp) rfl rfl rfl rfl rfl ⟨rfl, rfl, rfl, rfl⟩ rfl rfl) rfl ?_; conv => whnf))
      refine ⟨i + 1, hlt, by omega, wk_to [(103, 103), (107, 107), (111, 111)] rfl rfl rfl ⟨rfl, rfl, rfl, rfl, rfl, congrArg (fun x => Slot.one (.g (.int .i64 x))) (wrap64' (by unfold maxLen; omega)), trivial⟩ ⟨rfl, ⟨_, rfl, rfl⟩, rfl, ⟨_, rfl, rfl⟩, rfl, ⟨_, rfl, ?_⟩, trivial⟩⟩
      rw [hst]; rfl
    · have hie : i = b.links.length := by simp at h4; omega
      subst hie
      rw [List.take_length, dmP_links]
      have hcn := dmP_cnt b K
      (conv => whnf)
      refine ⟨(K.length, dmP b K), ⟨dmP_sound h1, foldF_mono _ _ _ h2, .inr ⟨K, rfl, rfl, h1, h2⟩⟩, ?_, wk_to [(103, 103), (107, 107), (111, 111)] rfl rfl rfl ⟨rfl, rfl, rfl, trivial⟩ ⟨rfl, ⟨_, rfl, rfl⟩, rfl, ⟨_, rfl, rfl⟩, rfl, ⟨_, rfl, rfl⟩, trivial⟩⟩
      simp only
      rw [if_neg hne]
      rcases hcn with hcn | hcn
      · rw [hcn, if_pos rfl]; omega
      · split <;> omega
  · have he : (K.length : Int) = n := by (have h9 : (n != (K.length : Int)) = false := h; rw [bne_eq_false_iff_eq] at h9; exact h9.symm)
    have hF : Fnd b ⟨sn, si⟩ K := by
      rcases h3 with ⟨h3, h4⟩ | ⟨K0, h3, h4, h5, h6⟩
      · omega
      · have hl : (dmP b K0).length = K0.length := by rw [← h4]; omega
        obtain ⟨e1, e2⟩ := dmP_fnd h5 h6 hl
        rw [h4, e1]; exact e2
    exact endR [111] K rfl rfl rfl rfl rfl (LeS.refl _) rfl rfl hF
end Go.Vl

namespace Go.Vl
open Go Go.RowKit Go.Proofs
set_option maxRecDepth 100000
set_option linter.unusedSimpArgs false
set_option linter.unusedVariables false
set_option maxHeartbeats 8000000

def goF (K : List VRef) (xs : List (VTab × VRow)) : List VRef := (xs.filter fun x => inL K (spK x)).map spK
def preT (b : VBase) (i : Nat) : List (VTab × VRow) := (b.tabs.take i).flatMap fun t => t.table.rows.map fun r => (t, r)
theorem goL_pre (b : VBase) (K : List VRef) : goL b K = goF K (preT b b.tabs.length) := by
  unfold goL goF preT flatS; rw [List.take_length]
theorem preT_step {b : VBase} {i : Nat} (h : i < b.tabs.length) : preT b (i + 1) = preT b i ++ b.tabs[i].table.rows.map fun r => (b.tabs[i], r) := by
  unfold preT
  rw [List.take_succ_eq_append_getElem h, List.flatMap_append]; simp
theorem goF_snoc (K : List VRef) (xs : List (VTab × VRow)) (x : VTab × VRow) : goF K (xs ++ [x]) = if inL K (spK x) then goF K xs ++ [spK x] else goF K xs := by
  unfold goF
  rw [List.filter_append, List.map_append]
  by_cases h : inL K (spK x) = true
  · rw [if_pos h, List.filter_cons_of_pos (by simpa using h)]; rfl
  · rw [if_neg h, List.filter_cons_of_neg (by simpa using h)]; simp
theorem goF_len (K : List VRef) (xs : List (VTab × VRow)) : (goF K xs).length ≤ xs.length := by
  unfold goF; rw [List.length_map]; exact List.length_filter_le _ _
theorem mapT_step {t : VTab} {k : Nat} (h : k < t.table.rows.length) : (t.table.rows.take (k + 1)).map (fun r => (t, r)) = (t.table.rows.take k).map (fun r => (t, r)) ++ [(t, t.table.rows[k])] := by
  rw [List.take_succ_eq_append_getElem h, List.map_append]; rfl
theorem BOkB.rows8 {b : VBase} (hb : BOkB b) {t : VTab} (ht : t ∈ b.tabs) : t.table.rows.length ≤ 8 := by
  have := tabsOk_of hb.tb t ht
  exact (tabOk_iff.1 this).r8
theorem preT_len {b : VBase} (hb : BOkB b) : ∀ i, i ≤ b.tabs.length → (preT b i).length ≤ 8 * i
  | 0, _ => by simp [preT]
  | i + 1, h => by
    have h1 := preT_len hb i (by omega)
    have h2 := hb.rows8 (List.getElem_mem (show i < b.tabs.length by omega))
    rw [preT_step (by omega), List.length_append, List.length_map]; omega
theorem c_clipRef (l : List VRef) : CallsV Tryz.prog 166 [.one (.own 0 0 l.length)] [.arr 75 2 (l.map encVRef)] (funQ (.one (.own 0 0 l.length)) [some (.arr 75 2 (l.map encVRef))] []) := by
  refine funF_walk hTb Tryz.func166 rfl rfl Tryz.ntmps166 (by simp) (by simp) ?_
  (conv => whnf); repeat' (first
    | (refine And.intro ?_ ?_ <;> ((try intro h) <;> (try simp only [Bool.not_true, Bool.not_false, decide_eq_true_eq, decide_eq_false_iff_not, Int.not_lt, Int.not_le, gt_iff_lt, ge_iff_le] at h) <;> first | exact absurd h Bool.false_ne_true | exact absurd h.symm Bool.false_ne_true | conv => whnf))
    | (refine VL.drawS hTb hMix (by kernel_rfl) (by kernel_rfl) (by kernel_rfl) ?_; conv => whnf)
    | (refine Need.mk ?_; kernel_rfl) | (refine Need.mk ⟨rfl, ?_⟩; decide)
    | (refine VR.op hTb rfl rfl (o_slice3_own (n1 := 0) (n2 := l.length) (n3 := l.length) hTb rfl rfl rfl rfl rfl rfl rfl bnd_none (bnd_some rfl) (bnd_some rfl) (Nat.zero_le _) (Nat.le_refl _) (Nat.le_refl _) (by simp)) rfl ?_; conv => whnf))
  exact endW [] rfl rfl rfl rfl rfl (LeS.refl _) rfl rfl
theorem c_listed (b : VBase) (hm : b.md) (hb : BOkB b) (K : List VRef) : CallsV Tryz.prog 105 [.agg (encVBase b), .one (.mp 0)] [mapO K] (funQ (.one (.own 1 0 (goL b K).length)) [some (mapO K)] [.arr 75 2 ((goL b K).map encVRef)]) := by
  have htl := hb.t3
  rw [goL_pre]
  refine funF_walk hTb Tryz.func105 rfl rfl Tryz.ntmps105 (by simp) (by simp) ?_
  (conv => whnf); repeat' (first | (refine And.intro ?_ ?_ <;> ((try intro h) <;> (try simp only [Bool.not_true, Bool.not_false] at h) <;> first | exact absurd h Bool.false_ne_true | exact absurd h.symm Bool.false_ne_true | conv => whnf)) | (refine Need.mk ?_; kernel_rfl) | (refine Need.mk ⟨rfl, ?_⟩; decide))
  refine VL.nil2 5 105 2 75 rfl rfl (by decide) ?_
  refine VL.loopI hTb (fun i => i ≤ b.tabs.length) (fun i => ⟨[(1, .one (.mp 0)), (5, .one (.own 105 0 (goF K (preT b i)).length)), (12, vtabsI b.tabs), (13, iS ((b.tabs.map encVTab).length : Nat)), (14, iS i)], [(0, mapO K), (105, .arr 75 2 ((goF K (preT b i)).map encVRef))], []⟩) (fun i => b.tabs.length - i) 0 (Nat.zero_le _)
    (wk_to [(0, 0), (105, 105)] rfl rfl rfl ⟨rfl, rfl, rfl, rfl, rfl, trivial⟩ ⟨rfl, ⟨_, rfl, rfl⟩, rfl, ⟨_, rfl, rfl⟩, trivial⟩) (fun i hi => ?_)
  (conv => whnf)
  refine And.intro (fun h2 => ?_) (fun h2 => ?_)
  · have hlt : i < b.tabs.length := by simpa using h2
    have hrow := rowVTab hlt
    have hps := preT_step hlt
    have hpl := preT_len hb i (by omega)
    have h8 := hb.rows8 (List.getElem_mem hlt)
    generalize b.tabs[i] = ti at hrow hps h8
    generalize preT b i = X at hps hpl ⊢
    obtain ⟨tn, t⟩ := ti
    simp only at h8
    (conv => whnf); repeat' (first
    | (refine And.intro ?_ ?_ <;> ((try intro h) <;> (try simp only [Bool.not_true, Bool.not_false, decide_eq_true_eq, decide_eq_false_iff_not, Int.not_lt, Int.not_le, gt_iff_lt, ge_iff_le] at h) <;> first | exact absurd h Bool.false_ne_true | exact absurd h.symm Bool.false_ne_true | conv => whnf))
    | (refine VL.drawS hTb hMix (by kernel_rfl) (by kernel_rfl) (by kernel_rfl) ?_; conv => whnf)
    | (refine Need.mk ?_; kernel_rfl) | (refine Need.mk ⟨rfl, ?_⟩; decide)
    | (refine VR.op hTb rfl rfl (o_index_imm hTb rfl rfl rfl rfl rfl rfl rfl (by omega) (hrow)) rfl ?_; conv => whnf)
    | (refine DT.op hTb rfl (o_index_imm hTb rfl rfl rfl rfl rfl rfl rfl (by omega) (hrow)) rfl ?_; conv => whnf))
    refine VL.loopI hTb (fun k => k ≤ t.rows.length) (fun k => ⟨[(1, .one (.mp 0)), (5, .one (.own 105 0 (goF K (X ++ (t.rows.take k).map fun r => ((⟨tn, t⟩ : VTab), r))).length)), (7, .one (.ptr 107 0)), (12, vtabsI b.tabs), (13, iS ((b.tabs.map encVTab).length : Nat)), (14, iS i), (20, vrowsI t.rows), (21, iS ((t.rows.map encVRow).length : Nat)), (22, iS k)], [(0, mapO K), (105, .arr 75 2 ((goF K (X ++ (t.rows.take k).map fun r => ((⟨tn, t⟩ : VTab), r))).map encVRef)), (107, .box (encVTab ⟨tn, t⟩))], []⟩) (fun k => t.rows.length - k) 0 (Nat.zero_le _)
      (wk_to [(0, 0), (105, 105), (107, 107)] rfl rfl rfl ⟨rfl, (by rw [List.take_zero, List.map_nil, List.append_nil]; rfl), rfl, rfl, rfl, rfl, rfl, rfl, rfl, trivial⟩ ⟨rfl, ⟨_, rfl, rfl⟩, rfl, ⟨_, rfl, (by rw [List.take_zero, List.map_nil, List.append_nil]; rfl)⟩, rfl, ⟨_, rfl, rfl⟩, trivial⟩) (fun k hk => ?_)
    (conv => whnf)
    refine And.intro (fun h3 => ?_) (fun h3 => ?_)
    · have hkt : k < t.rows.length := by simpa using h3
      have hrw := rowVRow hkt
      have hst : (t.rows.take (k + 1)).map (fun r => ((⟨tn, t⟩ : VTab), r)) = (t.rows.take k).map (fun r => ((⟨tn, t⟩ : VTab), r)) ++ [(⟨tn, t⟩, t.rows[k])] := mapT_step (t := ⟨tn, t⟩) hkt
      have hgs := goF_snoc K (X ++ (t.rows.take k).map fun r => ((⟨tn, t⟩ : VTab), r)) (⟨tn, t⟩, t.rows[k])
      rw [List.append_assoc, ← hst] at hgs
      have hml : (goF K (X ++ (t.rows.take k).map fun r => ((⟨tn, t⟩ : VTab), r))).length ≤ 1000 := by
        have h4 := goF_len K (X ++ (t.rows.take k).map fun r => ((⟨tn, t⟩ : VTab), r))
        have h5 : (X ++ (t.rows.take k).map fun r => ((⟨tn, t⟩ : VTab), r)).length ≤ X.length + t.rows.length := by simp; omega
        omega
      generalize goF K (X ++ (t.rows.take k).map fun r => ((⟨tn, t⟩ : VTab), r)) = M at hgs hml ⊢
      generalize t.rows[k] = r at hrw hgs
      have hsp : spK ((⟨tn, t⟩ : VTab), r) = ⟨tn, r.id⟩ := rfl
      rw [hsp] at hgs
      (conv => whnf); repeat' (first
    | (refine And.intro ?_ ?_ <;> ((try intro h) <;> (try simp only [Bool.not_true, Bool.not_false, decide_eq_true_eq, decide_eq_false_iff_not, Int.not_lt, Int.not_le, gt_iff_lt, ge_iff_le] at h) <;> first | exact absurd h Bool.false_ne_true | exact absurd h.symm Bool.false_ne_true | conv => whnf))
    | (refine VL.drawS hTb hMix (by kernel_rfl) (by kernel_rfl) (by kernel_rfl) ?_; conv => whnf)
    | (refine Need.mk ?_; kernel_rfl) | (refine Need.mk ⟨rfl, ?_⟩; decide)
    | (refine VR.op hTb rfl rfl (o_index_imm hTb rfl rfl rfl rfl rfl rfl rfl (by omega) (hrw)) rfl ?_; conv => whnf)
    | (refine DT.op hTb rfl (o_index_imm hTb rfl rfl rfl rfl rfl rfl rfl (by omega) (hrw)) rfl ?_; conv => whnf)
    | (refine VR.op hTb rfl rfl (o_lookup (g := keyR) (h := Value.bool) (eqb := q_VRef) (l := trK K) (x := ⟨tn, r.id⟩) (z := .bool false) (r := .bool (inL K ⟨tn, r.id⟩)) hTb rfl rfl rfl rfl rfl (by kernel_rfl) rfl (fun ⟨_, _⟩ ⟨_, _⟩ => rfl) (fun _ => rfl) rfl rfl rfl rfl get_trV) rfl ?_; conv => whnf)
    | (refine VR.opk hTb rfl rfl (o_app1 (q := 137) (a := (⟨tn, r.id⟩ : VRef)) hTb rfl rfl rfl rfl rfl rfl rfl rfl rfl rfl rfl rfl (by omega) (by show _ * 24 ≤ _; omega) (by unfold maxLen; omega)) ?_; conv => whnf)
    | (refine DT.opk hTb rfl (o_app1 (q := 137) (a := (⟨tn, r.id⟩ : VRef)) hTb rfl rfl rfl rfl rfl rfl rfl rfl rfl rfl rfl rfl (by omega) (by show _ * 24 ≤ _; omega) (by unfold maxLen; omega)) ?_; conv => whnf))
      · have e := hgs
        rw [if_pos h] at e
        exact ⟨k + 1, hkt, by omega, wk_to [(0, 0), (137, 105), (107, 107)] rfl rfl rfl ⟨rfl, congrArg (fun n => Slot.one (.own 105 0 n)) (by rw [e]; simp), rfl, rfl, rfl, rfl, rfl, rfl, congrArg (fun x => Slot.one (.g (.int .i64 x))) (wrap64' (by unfold maxLen; omega)), trivial⟩ ⟨rfl, ⟨_, rfl, rfl⟩, rfl, ⟨_, rfl, congrArg (fun r : List VRef => Ob.arr 75 2 (r.map encVRef)) e.symm⟩, rfl, ⟨_, rfl, rfl⟩, trivial⟩⟩
      · have e := hgs
        rw [if_neg (by rw [h]; simp)] at e
        exact ⟨k + 1, hkt, by omega, wk_to [(0, 0), (105, 105), (107, 107)] rfl rfl rfl ⟨rfl, congrArg (fun r : List VRef => Slot.one (.own 105 0 r.length)) e.symm, rfl, rfl, rfl, rfl, rfl, rfl, congrArg (fun x => Slot.one (.g (.int .i64 x))) (wrap64' (by unfold maxLen; omega)), trivial⟩ ⟨rfl, ⟨_, rfl, rfl⟩, rfl, ⟨_, rfl, congrArg (fun r : List VRef => Ob.arr 75 2 (r.map encVRef)) e.symm⟩, rfl, ⟨_, rfl, rfl⟩, trivial⟩⟩
    · have hke : k = t.rows.length := by simp at h3; omega
      subst hke
      rw [List.take_length]
      (conv => whnf)
      exact ⟨i + 1, hlt, by omega, wk_to [(0, 0), (105, 105)] rfl rfl rfl ⟨rfl, congrArg (fun x => Slot.one (.own 105 0 (goF K x).length)) hps.symm, rfl, rfl, congrArg (fun x => Slot.one (.g (.int .i64 x))) (wrap64' (by unfold maxLen; omega)), trivial⟩ ⟨rfl, ⟨_, rfl, rfl⟩, rfl, ⟨_, rfl, congrArg (fun x => Ob.arr 75 2 ((goF K x).map encVRef)) hps.symm⟩, trivial⟩⟩
  · have hie : i = b.tabs.length := by simp at h2; omega
    subst hie
    generalize goF K (preT b b.tabs.length) = M
    (conv => whnf)
    have cC := c_clipRef M
    (conv => whnf); repeat' (first
    | (refine And.intro ?_ ?_ <;> ((try intro h) <;> (try simp only [Bool.not_true, Bool.not_false, decide_eq_true_eq, decide_eq_false_iff_not, Int.not_lt, Int.not_le, gt_iff_lt, ge_iff_le] at h) <;> first | exact absurd h Bool.false_ne_true | exact absurd h.symm Bool.false_ne_true | conv => whnf))
    | (refine VL.drawS hTb hMix (by kernel_rfl) (by kernel_rfl) (by kernel_rfl) ?_; conv => whnf)
    | (refine Need.mk ?_; kernel_rfl) | (refine Need.mk ⟨rfl, ?_⟩; decide)
    | (refine VR.fun hTb rfl rfl (o_funN (cC) false [105] (fun h => by cases h) (by simp) rfl rfl rfl rfl rfl ⟨rfl, rfl, rfl, rfl⟩ rfl rfl) ?_; conv => whnf)
    | (refine DT.fun hTb rfl (o_funN (cC) false [105] (fun h => by cases h) (by simp) rfl rfl rfl rfl rfl ⟨rfl, rfl, rfl, rfl⟩ rfl rfl) rfl ?_; conv => whnf))
    exact endW [105] rfl rfl rfl rfl rfl (LeS.refl _) rfl rfl
def hasB (b : VBase) (s : VRef) : Bool := !decide (tabIx b s.name < 0) && !decide (tAt (tabOf b s.name) s.id < 0)
theorem c_bhas (b : VBase) (s : VRef) (hm : b.md) : CallsV Tryz.prog 104 [.agg (encVBase b), strS s.name, iS s.id] [] (pureQ (bS (hasB b s))) := by
  have hl : b.tabs.length ≤ maxLen := lmax (by have := hm.tl; omega)
  have c1 := c_tabAt b s.name hl
  have c2 := c_rowAt (tabOf b s.name) s.id (lmax (by have := (tabOf_md hm s.name).r; omega))
  have hR := fun (h : ¬ tabIx b s.name < 0) => rowTabZ h
  unfold hasB
  generalize tAt (tabOf b s.name) s.id = z at c2 ⊢
  generalize tabOf b s.name = t at c2 hR
  generalize tabIx b s.name = i at c1 hR ⊢
  refine pure_walk hTb Tryz.func104 rfl rfl Tryz.ntmps104 (by simp) ?_
  by_cases hi : i < 0
  · rw [decide_eq_true hi]
    (conv => whnf); repeat' (first
    | (exact absurd h (by omega))
    | (refine And.intro ?_ ?_ <;> ((try intro h) <;> (try simp only [Bool.not_true, Bool.not_false, decide_eq_true_eq, decide_eq_false_iff_not, Int.not_lt, Int.not_le, gt_iff_lt, ge_iff_le] at h) <;> first | exact absurd h Bool.false_ne_true | exact absurd h.symm Bool.false_ne_true | conv => whnf))
    | (refine VL.drawS hTb hMix (by kernel_rfl) (by kernel_rfl) (by kernel_rfl) ?_; conv => whnf)
    | (refine Need.mk ?_; kernel_rfl) | (refine Need.mk ⟨rfl, ?_⟩; decide)
    | (refine VR.pure hTb rfl rfl (o_purN (c1) rfl rfl rfl ⟨rfl, rfl, rfl, rfl⟩ rfl) ?_; conv => whnf)
    | (refine DT.pure hTb rfl (o_purN (c1) rfl rfl rfl ⟨rfl, rfl, rfl, rfl⟩ rfl) ?_; conv => whnf))
    all_goals rfl
  obtain ⟨n', hR⟩ := hR hi
  rw [decide_eq_false hi]
  have e : (!decide (z < 0)) = decide (0 ≤ z) := by rw [Bool.eq_iff_iff]; simp
  rw [e]
  (conv => whnf); repeat' (first
    | (exact absurd h (by omega))
    | (refine And.intro ?_ ?_ <;> ((try intro h) <;> (try simp only [Bool.not_true, Bool.not_false, decide_eq_true_eq, decide_eq_false_iff_not, Int.not_lt, Int.not_le, gt_iff_lt, ge_iff_le] at h) <;> first | exact absurd h Bool.false_ne_true | exact absurd h.symm Bool.false_ne_true | conv => whnf))
    | (refine VL.drawS hTb hMix (by kernel_rfl) (by kernel_rfl) (by kernel_rfl) ?_; conv => whnf)
    | (refine Need.mk ?_; kernel_rfl) | (refine Need.mk ⟨rfl, ?_⟩; decide)
    | (refine VR.pure hTb rfl rfl (o_purN (c1) rfl rfl rfl ⟨rfl, rfl, rfl, rfl⟩ rfl) ?_; conv => whnf)
    | (refine DT.pure hTb rfl (o_purN (c1) rfl rfl rfl ⟨rfl, rfl, rfl, rfl⟩ rfl) ?_; conv => whnf)
    | (refine VR.op hTb rfl rfl (o_index_imm hTb rfl rfl rfl rfl rfl rfl rfl (by omega) (hR)) rfl ?_; conv => whnf)
    | (refine DT.op hTb rfl (o_index_imm hTb rfl rfl rfl rfl rfl rfl rfl (by omega) (hR)) rfl ?_; conv => whnf)
    | (refine VR.pure hTb rfl rfl (o_purN (c2) rfl rfl rfl ⟨rfl, rfl, rfl, rfl⟩ rfl) ?_; conv => whnf)
    | (refine DT.pure hTb rfl (o_purN (c2) rfl rfl rfl ⟨rfl, rfl, rfl, rfl⟩ rfl) ?_; conv => whnf))
  all_goals rfl
def DmR (b : VBase) (s : VRef) (R : List VRef) : Prop := (baseOk b = true ∧ hasB b s = true ∧ ∃ K, Fnd b s K ∧ R = goL b K) ∨ (¬ (baseOk b = true ∧ hasB b s = true) ∧ R = [])
theorem DmR.eq {b : VBase} {s : VRef} {R R' : List VRef} (h : DmR b s R) (h' : DmR b s R') : R = R' := by
  rcases h with ⟨h1, h2, K, h3, rfl⟩ | ⟨h1, rfl⟩
  · rcases h' with ⟨_, _, K', h4, rfl⟩ | ⟨h4, _⟩
    · exact outL_eq h3 h4
    · exact absurd ⟨h1, h2⟩ h4
  · rcases h' with ⟨h3, h4, _⟩ | ⟨_, rfl⟩
    · exact absurd ⟨h3, h4⟩ h1
    · rfl
abbrev dmQ (b : VBase) (s : VRef) : Slot → List (Option Ob) → List Ob → Prop := relQ (fun R => DmR b s R) (fun R => .one (.own 0 0 R.length)) (fun _ => []) (fun R => [.arr 75 2 (R.map encVRef)])
theorem c_implBaseDoomed (b : VBase) (s : VRef) (hm : b.md) : CallsV Tryz.prog 37 [.agg (encVBase b), strS s.name, iS s.id] [] (dmQ b s) := by
  have c1 := c_implBaseOk b hm
  have c2 := c_bhas b s hm
  have c3 := fun (h : baseOk b = true) => c_doomed b s hm (baseOk_iff.1 h)
  have c4 := fun (h : baseOk b = true) K => c_listed b hm (baseOk_iff.1 h) K
  have hd : ∀ R, ¬ (baseOk b = true ∧ hasB b s = true) → R = [] → DmR b s R := fun R h e => .inr ⟨h, e⟩
  have hd2 : baseOk b = true → hasB b s = true → ∀ K, Fnd b s K → DmR b s (goL b K) := fun h1 h2 K hK => .inl ⟨h1, h2, K, hK, rfl⟩
  generalize baseOk b = b1 at c1 c3 c4 hd hd2
  generalize hasB b s = b2 at c2 hd hd2
  obtain ⟨sn, si⟩ := s
  refine funF_walk hTb Tryz.func37 rfl rfl Tryz.ntmps37 (by simp) (by simp) ?_
  cases b1
  · (conv => whnf); repeat' (first
    | (refine And.intro ?_ ?_ <;> ((try intro h) <;> (try simp only [Bool.not_true, Bool.not_false, decide_eq_true_eq, decide_eq_false_iff_not, Int.not_lt, Int.not_le, gt_iff_lt, ge_iff_le] at h) <;> first | exact absurd h Bool.false_ne_true | exact absurd h.symm Bool.false_ne_true | conv => whnf))
    | (refine VL.drawS hTb hMix (by kernel_rfl) (by kernel_rfl) (by kernel_rfl) ?_; conv => whnf)
    | (refine Need.mk ?_; kernel_rfl) | (refine Need.mk ⟨rfl, ?_⟩; decide)
    | (refine VR.pure hTb rfl rfl (o_purN (c1) rfl rfl rfl ⟨rfl, rfl, rfl, rfl⟩ rfl) ?_; conv => whnf)
    | (refine DT.pure hTb rfl (o_purN (c1) rfl rfl rfl ⟨rfl, rfl, rfl, rfl⟩ rfl) ?_; conv => whnf))
    exact EndV.nil 6 106 2 75 rfl rfl (by decide) (endR [106] [] rfl rfl rfl rfl rfl (LeS.refl _) rfl rfl (hd _ (by simp) rfl))
  cases b2
  · (conv => whnf); repeat' (first
    | (refine And.intro ?_ ?_ <;> ((try intro h) <;> (try simp only [Bool.not_true, Bool.not_false, decide_eq_true_eq, decide_eq_false_iff_not, Int.not_lt, Int.not_le, gt_iff_lt, ge_iff_le] at h) <;> first | exact absurd h Bool.false_ne_true | exact absurd h.symm Bool.false_ne_true | conv => whnf))
    | (refine VL.drawS hTb hMix (by kernel_rfl) (by kernel_rfl) (by kernel_rfl) ?_; conv => whnf)
    | (refine Need.mk ?_; kernel_rfl) | (refine Need.mk ⟨rfl, ?_⟩; decide)
    | (refine VR.pure hTb rfl rfl (o_purN (c1) rfl rfl rfl ⟨rfl, rfl, rfl, rfl⟩ rfl) ?_; conv => whnf)
    | (refine DT.pure hTb rfl (o_purN (c1) rfl rfl rfl ⟨rfl, rfl, rfl, rfl⟩ rfl) ?_; conv => whnf)
    | (refine VR.pure hTb rfl rfl (o_purN (c2) rfl rfl rfl ⟨rfl, rfl, rfl, rfl⟩ rfl) ?_; conv => whnf)
    | (refine DT.pure hTb rfl (o_purN (c2) rfl rfl rfl ⟨rfl, rfl, rfl, rfl⟩ rfl) ?_; conv => whnf))
    exact EndV.nil 6 106 2 75 rfl rfl (by decide) (endR [106] [] rfl rfl rfl rfl rfl (LeS.refl _) rfl rfl (hd _ (by simp) rfl))
  have c3 := c3 rfl
  have c4 := c4 rfl
  have hd2 := hd2 rfl rfl
  (conv => whnf); repeat' (first
    | (refine And.intro ?_ ?_ <;> ((try intro h) <;> (try simp only [Bool.not_true, Bool.not_false, decide_eq_true_eq, decide_eq_false_iff_not, Int.not_lt, Int.not_le, gt_iff_lt, ge_iff_le] at h) <;> first | exact absurd h Bool.false_ne_true | exact absurd h.symm Bool.false_ne_true | conv => whnf))
    | (refine VL.drawS hTb hMix (by kernel_rfl) (by kernel_rfl) (by kernel_rfl) ?_; conv => whnf)
    | (refine Need.mk ?_; kernel_rfl) | (refine Need.mk ⟨rfl, ?_⟩; decide)
    | (refine VR.pure hTb rfl rfl (o_purN (c1) rfl rfl rfl ⟨rfl, rfl, rfl, rfl⟩ rfl) ?_; conv => whnf)
    | (refine DT.pure hTb rfl (o_purN (c1) rfl rfl rfl ⟨rfl, rfl, rfl, rfl⟩ rfl) ?_; conv => whnf)
    | (refine VR.pure hTb rfl rfl (o_purN (c2) rfl rfl rfl ⟨rfl, rfl, rfl, rfl⟩ rfl) ?_; conv => whnf)
    | (refine DT.pure hTb rfl (o_purN (c2) rfl rfl rfl ⟨rfl, rfl, rfl, rfl⟩ rfl) ?_; conv => whnf)
    | (refine DT.rel hTb rfl (o_relN c3 false [] (fun _ _ => ⟨by simp, fun h => by cases h⟩) rfl rfl rfl rfl rfl ⟨rfl, rfl, rfl, rfl⟩ rfl rfl) [1084] (by kernel_rfl) (by kernel_rfl) ?_; intro K hK; refine And.intro rfl (And.intro rfl ?_); conv => whnf)
    | (refine VR.fun hTb rfl rfl (o_funN (c4 _) false [1084] (fun h => by cases h) (by simp) rfl rfl rfl rfl rfl ⟨rfl, rfl, rfl, rfl⟩ rfl rfl) ?_; conv => whnf)
    | (refine DT.fun hTb rfl (o_funN (c4 _) false [1084] (fun h => by cases h) (by simp) rfl rfl rfl rfl rfl ⟨rfl, rfl, rfl, rfl⟩ rfl rfl) rfl ?_; conv => whnf))
  exact endR [1088] (goL b K) rfl rfl rfl rfl rfl (LeS.refl _) rfl rfl (hd2 K hK)
end Go.Vl
