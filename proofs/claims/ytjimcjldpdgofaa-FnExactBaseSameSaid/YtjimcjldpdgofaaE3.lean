/- Contracts: a thing is like itself. Printed by our own gends.py. -/
import Derived.Test.YtjimcjldpdgofaaE0
import Derived.Test.YtjimcjldpdgofaaVye
namespace Go.Vl
open Go Go.RowKit Go.Proofs
set_option maxRecDepth 100000
set_option maxHeartbeats 2000000
theorem e_Val (v : Val) (hv : v.ok) : CallsV Try.prog 107 [.agg (encVal v), .agg (encVal v)] [] (pureQ (bS true)) := by
  obtain ⟨k, n, t⟩ := v
  simp only [Val.ok] at hv
  refine pure_walk hTb Try.func107 rfl rfl Try.ntmps107 (by simp) ?_
  (conv => whnf); repeat' (first | (refine And.intro ?_ ?_ <;> ((try intro h) <;> (try simp only [Bool.not_true, Bool.not_false] at h) <;> first | exact absurd h Bool.false_ne_true | exact absurd h.symm Bool.false_ne_true | conv => whnf)) | (refine Need.mk ?_; kernel_rfl) | (refine Need.mk ⟨rfl, ?_⟩; decide))
  all_goals first
    | rfl
    | (clear hv; simp_all [bS]; done)
theorem e_Vals (l : List Val) (hv : l.length ≤ maxLen ∧ ∀ x ∈ l, x.ok) : CallsV Try.prog 115 [valsI l, valsI l] [] (pureQ (bS true)) := by
  have hu := hv.1
  refine pure_walk hTb Try.func115 rfl rfl Try.ntmps115 (by simp) ?_
  (conv => whnf); repeat' (first | (refine And.intro ?_ ?_ <;> ((try intro h) <;> (try simp only [Bool.not_true, Bool.not_false] at h) <;> first | exact absurd h Bool.false_ne_true | exact absurd h.symm Bool.false_ne_true | conv => whnf)) | (refine Need.mk ?_; kernel_rfl) | (refine Need.mk ⟨rfl, ?_⟩; decide))
  · simp at h
  refine VL.loopI hTb (fun i => i ≤ l.length) (fun i => ⟨[(0, valsI l), (1, valsI l), (5, iS i)], [], []⟩) (fun i => l.length - i) 0 (Nat.zero_le _)
    (wk_to [] rfl rfl rfl ⟨rfl, rfl, rfl, trivial⟩ trivial) (fun i hi => ?_)
  (conv => whnf)
  refine And.intro (fun h2 => ?_) (fun h2 => ?_)
  · have hlt : i < l.length := by simpa using h2
    have hrow := rowVal hlt
    have hc := e_Val l[i] (hv.2 _ (List.getElem_mem hlt))
    generalize hci : l[i] = ci at hrow hc
    obtain ⟨k, n, t⟩ := ci
    (conv => whnf); repeat' (first
    | (refine And.intro ?_ ?_ <;> ((try intro h) <;> (try simp only [Bool.not_true, Bool.not_false] at h) <;> first | exact absurd h Bool.false_ne_true | exact absurd h.symm Bool.false_ne_true | conv => whnf))
    | (refine VL.drawS hTb hMix (by kernel_rfl) (by kernel_rfl) (by kernel_rfl) ?_; conv => whnf)
    | (refine Need.mk ?_; kernel_rfl) | (refine Need.mk ⟨rfl, ?_⟩; decide)
    | (refine VR.op hTb rfl rfl (o_index_imm hTb rfl rfl rfl rfl rfl rfl rfl (by omega) (hrow)) rfl ?_; conv => whnf)
    | (refine DT.op hTb rfl (o_index_imm hTb rfl rfl rfl rfl rfl rfl rfl (by omega) (hrow)) rfl ?_; conv => whnf)
    | (refine VR.pure hTb rfl rfl (o_purN (hc) rfl rfl rfl ⟨rfl, rfl, rfl, rfl⟩ rfl) ?_; conv => whnf)
    | (refine DT.pure hTb rfl (o_purN (hc) rfl rfl rfl ⟨rfl, rfl, rfl, rfl⟩ rfl) ?_; conv => whnf))
    exact ⟨i + 1, hlt, by omega, wk_to [] rfl rfl rfl ⟨rfl, rfl, congrArg (fun x => Slot.one (.g (.int .i64 x))) (wrap64' (by omega)), trivial⟩ trivial⟩
  · (conv => whnf)
    rfl
theorem e_Col (v : Col) (hv : v.ok) : CallsV Try.prog 70 [.agg (encCol v), .agg (encCol v)] [] (pureQ (bS true)) := by
  obtain ⟨name, kind, need, once, ⟨d_k, d_n, d_t⟩⟩ := v
  simp only [Col.ok] at hv
  refine pure_walk hTb Try.func70 rfl rfl Try.ntmps70 (by simp) ?_
  (conv => whnf); repeat' (first
    | (refine And.intro ?_ ?_ <;> ((try intro h) <;> (try simp only [Bool.not_true, Bool.not_false] at h) <;> first | exact absurd h Bool.false_ne_true | exact absurd h.symm Bool.false_ne_true | conv => whnf))
    | (refine VL.drawS hTb hMix (by kernel_rfl) (by kernel_rfl) (by kernel_rfl) ?_; conv => whnf)
    | (refine Need.mk ?_; kernel_rfl) | (refine Need.mk ⟨rfl, ?_⟩; decide)
    | (refine VR.pure hTb rfl rfl (o_purN (e_Val ⟨_, _, _⟩ (hv.2)) rfl rfl rfl ⟨rfl, rfl, rfl, rfl⟩ rfl) ?_; conv => whnf)
    | (refine DT.pure hTb rfl (o_purN (e_Val ⟨_, _, _⟩ (hv.2)) rfl rfl rfl ⟨rfl, rfl, rfl, rfl⟩ rfl) ?_; conv => whnf))
  all_goals first
    | rfl
    | (clear hv; simp_all [bS]; done)
theorem e_Cols (l : List Col) (hv : l.length ≤ maxLen ∧ ∀ x ∈ l, x.ok) : CallsV Try.prog 21 [colsI l, colsI l] [] (pureQ (bS true)) := by
  have hu := hv.1
  refine pure_walk hTb Try.func21 rfl rfl Try.ntmps21 (by simp) ?_
  (conv => whnf); repeat' (first | (refine And.intro ?_ ?_ <;> ((try intro h) <;> (try simp only [Bool.not_true, Bool.not_false] at h) <;> first | exact absurd h Bool.false_ne_true | exact absurd h.symm Bool.false_ne_true | conv => whnf)) | (refine Need.mk ?_; kernel_rfl) | (refine Need.mk ⟨rfl, ?_⟩; decide))
  · simp at h
  refine VL.loopI hTb (fun i => i ≤ l.length) (fun i => ⟨[(0, colsI l), (1, colsI l), (5, iS i)], [], []⟩) (fun i => l.length - i) 0 (Nat.zero_le _)
    (wk_to [] rfl rfl rfl ⟨rfl, rfl, rfl, trivial⟩ trivial) (fun i hi => ?_)
  (conv => whnf)
  refine And.intro (fun h2 => ?_) (fun h2 => ?_)
  · have hlt : i < l.length := by simpa using h2
    have hrow := rowCol hlt
    have hc := e_Col l[i] (hv.2 _ (List.getElem_mem hlt))
    generalize hci : l[i] = ci at hrow hc
    obtain ⟨name, kind, need, once, ⟨d_k, d_n, d_t⟩⟩ := ci
    (conv => whnf); repeat' (first
    | (refine And.intro ?_ ?_ <;> ((try intro h) <;> (try simp only [Bool.not_true, Bool.not_false] at h) <;> first | exact absurd h Bool.false_ne_true | exact absurd h.symm Bool.false_ne_true | conv => whnf))
    | (refine VL.drawS hTb hMix (by kernel_rfl) (by kernel_rfl) (by kernel_rfl) ?_; conv => whnf)
    | (refine Need.mk ?_; kernel_rfl) | (refine Need.mk ⟨rfl, ?_⟩; decide)
    | (refine VR.op hTb rfl rfl (o_index_imm hTb rfl rfl rfl rfl rfl rfl rfl (by omega) (hrow)) rfl ?_; conv => whnf)
    | (refine DT.op hTb rfl (o_index_imm hTb rfl rfl rfl rfl rfl rfl rfl (by omega) (hrow)) rfl ?_; conv => whnf)
    | (refine VR.pure hTb rfl rfl (o_purN (hc) rfl rfl rfl ⟨rfl, rfl, rfl, rfl⟩ rfl) ?_; conv => whnf)
    | (refine DT.pure hTb rfl (o_purN (hc) rfl rfl rfl ⟨rfl, rfl, rfl, rfl⟩ rfl) ?_; conv => whnf))
    exact ⟨i + 1, hlt, by omega, wk_to [] rfl rfl rfl ⟨rfl, rfl, congrArg (fun x => Slot.one (.g (.int .i64 x))) (wrap64' (by omega)), trivial⟩ trivial⟩
  · (conv => whnf)
    rfl
theorem e_Change (v : Change) (hv : v.ok) : CallsV Try.prog 63 [.agg (encChange v), .agg (encChange v)] [] (pureQ (bS true)) := by
  obtain ⟨kind, name, new, ⟨col_name, col_kind, col_need, col_once, ⟨col_d_k, col_d_n, col_d_t⟩⟩⟩ := v
  simp only [Change.ok] at hv
  refine pure_walk hTb Try.func63 rfl rfl Try.ntmps63 (by simp) ?_
  (conv => whnf); repeat' (first
    | (refine And.intro ?_ ?_ <;> ((try intro h) <;> (try simp only [Bool.not_true, Bool.not_false] at h) <;> first | exact absurd h Bool.false_ne_true | exact absurd h.symm Bool.false_ne_true | conv => whnf))
    | (refine VL.drawS hTb hMix (by kernel_rfl) (by kernel_rfl) (by kernel_rfl) ?_; conv => whnf)
    | (refine Need.mk ?_; kernel_rfl) | (refine Need.mk ⟨rfl, ?_⟩; decide)
    | (refine VR.pure hTb rfl rfl (o_purN (e_Col ⟨_, _, _, _, ⟨_, _, _⟩⟩ (hv.2.2)) rfl rfl rfl ⟨rfl, rfl, rfl, rfl⟩ rfl) ?_; conv => whnf)
    | (refine DT.pure hTb rfl (o_purN (e_Col ⟨_, _, _, _, ⟨_, _, _⟩⟩ (hv.2.2)) rfl rfl rfl ⟨rfl, rfl, rfl, rfl⟩ rfl) ?_; conv => whnf))
  all_goals first
    | rfl
    | (clear hv; simp_all [bS]; done)
theorem e_Changes (l : List Change) (hv : l.length ≤ maxLen ∧ ∀ x ∈ l, x.ok) : CallsV Try.prog 41 [changesI l, changesI l] [] (pureQ (bS true)) := by
  have hu := hv.1
  refine pure_walk hTb Try.func41 rfl rfl Try.ntmps41 (by simp) ?_
  (conv => whnf); repeat' (first | (refine And.intro ?_ ?_ <;> ((try intro h) <;> (try simp only [Bool.not_true, Bool.not_false] at h) <;> first | exact absurd h Bool.false_ne_true | exact absurd h.symm Bool.false_ne_true | conv => whnf)) | (refine Need.mk ?_; kernel_rfl) | (refine Need.mk ⟨rfl, ?_⟩; decide))
  · simp at h
  refine VL.loopI hTb (fun i => i ≤ l.length) (fun i => ⟨[(0, changesI l), (1, changesI l), (5, iS i)], [], []⟩) (fun i => l.length - i) 0 (Nat.zero_le _)
    (wk_to [] rfl rfl rfl ⟨rfl, rfl, rfl, trivial⟩ trivial) (fun i hi => ?_)
  (conv => whnf)
  refine And.intro (fun h2 => ?_) (fun h2 => ?_)
  · have hlt : i < l.length := by simpa using h2
    have hrow := rowChange hlt
    have hc := e_Change l[i] (hv.2 _ (List.getElem_mem hlt))
    generalize hci : l[i] = ci at hrow hc
    obtain ⟨kind, name, new, ⟨col_name, col_kind, col_need, col_once, ⟨col_d_k, col_d_n, col_d_t⟩⟩⟩ := ci
    (conv => whnf); repeat' (first
    | (refine And.intro ?_ ?_ <;> ((try intro h) <;> (try simp only [Bool.not_true, Bool.not_false] at h) <;> first | exact absurd h Bool.false_ne_true | exact absurd h.symm Bool.false_ne_true | conv => whnf))
    | (refine VL.drawS hTb hMix (by kernel_rfl) (by kernel_rfl) (by kernel_rfl) ?_; conv => whnf)
    | (refine Need.mk ?_; kernel_rfl) | (refine Need.mk ⟨rfl, ?_⟩; decide)
    | (refine VR.op hTb rfl rfl (o_index_imm hTb rfl rfl rfl rfl rfl rfl rfl (by omega) (hrow)) rfl ?_; conv => whnf)
    | (refine DT.op hTb rfl (o_index_imm hTb rfl rfl rfl rfl rfl rfl rfl (by omega) (hrow)) rfl ?_; conv => whnf)
    | (refine VR.pure hTb rfl rfl (o_purN (hc) rfl rfl rfl ⟨rfl, rfl, rfl, rfl⟩ rfl) ?_; conv => whnf)
    | (refine DT.pure hTb rfl (o_purN (hc) rfl rfl rfl ⟨rfl, rfl, rfl, rfl⟩ rfl) ?_; conv => whnf))
    exact ⟨i + 1, hlt, by omega, wk_to [] rfl rfl rfl ⟨rfl, rfl, congrArg (fun x => Slot.one (.g (.int .i64 x))) (wrap64' (by omega)), trivial⟩ trivial⟩
  · (conv => whnf)
    rfl
theorem e_VRow (v : VRow) (hv : v.ok) : CallsV Try.prog 89 [.agg (encVRow v), .agg (encVRow v)] [] (pureQ (bS true)) := by
  obtain ⟨id, ver, vals⟩ := v
  simp only [VRow.ok] at hv
  refine pure_walk hTb Try.func89 rfl rfl Try.ntmps89 (by simp) ?_
  (conv => whnf); repeat' (first
    | (refine And.intro ?_ ?_ <;> ((try intro h) <;> (try simp only [Bool.not_true, Bool.not_false] at h) <;> first | exact absurd h Bool.false_ne_true | exact absurd h.symm Bool.false_ne_true | conv => whnf))
    | (refine VL.drawS hTb hMix (by kernel_rfl) (by kernel_rfl) (by kernel_rfl) ?_; conv => whnf)
    | (refine Need.mk ?_; kernel_rfl) | (refine Need.mk ⟨rfl, ?_⟩; decide)
    | (refine VR.pure hTb rfl rfl (o_purN (e_Vals _ (hv)) rfl rfl rfl ⟨rfl, rfl, rfl, rfl⟩ rfl) ?_; conv => whnf)
    | (refine DT.pure hTb rfl (o_purN (e_Vals _ (hv)) rfl rfl rfl ⟨rfl, rfl, rfl, rfl⟩ rfl) ?_; conv => whnf))
  all_goals first
    | rfl
    | (clear hv; simp_all [bS]; done)
theorem e_VRows (l : List VRow) (hv : l.length ≤ maxLen ∧ ∀ x ∈ l, x.ok) : CallsV Try.prog 42 [vrowsI l, vrowsI l] [] (pureQ (bS true)) := by
  have hu := hv.1
  refine pure_walk hTb Try.func42 rfl rfl Try.ntmps42 (by simp) ?_
  (conv => whnf); repeat' (first | (refine And.intro ?_ ?_ <;> ((try intro h) <;> (try simp only [Bool.not_true, Bool.not_false] at h) <;> first | exact absurd h Bool.false_ne_true | exact absurd h.symm Bool.false_ne_true | conv => whnf)) | (refine Need.mk ?_; kernel_rfl) | (refine Need.mk ⟨rfl, ?_⟩; decide))
  · simp at h
  refine VL.loopI hTb (fun i => i ≤ l.length) (fun i => ⟨[(0, vrowsI l), (1, vrowsI l), (5, iS i)], [], []⟩) (fun i => l.length - i) 0 (Nat.zero_le _)
    (wk_to [] rfl rfl rfl ⟨rfl, rfl, rfl, trivial⟩ trivial) (fun i hi => ?_)
  (conv => whnf)
  refine And.intro (fun h2 => ?_) (fun h2 => ?_)
  · have hlt : i < l.length := by simpa using h2
    have hrow := rowVRow hlt
    have hc := e_VRow l[i] (hv.2 _ (List.getElem_mem hlt))
    generalize hci : l[i] = ci at hrow hc
    obtain ⟨id, ver, vals⟩ := ci
    (conv => whnf); repeat' (first
    | (refine And.intro ?_ ?_ <;> ((try intro h) <;> (try simp only [Bool.not_true, Bool.not_false] at h) <;> first | exact absurd h Bool.false_ne_true | exact absurd h.symm Bool.false_ne_true | conv => whnf))
    | (refine VL.drawS hTb hMix (by kernel_rfl) (by kernel_rfl) (by kernel_rfl) ?_; conv => whnf)
    | (refine Need.mk ?_; kernel_rfl) | (refine Need.mk ⟨rfl, ?_⟩; decide)
    | (refine VR.op hTb rfl rfl (o_index_imm hTb rfl rfl rfl rfl rfl rfl rfl (by omega) (hrow)) rfl ?_; conv => whnf)
    | (refine DT.op hTb rfl (o_index_imm hTb rfl rfl rfl rfl rfl rfl rfl (by omega) (hrow)) rfl ?_; conv => whnf)
    | (refine VR.pure hTb rfl rfl (o_purN (hc) rfl rfl rfl ⟨rfl, rfl, rfl, rfl⟩ rfl) ?_; conv => whnf)
    | (refine DT.pure hTb rfl (o_purN (hc) rfl rfl rfl ⟨rfl, rfl, rfl, rfl⟩ rfl) ?_; conv => whnf))
    exact ⟨i + 1, hlt, by omega, wk_to [] rfl rfl rfl ⟨rfl, rfl, congrArg (fun x => Slot.one (.g (.int .i64 x))) (wrap64' (by omega)), trivial⟩ trivial⟩
  · (conv => whnf)
    rfl
theorem e_VTable (v : VTable) (hv : v.ok) : CallsV Try.prog 11 [.agg (encVTable v), .agg (encVTable v)] [] (pureQ (bS true)) := by
  obtain ⟨first, changes, rows, next⟩ := v
  simp only [VTable.ok] at hv
  refine pure_walk hTb Try.func11 rfl rfl Try.ntmps11 (by simp) ?_
  (conv => whnf); repeat' (first
    | (refine And.intro ?_ ?_ <;> ((try intro h) <;> (try simp only [Bool.not_true, Bool.not_false] at h) <;> first | exact absurd h Bool.false_ne_true | exact absurd h.symm Bool.false_ne_true | conv => whnf))
    | (refine VL.drawS hTb hMix (by kernel_rfl) (by kernel_rfl) (by kernel_rfl) ?_; conv => whnf)
    | (refine Need.mk ?_; kernel_rfl) | (refine Need.mk ⟨rfl, ?_⟩; decide)
    | (refine VR.pure hTb rfl rfl (o_purN (e_Cols _ (hv.1)) rfl rfl rfl ⟨rfl, rfl, rfl, rfl⟩ rfl) ?_; conv => whnf)
    | (refine DT.pure hTb rfl (o_purN (e_Cols _ (hv.1)) rfl rfl rfl ⟨rfl, rfl, rfl, rfl⟩ rfl) ?_; conv => whnf)
    | (refine VR.pure hTb rfl rfl (o_purN (e_Changes _ (hv.2.1)) rfl rfl rfl ⟨rfl, rfl, rfl, rfl⟩ rfl) ?_; conv => whnf)
    | (refine DT.pure hTb rfl (o_purN (e_Changes _ (hv.2.1)) rfl rfl rfl ⟨rfl, rfl, rfl, rfl⟩ rfl) ?_; conv => whnf)
    | (refine VR.pure hTb rfl rfl (o_purN (e_VRows _ (hv.2.2)) rfl rfl rfl ⟨rfl, rfl, rfl, rfl⟩ rfl) ?_; conv => whnf)
    | (refine DT.pure hTb rfl (o_purN (e_VRows _ (hv.2.2)) rfl rfl rfl ⟨rfl, rfl, rfl, rfl⟩ rfl) ?_; conv => whnf))
  all_goals first
    | rfl
    | (clear hv; simp_all [bS]; done)
theorem e_VSet (v : VSet) (hv : v.ok) : CallsV Try.prog 100 [.agg (encVSet v), .agg (encVSet v)] [] (pureQ (bS true)) := by
  obtain ⟨name, ⟨val_k, val_n, val_t⟩⟩ := v
  simp only [VSet.ok] at hv
  refine pure_walk hTb Try.func100 rfl rfl Try.ntmps100 (by simp) ?_
  (conv => whnf); repeat' (first
    | (refine And.intro ?_ ?_ <;> ((try intro h) <;> (try simp only [Bool.not_true, Bool.not_false] at h) <;> first | exact absurd h Bool.false_ne_true | exact absurd h.symm Bool.false_ne_true | conv => whnf))
    | (refine VL.drawS hTb hMix (by kernel_rfl) (by kernel_rfl) (by kernel_rfl) ?_; conv => whnf)
    | (refine Need.mk ?_; kernel_rfl) | (refine Need.mk ⟨rfl, ?_⟩; decide)
    | (refine VR.pure hTb rfl rfl (o_purN (e_Val ⟨_, _, _⟩ (hv.2)) rfl rfl rfl ⟨rfl, rfl, rfl, rfl⟩ rfl) ?_; conv => whnf)
    | (refine DT.pure hTb rfl (o_purN (e_Val ⟨_, _, _⟩ (hv.2)) rfl rfl rfl ⟨rfl, rfl, rfl, rfl⟩ rfl) ?_; conv => whnf))
  all_goals first
    | rfl
    | (clear hv; simp_all [bS]; done)
theorem e_VSets (l : List VSet) (hv : l.length ≤ maxLen ∧ ∀ x ∈ l, x.ok) : CallsV Try.prog 62 [vsetsI l, vsetsI l] [] (pureQ (bS true)) := by
  have hu := hv.1
  refine pure_walk hTb Try.func62 rfl rfl Try.ntmps62 (by simp) ?_
  (conv => whnf); repeat' (first | (refine And.intro ?_ ?_ <;> ((try intro h) <;> (try simp only [Bool.not_true, Bool.not_false] at h) <;> first | exact absurd h Bool.false_ne_true | exact absurd h.symm Bool.false_ne_true | conv => whnf)) | (refine Need.mk ?_; kernel_rfl) | (refine Need.mk ⟨rfl, ?_⟩; decide))
  · simp at h
  refine VL.loopI hTb (fun i => i ≤ l.length) (fun i => ⟨[(0, vsetsI l), (1, vsetsI l), (5, iS i)], [], []⟩) (fun i => l.length - i) 0 (Nat.zero_le _)
    (wk_to [] rfl rfl rfl ⟨rfl, rfl, rfl, trivial⟩ trivial) (fun i hi => ?_)
  (conv => whnf)
  refine And.intro (fun h2 => ?_) (fun h2 => ?_)
  · have hlt : i < l.length := by simpa using h2
    have hrow := rowVSet hlt
    have hc := e_VSet l[i] (hv.2 _ (List.getElem_mem hlt))
    generalize hci : l[i] = ci at hrow hc
    obtain ⟨name, ⟨val_k, val_n, val_t⟩⟩ := ci
    (conv => whnf); repeat' (first
    | (refine And.intro ?_ ?_ <;> ((try intro h) <;> (try simp only [Bool.not_true, Bool.not_false] at h) <;> first | exact absurd h Bool.false_ne_true | exact absurd h.symm Bool.false_ne_true | conv => whnf))
    | (refine VL.drawS hTb hMix (by kernel_rfl) (by kernel_rfl) (by kernel_rfl) ?_; conv => whnf)
    | (refine Need.mk ?_; kernel_rfl) | (refine Need.mk ⟨rfl, ?_⟩; decide)
    | (refine VR.op hTb rfl rfl (o_index_imm hTb rfl rfl rfl rfl rfl rfl rfl (by omega) (hrow)) rfl ?_; conv => whnf)
    | (refine DT.op hTb rfl (o_index_imm hTb rfl rfl rfl rfl rfl rfl rfl (by omega) (hrow)) rfl ?_; conv => whnf)
    | (refine VR.pure hTb rfl rfl (o_purN (hc) rfl rfl rfl ⟨rfl, rfl, rfl, rfl⟩ rfl) ?_; conv => whnf)
    | (refine DT.pure hTb rfl (o_purN (hc) rfl rfl rfl ⟨rfl, rfl, rfl, rfl⟩ rfl) ?_; conv => whnf))
    exact ⟨i + 1, hlt, by omega, wk_to [] rfl rfl rfl ⟨rfl, rfl, congrArg (fun x => Slot.one (.g (.int .i64 x))) (wrap64' (by omega)), trivial⟩ trivial⟩
  · (conv => whnf)
    rfl
theorem e_VLink (v : VLink) (hv : v.ok) : CallsV Try.prog 64 [.agg (encVLink v), .agg (encVLink v)] [] (pureQ (bS true)) := by
  obtain ⟨src, col, dst, how⟩ := v
  simp only [VLink.ok] at hv
  refine pure_walk hTb Try.func64 rfl rfl Try.ntmps64 (by simp) ?_
  (conv => whnf); repeat' (first | (refine And.intro ?_ ?_ <;> ((try intro h) <;> (try simp only [Bool.not_true, Bool.not_false] at h) <;> first | exact absurd h Bool.false_ne_true | exact absurd h.symm Bool.false_ne_true | conv => whnf)) | (refine Need.mk ?_; kernel_rfl) | (refine Need.mk ⟨rfl, ?_⟩; decide))
  all_goals first
    | rfl
    | (clear hv; simp_all [bS]; done)
theorem e_VLinks (l : List VLink) (hv : l.length ≤ maxLen ∧ ∀ x ∈ l, x.ok) : CallsV Try.prog 85 [vlinksI l, vlinksI l] [] (pureQ (bS true)) := by
  have hu := hv.1
  refine pure_walk hTb Try.func85 rfl rfl Try.ntmps85 (by simp) ?_
  (conv => whnf); repeat' (first | (refine And.intro ?_ ?_ <;> ((try intro h) <;> (try simp only [Bool.not_true, Bool.not_false] at h) <;> first | exact absurd h Bool.false_ne_true | exact absurd h.symm Bool.false_ne_true | conv => whnf)) | (refine Need.mk ?_; kernel_rfl) | (refine Need.mk ⟨rfl, ?_⟩; decide))
  · simp at h
  refine VL.loopI hTb (fun i => i ≤ l.length) (fun i => ⟨[(0, vlinksI l), (1, vlinksI l), (5, iS i)], [], []⟩) (fun i => l.length - i) 0 (Nat.zero_le _)
    (wk_to [] rfl rfl rfl ⟨rfl, rfl, rfl, trivial⟩ trivial) (fun i hi => ?_)
  (conv => whnf)
  refine And.intro (fun h2 => ?_) (fun h2 => ?_)
  · have hlt : i < l.length := by simpa using h2
    have hrow := rowVLink hlt
    have hc := e_VLink l[i] (hv.2 _ (List.getElem_mem hlt))
    generalize hci : l[i] = ci at hrow hc
    obtain ⟨src, col, dst, how⟩ := ci
    (conv => whnf); repeat' (first
    | (refine And.intro ?_ ?_ <;> ((try intro h) <;> (try simp only [Bool.not_true, Bool.not_false] at h) <;> first | exact absurd h Bool.false_ne_true | exact absurd h.symm Bool.false_ne_true | conv => whnf))
    | (refine VL.drawS hTb hMix (by kernel_rfl) (by kernel_rfl) (by kernel_rfl) ?_; conv => whnf)
    | (refine Need.mk ?_; kernel_rfl) | (refine Need.mk ⟨rfl, ?_⟩; decide)
    | (refine VR.op hTb rfl rfl (o_index_imm hTb rfl rfl rfl rfl rfl rfl rfl (by omega) (hrow)) rfl ?_; conv => whnf)
    | (refine DT.op hTb rfl (o_index_imm hTb rfl rfl rfl rfl rfl rfl rfl (by omega) (hrow)) rfl ?_; conv => whnf)
    | (refine VR.pure hTb rfl rfl (o_purN (hc) rfl rfl rfl ⟨rfl, rfl, rfl, rfl⟩ rfl) ?_; conv => whnf)
    | (refine DT.pure hTb rfl (o_purN (hc) rfl rfl rfl ⟨rfl, rfl, rfl, rfl⟩ rfl) ?_; conv => whnf))
    exact ⟨i + 1, hlt, by omega, wk_to [] rfl rfl rfl ⟨rfl, rfl, congrArg (fun x => Slot.one (.g (.int .i64 x))) (wrap64' (by omega)), trivial⟩ trivial⟩
  · (conv => whnf)
    rfl
theorem e_VTab (v : VTab) (hv : v.ok) : CallsV Try.prog 112 [.agg (encVTab v), .agg (encVTab v)] [] (pureQ (bS true)) := by
  obtain ⟨name, ⟨table_first, table_changes, table_rows, table_next⟩⟩ := v
  simp only [VTab.ok] at hv
  refine pure_walk hTb Try.func112 rfl rfl Try.ntmps112 (by simp) ?_
  (conv => whnf); repeat' (first
    | (refine And.intro ?_ ?_ <;> ((try intro h) <;> (try simp only [Bool.not_true, Bool.not_false] at h) <;> first | exact absurd h Bool.false_ne_true | exact absurd h.symm Bool.false_ne_true | conv => whnf))
    | (refine VL.drawS hTb hMix (by kernel_rfl) (by kernel_rfl) (by kernel_rfl) ?_; conv => whnf)
    | (refine Need.mk ?_; kernel_rfl) | (refine Need.mk ⟨rfl, ?_⟩; decide)
    | (refine VR.pure hTb rfl rfl (o_purN (e_VTable ⟨_, _, _, _⟩ (hv.2)) rfl rfl rfl ⟨rfl, rfl, rfl, rfl⟩ rfl) ?_; conv => whnf)
    | (refine DT.pure hTb rfl (o_purN (e_VTable ⟨_, _, _, _⟩ (hv.2)) rfl rfl rfl ⟨rfl, rfl, rfl, rfl⟩ rfl) ?_; conv => whnf))
  all_goals first
    | rfl
    | (clear hv; simp_all [bS]; done)
theorem e_VTabs (l : List VTab) (hv : l.length ≤ maxLen ∧ ∀ x ∈ l, x.ok) : CallsV Try.prog 84 [vtabsI l, vtabsI l] [] (pureQ (bS true)) := by
  have hu := hv.1
  refine pure_walk hTb Try.func84 rfl rfl Try.ntmps84 (by simp) ?_
  (conv => whnf); repeat' (first | (refine And.intro ?_ ?_ <;> ((try intro h) <;> (try simp only [Bool.not_true, Bool.not_false] at h) <;> first | exact absurd h Bool.false_ne_true | exact absurd h.symm Bool.false_ne_true | conv => whnf)) | (refine Need.mk ?_; kernel_rfl) | (refine Need.mk ⟨rfl, ?_⟩; decide))
  · simp at h
  refine VL.loopI hTb (fun i => i ≤ l.length) (fun i => ⟨[(0, vtabsI l), (1, vtabsI l), (5, iS i)], [], []⟩) (fun i => l.length - i) 0 (Nat.zero_le _)
    (wk_to [] rfl rfl rfl ⟨rfl, rfl, rfl, trivial⟩ trivial) (fun i hi => ?_)
  (conv => whnf)
  refine And.intro (fun h2 => ?_) (fun h2 => ?_)
  · have hlt : i < l.length := by simpa using h2
    have hrow := rowVTab hlt
    have hc := e_VTab l[i] (hv.2 _ (List.getElem_mem hlt))
    generalize hci : l[i] = ci at hrow hc
    obtain ⟨name, ⟨table_first, table_changes, table_rows, table_next⟩⟩ := ci
    (conv => whnf); repeat' (first
    | (refine And.intro ?_ ?_ <;> ((try intro h) <;> (try simp only [Bool.not_true, Bool.not_false] at h) <;> first | exact absurd h Bool.false_ne_true | exact absurd h.symm Bool.false_ne_true | conv => whnf))
    | (refine VL.drawS hTb hMix (by kernel_rfl) (by kernel_rfl) (by kernel_rfl) ?_; conv => whnf)
    | (refine Need.mk ?_; kernel_rfl) | (refine Need.mk ⟨rfl, ?_⟩; decide)
    | (refine VR.op hTb rfl rfl (o_index_imm hTb rfl rfl rfl rfl rfl rfl rfl (by omega) (hrow)) rfl ?_; conv => whnf)
    | (refine DT.op hTb rfl (o_index_imm hTb rfl rfl rfl rfl rfl rfl rfl (by omega) (hrow)) rfl ?_; conv => whnf)
    | (refine VR.pure hTb rfl rfl (o_purN (hc) rfl rfl rfl ⟨rfl, rfl, rfl, rfl⟩ rfl) ?_; conv => whnf)
    | (refine DT.pure hTb rfl (o_purN (hc) rfl rfl rfl ⟨rfl, rfl, rfl, rfl⟩ rfl) ?_; conv => whnf))
    exact ⟨i + 1, hlt, by omega, wk_to [] rfl rfl rfl ⟨rfl, rfl, congrArg (fun x => Slot.one (.g (.int .i64 x))) (wrap64' (by omega)), trivial⟩ trivial⟩
  · (conv => whnf)
    rfl
theorem e_VBase (v : VBase) (hv : v.ok) : CallsV Try.prog 29 [.agg (encVBase v), .agg (encVBase v)] [] (pureQ (bS true)) := by
  obtain ⟨tabs, links⟩ := v
  simp only [VBase.ok] at hv
  refine pure_walk hTb Try.func29 rfl rfl Try.ntmps29 (by simp) ?_
  (conv => whnf); repeat' (first
    | (refine And.intro ?_ ?_ <;> ((try intro h) <;> (try simp only [Bool.not_true, Bool.not_false] at h) <;> first | exact absurd h Bool.false_ne_true | exact absurd h.symm Bool.false_ne_true | conv => whnf))
    | (refine VL.drawS hTb hMix (by kernel_rfl) (by kernel_rfl) (by kernel_rfl) ?_; conv => whnf)
    | (refine Need.mk ?_; kernel_rfl) | (refine Need.mk ⟨rfl, ?_⟩; decide)
    | (refine VR.pure hTb rfl rfl (o_purN (e_VTabs _ (hv.1)) rfl rfl rfl ⟨rfl, rfl, rfl, rfl⟩ rfl) ?_; conv => whnf)
    | (refine DT.pure hTb rfl (o_purN (e_VTabs _ (hv.1)) rfl rfl rfl ⟨rfl, rfl, rfl, rfl⟩ rfl) ?_; conv => whnf)
    | (refine VR.pure hTb rfl rfl (o_purN (e_VLinks _ (hv.2)) rfl rfl rfl ⟨rfl, rfl, rfl, rfl⟩ rfl) ?_; conv => whnf)
    | (refine DT.pure hTb rfl (o_purN (e_VLinks _ (hv.2)) rfl rfl rfl ⟨rfl, rfl, rfl, rfl⟩ rfl) ?_; conv => whnf))
  all_goals first
    | rfl
    | (clear hv; simp_all [bS]; done)
theorem e_VAct (v : VAct) (hv : v.ok) : CallsV Try.prog 16 [.agg (encVAct v), .agg (encVAct v)] [] (pureQ (bS true)) := by
  obtain ⟨kind, name, id, sets, cols, ⟨change_kind, change_name, change_new, ⟨change_col_name, change_col_kind, change_col_need, change_col_once, ⟨change_col_d_k, change_col_d_n, change_col_d_t⟩⟩⟩, ⟨link_src, link_col, link_dst, link_how⟩⟩ := v
  simp only [VAct.ok] at hv
  refine pure_walk hTb Try.func16 rfl rfl Try.ntmps16 (by simp) ?_
  (conv => whnf); repeat' (first
    | (refine And.intro ?_ ?_ <;> ((try intro h) <;> (try simp only [Bool.not_true, Bool.not_false] at h) <;> first | exact absurd h Bool.false_ne_true | exact absurd h.symm Bool.false_ne_true | conv => whnf))
    | (refine VL.drawS hTb hMix (by kernel_rfl) (by kernel_rfl) (by kernel_rfl) ?_; conv => whnf)
    | (refine Need.mk ?_; kernel_rfl) | (refine Need.mk ⟨rfl, ?_⟩; decide)
    | (refine VR.pure hTb rfl rfl (o_purN (e_VSets _ (hv.2.1)) rfl rfl rfl ⟨rfl, rfl, rfl, rfl⟩ rfl) ?_; conv => whnf)
    | (refine DT.pure hTb rfl (o_purN (e_VSets _ (hv.2.1)) rfl rfl rfl ⟨rfl, rfl, rfl, rfl⟩ rfl) ?_; conv => whnf)
    | (refine VR.pure hTb rfl rfl (o_purN (e_Cols _ (hv.2.2.1)) rfl rfl rfl ⟨rfl, rfl, rfl, rfl⟩ rfl) ?_; conv => whnf)
    | (refine DT.pure hTb rfl (o_purN (e_Cols _ (hv.2.2.1)) rfl rfl rfl ⟨rfl, rfl, rfl, rfl⟩ rfl) ?_; conv => whnf)
    | (refine VR.pure hTb rfl rfl (o_purN (e_Change ⟨_, _, _, ⟨_, _, _, _, ⟨_, _, _⟩⟩⟩ (hv.2.2.2.1)) rfl rfl rfl ⟨rfl, rfl, rfl, rfl⟩ rfl) ?_; conv => whnf)
    | (refine DT.pure hTb rfl (o_purN (e_Change ⟨_, _, _, ⟨_, _, _, _, ⟨_, _, _⟩⟩⟩ (hv.2.2.2.1)) rfl rfl rfl ⟨rfl, rfl, rfl, rfl⟩ rfl) ?_; conv => whnf)
    | (refine VR.pure hTb rfl rfl (o_purN (e_VLink ⟨_, _, _, _⟩ (hv.2.2.2.2)) rfl rfl rfl ⟨rfl, rfl, rfl, rfl⟩ rfl) ?_; conv => whnf)
    | (refine DT.pure hTb rfl (o_purN (e_VLink ⟨_, _, _, _⟩ (hv.2.2.2.2)) rfl rfl rfl ⟨rfl, rfl, rfl, rfl⟩ rfl) ?_; conv => whnf))
  all_goals first
    | rfl
    | (clear hv; simp_all [bS]; done)
end Go.Vl
