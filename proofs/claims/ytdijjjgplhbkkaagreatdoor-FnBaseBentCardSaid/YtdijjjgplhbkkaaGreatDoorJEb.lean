/- When two things are one; contracts of what asks so. Printed by our own genq.py. Contracts: shapes alike. Contracts: shapes: where a name stands, soundness. Contracts: what the reader draws: columns, shapes. Contracts: what the reader draws: rows; drawn cases of the laws on columns and rows. Contracts: the drawn cases of the laws on columns and rows. The law on where a name stands in a shape: what its function computes. -/
import Derived.Test.YtdijjjgplhbkkaaGreatDoorJEa
import Derived.Test.YtdijjjgplhbkkaaGreatDoorWi
set_option linter.unusedSimpArgs false
set_option linter.unusedVariables false
set_option linter.unnecessarySimpa false
set_option maxRecDepth 100000
set_option maxHeartbeats 16000000

namespace Go.Vl
open Go Go.RowKit Go.Proofs
def q_Val (a b : Val) : Bool := ((a.k == b.k) && ((a.n == b.n) && ((a.t.toList == b.t.toList) && true)))
def q_Col (a b : Col) : Bool := ((a.name.toList == b.name.toList) && ((a.kind == b.kind) && ((a.need == b.need) && ((a.once == b.once) && ((q_Val a.d b.d) && true)))))
def q_Change (a b : Change) : Bool := ((a.kind == b.kind) && ((a.name.toList == b.name.toList) && ((a.new.toList == b.new.toList) && ((q_Col a.col b.col) && true))))
def q_VLink (a b : VLink) : Bool := ((a.src.toList == b.src.toList) && ((a.col.toList == b.col.toList) && ((a.dst.toList == b.dst.toList) && ((a.how == b.how) && true))))
def q_VRef (a b : VRef) : Bool := ((a.name.toList == b.name.toList) && ((a.id == b.id) && true))
def leq {α : Type} (f : α → α → Bool) : List α → List α → Bool
  | a :: us, b :: bs => f a b && leq f us bs
  | [], [] => true
  | _, _ => false
section
variable {α : Type} {f : α → α → Bool} {us bs : List α}
theorem leq_step {i : Nat} (h1 : i < us.length) (h2 : i < bs.length) : leq f (us.drop i) (bs.drop i) = (f us[i] bs[i] && leq f (us.drop (i + 1)) (bs.drop (i + 1))) := by
  rw [List.drop_eq_getElem_cons h1, List.drop_eq_getElem_cons h2, leq]
theorem leq_end {i : Nat} (h1 : us.length ≤ i) (h2 : bs.length ≤ i) : leq f (us.drop i) (bs.drop i) = true := by
  rw [List.drop_of_length_le h1, List.drop_of_length_le h2, leq]
theorem leq_len : ∀ {us bs : List α}, us.length ≠ bs.length → leq f us bs = false
  | [], [], h => absurd rfl h
  | [], _ :: _, _ => rfl
  | _ :: _, [], _ => rfl
  | a :: us, b :: bs, h => by rw [leq, leq_len (by simpa using h), Bool.and_false]
end
def q_VRow (a b : VRow) : Bool := (a.id == b.id) && ((a.ver == b.ver) && leq q_Val a.vals b.vals)
def q_VTable (a b : VTable) : Bool := leq q_Col a.first b.first && (leq q_Change a.changes b.changes && ((a.next == b.next) && leq q_VRow a.rows b.rows))
def q_VTab (a b : VTab) : Bool := (a.name.toList == b.name.toList) && q_VTable a.table b.table
def q_VBase (a b : VBase) : Bool := leq q_VLink a.links b.links && leq q_VTab a.tabs b.tabs
theorem q_EqVals (us bs : List Val) (ha : us.length ≤ maxLen) : CallsV Tryz.prog 76 [valsI us, valsI bs] [] (pureQ (bS (leq q_Val us bs))) := by
  refine pure_walk hTb Tryz.func76 rfl rfl Tryz.ntmps76 (by simp) ?_
  (conv => whnf); repeat' ((first | (refine And.intro ?_ ?_ <;> ((try intro h) <;> (try simp only [Bool.not_true, Bool.not_false] at h) <;> first | exact absurd h gF | exact absurd h.symm gF | conv => whnf))) <;> conv => whnf)
  · rw [leq_len (by simp at h; omega)]; rfl
  have hl : us.length = bs.length := by simp at h; omega
  refine VL.loopI hTb (fun i => i ≤ us.length ∧ leq q_Val us bs = leq q_Val (us.drop i) (bs.drop i)) (fun i => ⟨[(0, valsI us), (1, valsI bs), (12, iS ((us.map encVal).length : Nat)), (13, iS i)], [], []⟩) (fun i => us.length - i) 0 ⟨Nat.zero_le _, rfl⟩
    (wk_to [] rfl rfl rfl ⟨rfl, rfl, rfl, rfl, trivial⟩ trivial) (fun i hi => ?_)
  obtain ⟨hi, hf⟩ := hi
  (conv => whnf)
  refine And.intro (fun h2 => ?_) (fun h2 => ?_)
  · have hlt : i < us.length := by simpa using h2
    have hlt2 : i < bs.length := by omega
    have hrow := rowVal hlt
    have hrow2 := rowVal hlt2
    have hs := leq_step (f := q_Val) hlt hlt2
    skip
    generalize hci : us[i] = ci at *
    generalize hdi : bs[i] = di at *
    obtain ⟨a_k, a_n, a_t⟩ := ci
    obtain ⟨b_k, b_n, b_t⟩ := di
    (conv => whnf); repeat' ((first | (refine And.intro ?_ ?_ <;> ((try intro h) <;> (try simp only [gS] at h) <;> first | exact absurd h gF | exact absurd h.symm gF | conv => whnf)) | (refine VL.drawS hTb hMix (by kernel_rfl) (by kernel_rfl) (by kernel_rfl) ?_) | (refine Need.mk ?_; kernel_rfl) | (refine DT.op hTb rfl (o_index_imm hTb rfl rfl rfl rfl rfl rfl rfl (by omega) (hrow)) rfl ?_) | (refine DT.op hTb rfl (o_index_imm hTb rfl rfl rfl rfl rfl rfl rfl (by omega) (hrow2)) rfl ?_)) <;> conv => whnf)
    · rw [hf, hs]
      have e : q_Val ⟨a_k, a_n, a_t⟩ ⟨b_k, b_n, b_t⟩ = false := by have e : (!q_Val ⟨a_k, a_n, a_t⟩ ⟨b_k, b_n, b_t⟩) = true := h; simpa using e
      rw [e]; rfl
    · refine ⟨i + 1, ⟨hlt, ?_⟩, by omega, wk_to [] rfl rfl rfl ⟨rfl, rfl, rfl, congrArg (fun x => Slot.one (.g (.int .i64 x))) (wrap64' (by omega)), trivial⟩ trivial⟩
      have e : q_Val ⟨a_k, a_n, a_t⟩ ⟨b_k, b_n, b_t⟩ = true := by have e : (!q_Val ⟨a_k, a_n, a_t⟩ ⟨b_k, b_n, b_t⟩) = false := h; simpa using e
      rw [hf, hs, e, Bool.true_and]
  · (conv => whnf)
    have : i = us.length := by simp at h2; omega
    subst this
    rw [hf, leq_end (Nat.le_refl _) (by omega)]; rfl
theorem q_EqCols (us bs : List Col) (ha : us.length ≤ maxLen) : CallsV Tryz.prog 51 [colsI us, colsI bs] [] (pureQ (bS (leq q_Col us bs))) := by
  refine pure_walk hTb Tryz.func51 rfl rfl Tryz.ntmps51 (by simp) ?_
  (conv => whnf); repeat' ((first | (refine And.intro ?_ ?_ <;> ((try intro h) <;> (try simp only [Bool.not_true, Bool.not_false] at h) <;> first | exact absurd h gF | exact absurd h.symm gF | conv => whnf))) <;> conv => whnf)
  · rw [leq_len (by simp at h; omega)]; rfl
  have hl : us.length = bs.length := by simp at h; omega
  refine VL.loopI hTb (fun i => i ≤ us.length ∧ leq q_Col us bs = leq q_Col (us.drop i) (bs.drop i)) (fun i => ⟨[(0, colsI us), (1, colsI bs), (12, iS ((us.map encCol).length : Nat)), (13, iS i)], [], []⟩) (fun i => us.length - i) 0 ⟨Nat.zero_le _, rfl⟩
    (wk_to [] rfl rfl rfl ⟨rfl, rfl, rfl, rfl, trivial⟩ trivial) (fun i hi => ?_)
  obtain ⟨hi, hf⟩ := hi
  (conv => whnf)
  refine And.intro (fun h2 => ?_) (fun h2 => ?_)
  · have hlt : i < us.length := by simpa using h2
    have hlt2 : i < bs.length := by omega
    have hrow := rowCol hlt
    have hrow2 := rowCol hlt2
    have hs := leq_step (f := q_Col) hlt hlt2
    skip
    generalize hci : us[i] = ci at *
    generalize hdi : bs[i] = di at *
    obtain ⟨a_name, a_kind, a_need, a_once, ⟨a_d_k, a_d_n, a_d_t⟩⟩ := ci
    obtain ⟨b_name, b_kind, b_need, b_once, ⟨b_d_k, b_d_n, b_d_t⟩⟩ := di
    (conv => whnf); repeat' ((first | (refine And.intro ?_ ?_ <;> ((try intro h) <;> (try simp only [gS] at h) <;> first | exact absurd h gF | exact absurd h.symm gF | conv => whnf)) | (refine VL.drawS hTb hMix (by kernel_rfl) (by kernel_rfl) (by kernel_rfl) ?_) | (refine Need.mk ?_; kernel_rfl) | (refine DT.op hTb rfl (o_index_imm hTb rfl rfl rfl rfl rfl rfl rfl (by omega) (hrow)) rfl ?_) | (refine DT.op hTb rfl (o_index_imm hTb rfl rfl rfl rfl rfl rfl rfl (by omega) (hrow2)) rfl ?_)) <;> conv => whnf)
    · rw [hf, hs]
      have e : q_Col ⟨a_name, a_kind, a_need, a_once, ⟨a_d_k, a_d_n, a_d_t⟩⟩ ⟨b_name, b_kind, b_need, b_once, ⟨b_d_k, b_d_n, b_d_t⟩⟩ = false := by have e : (!q_Col ⟨a_name, a_kind, a_need, a_once, ⟨a_d_k, a_d_n, a_d_t⟩⟩ ⟨b_name, b_kind, b_need, b_once, ⟨b_d_k, b_d_n, b_d_t⟩⟩) = true := h; simpa using e
      rw [e]; rfl
    · refine ⟨i + 1, ⟨hlt, ?_⟩, by omega, wk_to [] rfl rfl rfl ⟨rfl, rfl, rfl, congrArg (fun x => Slot.one (.g (.int .i64 x))) (wrap64' (by omega)), trivial⟩ trivial⟩
      have e : q_Col ⟨a_name, a_kind, a_need, a_once, ⟨a_d_k, a_d_n, a_d_t⟩⟩ ⟨b_name, b_kind, b_need, b_once, ⟨b_d_k, b_d_n, b_d_t⟩⟩ = true := by have e : (!q_Col ⟨a_name, a_kind, a_need, a_once, ⟨a_d_k, a_d_n, a_d_t⟩⟩ ⟨b_name, b_kind, b_need, b_once, ⟨b_d_k, b_d_n, b_d_t⟩⟩) = false := h; simpa using e
      rw [hf, hs, e, Bool.true_and]
  · (conv => whnf)
    have : i = us.length := by simp at h2; omega
    subst this
    rw [hf, leq_end (Nat.le_refl _) (by omega)]; rfl
theorem q_EqChanges (us bs : List Change) (ha : us.length ≤ maxLen) : CallsV Tryz.prog 73 [changesI us, changesI bs] [] (pureQ (bS (leq q_Change us bs))) := by
  refine pure_walk hTb Tryz.func73 rfl rfl Tryz.ntmps73 (by simp) ?_
  (conv => whnf); repeat' ((first | (refine And.intro ?_ ?_ <;> ((try intro h) <;> (try simp only [Bool.not_true, Bool.not_false] at h) <;> first | exact absurd h gF | exact absurd h.symm gF | conv => whnf))) <;> conv => whnf)
  · rw [leq_len (by simp at h; omega)]; rfl
  have hl : us.length = bs.length := by simp at h; omega
  refine VL.loopI hTb (fun i => i ≤ us.length ∧ leq q_Change us bs = leq q_Change (us.drop i) (bs.drop i)) (fun i => ⟨[(0, changesI us), (1, changesI bs), (12, iS ((us.map encChange).length : Nat)), (13, iS i)], [], []⟩) (fun i => us.length - i) 0 ⟨Nat.zero_le _, rfl⟩
    (wk_to [] rfl rfl rfl ⟨rfl, rfl, rfl, rfl, trivial⟩ trivial) (fun i hi => ?_)
  obtain ⟨hi, hf⟩ := hi
  (conv => whnf)
  refine And.intro (fun h2 => ?_) (fun h2 => ?_)
  · have hlt : i < us.length := by simpa using h2
    have hlt2 : i < bs.length := by omega
    have hrow := rowChange hlt
    have hrow2 := rowChange hlt2
    have hs := leq_step (f := q_Change) hlt hlt2
    skip
    generalize hci : us[i] = ci at *
    generalize hdi : bs[i] = di at *
    obtain ⟨a_kind, a_name, a_new, ⟨a_col_name, a_col_kind, a_col_need, a_col_once, ⟨a_col_d_k, a_col_d_n, a_col_d_t⟩⟩⟩ := ci
    obtain ⟨b_kind, b_name, b_new, ⟨b_col_name, b_col_kind, b_col_need, b_col_once, ⟨b_col_d_k, b_col_d_n, b_col_d_t⟩⟩⟩ := di
    (conv => whnf); repeat' ((first | (refine And.intro ?_ ?_ <;> ((try intro h) <;> (try simp only [gS] at h) <;> first | exact absurd h gF | exact absurd h.symm gF | conv => whnf)) | (refine VL.drawS hTb hMix (by kernel_rfl) (by kernel_rfl) (by kernel_rfl) ?_) | (refine Need.mk ?_; kernel_rfl) | (refine DT.op hTb rfl (o_index_imm hTb rfl rfl rfl rfl rfl rfl rfl (by omega) (hrow)) rfl ?_) | (refine DT.op hTb rfl (o_index_imm hTb rfl rfl rfl rfl rfl rfl rfl (by omega) (hrow2)) rfl ?_)) <;> conv => whnf)
    · rw [hf, hs]
      have e : q_Change ⟨a_kind, a_name, a_new, ⟨a_col_name, a_col_kind, a_col_need, a_col_once, ⟨a_col_d_k, a_col_d_n, a_col_d_t⟩⟩⟩ ⟨b_kind, b_name, b_new, ⟨b_col_name, b_col_kind, b_col_need, b_col_once, ⟨b_col_d_k, b_col_d_n, b_col_d_t⟩⟩⟩ = false := by have e : (!q_Change ⟨a_kind, a_name, a_new, ⟨a_col_name, a_col_kind, a_col_need, a_col_once, ⟨a_col_d_k, a_col_d_n, a_col_d_t⟩⟩⟩ ⟨b_kind, b_name, b_new, ⟨b_col_name, b_col_kind, b_col_need, b_col_once, ⟨b_col_d_k, b_col_d_n, b_col_d_t⟩⟩⟩) = true := h; simpa using e
      rw [e]; rfl
    · refine ⟨i + 1, ⟨hlt, ?_⟩, by omega, wk_to [] rfl rfl rfl ⟨rfl, rfl, rfl, congrArg (fun x => Slot.one (.g (.int .i64 x))) (wrap64' (by omega)), trivial⟩ trivial⟩
      have e : q_Change ⟨a_kind, a_name, a_new, ⟨a_col_name, a_col_kind, a_col_need, a_col_once, ⟨a_col_d_k, a_col_d_n, a_col_d_t⟩⟩⟩ ⟨b_kind, b_name, b_new, ⟨b_col_name, b_col_kind, b_col_need, b_col_once, ⟨b_col_d_k, b_col_d_n, b_col_d_t⟩⟩⟩ = true := by have e : (!q_Change ⟨a_kind, a_name, a_new, ⟨a_col_name, a_col_kind, a_col_need, a_col_once, ⟨a_col_d_k, a_col_d_n, a_col_d_t⟩⟩⟩ ⟨b_kind, b_name, b_new, ⟨b_col_name, b_col_kind, b_col_need, b_col_once, ⟨b_col_d_k, b_col_d_n, b_col_d_t⟩⟩⟩) = false := h; simpa using e
      rw [hf, hs, e, Bool.true_and]
  · (conv => whnf)
    have : i = us.length := by simp at h2; omega
    subst this
    rw [hf, leq_end (Nat.le_refl _) (by omega)]; rfl
theorem q_EqVLinks (us bs : List VLink) (ha : us.length ≤ maxLen) : CallsV Tryz.prog 117 [vlinksI us, vlinksI bs] [] (pureQ (bS (leq q_VLink us bs))) := by
  refine pure_walk hTb Tryz.func117 rfl rfl Tryz.ntmps117 (by simp) ?_
  (conv => whnf); repeat' ((first | (refine And.intro ?_ ?_ <;> ((try intro h) <;> (try simp only [Bool.not_true, Bool.not_false] at h) <;> first | exact absurd h gF | exact absurd h.symm gF | conv => whnf))) <;> conv => whnf)
  · rw [leq_len (by simp at h; omega)]; rfl
  have hl : us.length = bs.length := by simp at h; omega
  refine VL.loopI hTb (fun i => i ≤ us.length ∧ leq q_VLink us bs = leq q_VLink (us.drop i) (bs.drop i)) (fun i => ⟨[(0, vlinksI us), (1, vlinksI bs), (12, iS ((us.map encVLink).length : Nat)), (13, iS i)], [], []⟩) (fun i => us.length - i) 0 ⟨Nat.zero_le _, rfl⟩
    (wk_to [] rfl rfl rfl ⟨rfl, rfl, rfl, rfl, trivial⟩ trivial) (fun i hi => ?_)
  obtain ⟨hi, hf⟩ := hi
  (conv => whnf)
  refine And.intro (fun h2 => ?_) (fun h2 => ?_)
  · have hlt : i < us.length := by simpa using h2
    have hlt2 : i < bs.length := by omega
    have hrow := rowVLink hlt
    have hrow2 := rowVLink hlt2
    have hs := leq_step (f := q_VLink) hlt hlt2
    skip
    generalize hci : us[i] = ci at *
    generalize hdi : bs[i] = di at *
    obtain ⟨a_src, a_col, a_dst, a_how⟩ := ci
    obtain ⟨b_src, b_col, b_dst, b_how⟩ := di
    (conv => whnf); repeat' ((first | (refine And.intro ?_ ?_ <;> ((try intro h) <;> (try simp only [gS] at h) <;> first | exact absurd h gF | exact absurd h.symm gF | conv => whnf)) | (refine VL.drawS hTb hMix (by kernel_rfl) (by kernel_rfl) (by kernel_rfl) ?_) | (refine Need.mk ?_; kernel_rfl) | (refine DT.op hTb rfl (o_index_imm hTb rfl rfl rfl rfl rfl rfl rfl (by omega) (hrow)) rfl ?_) | (refine DT.op hTb rfl (o_index_imm hTb rfl rfl rfl rfl rfl rfl rfl (by omega) (hrow2)) rfl ?_)) <;> conv => whnf)
    · rw [hf, hs]
      have e : q_VLink ⟨a_src, a_col, a_dst, a_how⟩ ⟨b_src, b_col, b_dst, b_how⟩ = false := by have e : (!q_VLink ⟨a_src, a_col, a_dst, a_how⟩ ⟨b_src, b_col, b_dst, b_how⟩) = true := h; simpa using e
      rw [e]; rfl
    · refine ⟨i + 1, ⟨hlt, ?_⟩, by omega, wk_to [] rfl rfl rfl ⟨rfl, rfl, rfl, congrArg (fun x => Slot.one (.g (.int .i64 x))) (wrap64' (by omega)), trivial⟩ trivial⟩
      have e : q_VLink ⟨a_src, a_col, a_dst, a_how⟩ ⟨b_src, b_col, b_dst, b_how⟩ = true := by have e : (!q_VLink ⟨a_src, a_col, a_dst, a_how⟩ ⟨b_src, b_col, b_dst, b_how⟩) = false := h; simpa using e
      rw [hf, hs, e, Bool.true_and]
  · (conv => whnf)
    have : i = us.length := by simp at h2; omega
    subst this
    rw [hf, leq_end (Nat.le_refl _) (by omega)]; rfl
theorem q_l3Vals (us bs : List Val) (ha : us.length ≤ maxLen) : CallsV Tryz.prog 141 [valsI us, valsI bs] [] (pureQ (bS (leq q_Val us bs))) := by
  refine pure_walk hTb Tryz.func141 rfl rfl Tryz.ntmps141 (by simp) ?_
  (conv => whnf); repeat' ((first | (refine And.intro ?_ ?_ <;> ((try intro h) <;> (try simp only [Bool.not_true, Bool.not_false] at h) <;> first | exact absurd h gF | exact absurd h.symm gF | conv => whnf))) <;> conv => whnf)
  · rw [leq_len (by simp at h; omega)]; rfl
  have hl : us.length = bs.length := by simp at h; omega
  refine VL.loopI hTb (fun i => i ≤ us.length ∧ leq q_Val us bs = leq q_Val (us.drop i) (bs.drop i)) (fun i => ⟨[(0, valsI us), (1, valsI bs), (5, iS i)], [], []⟩) (fun i => us.length - i) 0 ⟨Nat.zero_le _, rfl⟩
    (wk_to [] rfl rfl rfl ⟨rfl, rfl, rfl, trivial⟩ trivial) (fun i hi => ?_)
  obtain ⟨hi, hf⟩ := hi
  (conv => whnf)
  refine And.intro (fun h2 => ?_) (fun h2 => ?_)
  · have hlt : i < us.length := by simpa using h2
    have hlt2 : i < bs.length := by omega
    have hrow := rowVal hlt
    have hrow2 := rowVal hlt2
    have hs := leq_step (f := q_Val) hlt hlt2
    skip
    generalize hci : us[i] = ci at *
    generalize hdi : bs[i] = di at *
    obtain ⟨a_k, a_n, a_t⟩ := ci
    obtain ⟨b_k, b_n, b_t⟩ := di
    (conv => whnf); repeat' ((first | (refine And.intro ?_ ?_ <;> ((try intro h) <;> (try simp only [gS] at h) <;> first | exact absurd h gF | exact absurd h.symm gF | conv => whnf)) | (refine VL.drawS hTb hMix (by kernel_rfl) (by kernel_rfl) (by kernel_rfl) ?_) | (refine Need.mk ?_; kernel_rfl) | (refine DT.op hTb rfl (o_index_imm hTb rfl rfl rfl rfl rfl rfl rfl (by omega) (hrow)) rfl ?_) | (refine DT.op hTb rfl (o_index_imm hTb rfl rfl rfl rfl rfl rfl rfl (by omega) (hrow2)) rfl ?_)) <;> conv => whnf)
    · rw [hf, hs]
      have e : q_Val ⟨a_k, a_n, a_t⟩ ⟨b_k, b_n, b_t⟩ = false := by have e : (!q_Val ⟨a_k, a_n, a_t⟩ ⟨b_k, b_n, b_t⟩) = true := h; simpa using e
      rw [e]; rfl
    · refine ⟨i + 1, ⟨hlt, ?_⟩, by omega, wk_to [] rfl rfl rfl ⟨rfl, rfl, congrArg (fun x => Slot.one (.g (.int .i64 x))) (wrap64' (by omega)), trivial⟩ trivial⟩
      have e : q_Val ⟨a_k, a_n, a_t⟩ ⟨b_k, b_n, b_t⟩ = true := by have e : (!q_Val ⟨a_k, a_n, a_t⟩ ⟨b_k, b_n, b_t⟩) = false := h; simpa using e
      rw [hf, hs, e, Bool.true_and]
  · (conv => whnf)
    have : i = us.length := by simp at h2; omega
    subst this
    rw [hf, leq_end (Nat.le_refl _) (by omega)]; rfl
theorem q_ShapeSame (us bs : List Col) (ha : us.length ≤ maxLen) : CallsV Tryz.prog 77 [colsI us, colsI bs] [] (pureQ (bS (leq q_Col us bs))) := by
  refine pure_walk hTb Tryz.func77 rfl rfl Tryz.ntmps77 (by simp) ?_
  (conv => whnf); repeat' ((first | (refine And.intro ?_ ?_ <;> ((try intro h) <;> (try simp only [Bool.not_true, Bool.not_false] at h) <;> first | exact absurd h gF | exact absurd h.symm gF | conv => whnf))) <;> conv => whnf)
  · rw [leq_len (by simp at h; omega)]; rfl
  have hl : us.length = bs.length := by simp at h; omega
  refine VL.loopI hTb (fun i => i ≤ us.length ∧ leq q_Col us bs = leq q_Col (us.drop i) (bs.drop i)) (fun i => ⟨[(0, colsI us), (1, colsI bs), (5, iS i)], [], []⟩) (fun i => us.length - i) 0 ⟨Nat.zero_le _, rfl⟩
    (wk_to [] rfl rfl rfl ⟨rfl, rfl, rfl, trivial⟩ trivial) (fun i hi => ?_)
  obtain ⟨hi, hf⟩ := hi
  (conv => whnf)
  refine And.intro (fun h2 => ?_) (fun h2 => ?_)
  · have hlt : i < us.length := by simpa using h2
    have hlt2 : i < bs.length := by omega
    have hrow := rowCol hlt
    have hrow2 := rowCol hlt2
    have hs := leq_step (f := q_Col) hlt hlt2
    skip
    generalize hci : us[i] = ci at *
    generalize hdi : bs[i] = di at *
    obtain ⟨a_name, a_kind, a_need, a_once, ⟨a_d_k, a_d_n, a_d_t⟩⟩ := ci
    obtain ⟨b_name, b_kind, b_need, b_once, ⟨b_d_k, b_d_n, b_d_t⟩⟩ := di
    (conv => whnf); repeat' ((first | (refine And.intro ?_ ?_ <;> ((try intro h) <;> (try simp only [gS] at h) <;> first | exact absurd h gF | exact absurd h.symm gF | conv => whnf)) | (refine VL.drawS hTb hMix (by kernel_rfl) (by kernel_rfl) (by kernel_rfl) ?_) | (refine Need.mk ?_; kernel_rfl) | (refine DT.op hTb rfl (o_index_imm hTb rfl rfl rfl rfl rfl rfl rfl (by omega) (hrow)) rfl ?_) | (refine DT.op hTb rfl (o_index_imm hTb rfl rfl rfl rfl rfl rfl rfl (by omega) (hrow2)) rfl ?_)) <;> conv => whnf)
    · rw [hf, hs]
      have e : q_Col ⟨a_name, a_kind, a_need, a_once, ⟨a_d_k, a_d_n, a_d_t⟩⟩ ⟨b_name, b_kind, b_need, b_once, ⟨b_d_k, b_d_n, b_d_t⟩⟩ = false := by have e : (!q_Col ⟨a_name, a_kind, a_need, a_once, ⟨a_d_k, a_d_n, a_d_t⟩⟩ ⟨b_name, b_kind, b_need, b_once, ⟨b_d_k, b_d_n, b_d_t⟩⟩) = true := h; simpa using e
      rw [e]; rfl
    · refine ⟨i + 1, ⟨hlt, ?_⟩, by omega, wk_to [] rfl rfl rfl ⟨rfl, rfl, congrArg (fun x => Slot.one (.g (.int .i64 x))) (wrap64' (by omega)), trivial⟩ trivial⟩
      have e : q_Col ⟨a_name, a_kind, a_need, a_once, ⟨a_d_k, a_d_n, a_d_t⟩⟩ ⟨b_name, b_kind, b_need, b_once, ⟨b_d_k, b_d_n, b_d_t⟩⟩ = true := by have e : (!q_Col ⟨a_name, a_kind, a_need, a_once, ⟨a_d_k, a_d_n, a_d_t⟩⟩ ⟨b_name, b_kind, b_need, b_once, ⟨b_d_k, b_d_n, b_d_t⟩⟩) = false := h; simpa using e
      rw [hf, hs, e, Bool.true_and]
  · (conv => whnf)
    have : i = us.length := by simp at h2; omega
    subst this
    rw [hf, leq_end (Nat.le_refl _) (by omega)]; rfl
theorem q_l3Same (a b : VRow) (ha : a.vals.length ≤ maxLen) : CallsV Tryz.prog 78 [.agg (encVRow a), .agg (encVRow b)] [] (pureQ (bS (q_VRow a b))) := by
  obtain ⟨aid, aver, avals⟩ := a
  obtain ⟨bid, bver, bvals⟩ := b
  refine pure_walk hTb Tryz.func78 rfl rfl Tryz.ntmps78 (by simp) ?_
  (conv => whnf); repeat' ((first | (refine And.intro ?_ ?_ <;> ((try intro h) <;> (try simp only [gS] at h) <;> first | exact absurd h gF | exact absurd h.symm gF | conv => whnf)) | (refine VR.pure hTb rfl rfl (o_purN (q_l3Vals _ _ ha) rfl rfl rfl gQ rfl) ?_)) <;> conv => whnf)
  all_goals (simp only [q_VRow, bS]; simp_all)
theorem q_TS1 (a b : VRow) (ha : a.vals.length ≤ maxLen) : CallsV Tryz.prog 75 [.agg (encVRow a), .agg (encVRow b)] [] (pureQ (bS (q_VRow a b))) := by
  obtain ⟨aid, aver, avals⟩ := a
  obtain ⟨bid, bver, bvals⟩ := b
  refine pure_walk hTb Tryz.func75 rfl rfl Tryz.ntmps75 (by simp) ?_
  (conv => whnf); repeat' ((first | (refine And.intro ?_ ?_ <;> ((try intro h) <;> (try simp only [gS] at h) <;> first | exact absurd h gF | exact absurd h.symm gF | conv => whnf)) | (refine VR.pure hTb rfl rfl (o_purN (q_EqVals _ _ ha) rfl rfl rfl gQ rfl) ?_)) <;> conv => whnf)
  all_goals (simp only [q_VRow, bS]; simp_all)
theorem q_EqFRows (us bs : List VRow) (ha : us.length ≤ maxLen) (ou : ∀ x ∈ us, x.ok) : CallsV Tryz.prog 74 [vrowsI us, vrowsI bs, .one (.clo 75 [])] [] (pureQ (bS (leq q_VRow us bs))) := by
  refine pure_walk hTb Tryz.func74 rfl rfl Tryz.ntmps74 (by simp) ?_
  (conv => whnf); repeat' ((first | (refine And.intro ?_ ?_ <;> ((try intro h) <;> (try simp only [Bool.not_true, Bool.not_false] at h) <;> first | exact absurd h gF | exact absurd h.symm gF | conv => whnf))) <;> conv => whnf)
  · rw [leq_len (by simp at h; omega)]; rfl
  have hl : us.length = bs.length := by simp at h; omega
  refine VL.loopI hTb (fun i => i ≤ us.length ∧ leq q_VRow us bs = leq q_VRow (us.drop i) (bs.drop i)) (fun i => ⟨[(0, vrowsI us), (1, vrowsI bs), (2, .one (.clo 75 [])), (15, vrowsI us), (16, iS ((us.map encVRow).length : Nat)), (17, iS i)], [], []⟩) (fun i => us.length - i) 0 ⟨Nat.zero_le _, rfl⟩
    (wk_to [] rfl rfl rfl ⟨rfl, rfl, rfl, rfl, rfl, rfl, trivial⟩ trivial) (fun i hi => ?_)
  obtain ⟨hi, hf⟩ := hi
  (conv => whnf)
  refine And.intro (fun h2 => ?_) (fun h2 => ?_)
  · have hlt : i < us.length := by simpa using h2
    have hlt2 : i < bs.length := by omega
    have hrow := rowVRow hlt
    have hrow2 := rowVRow hlt2
    have hs := leq_step (f := q_VRow) hlt hlt2
    have hc := q_TS1 us[i] bs[i] (ou _ (List.getElem_mem hlt)).1
    generalize hci : us[i] = ci at *
    generalize hdi : bs[i] = di at *
    obtain ⟨a_id, a_ver, a_vals⟩ := ci
    obtain ⟨b_id, b_ver, b_vals⟩ := di
    (conv => whnf); repeat' ((first | (refine And.intro ?_ ?_ <;> ((try intro h) <;> (try simp only [gS] at h) <;> first | exact absurd h gF | exact absurd h.symm gF | conv => whnf)) | (refine VR.op hTb rfl rfl (o_index_imm hTb rfl rfl rfl rfl rfl rfl rfl (by omega) (hrow)) rfl ?_) | (refine VR.op hTb rfl rfl (o_index_imm hTb rfl rfl rfl rfl rfl rfl rfl (by omega) (hrow2)) rfl ?_) | (refine VR.pure hTb rfl rfl (o_purN (hc) rfl rfl rfl gQ rfl) ?_)) <;> conv => whnf)
    · rw [hf, hs]
      have e : q_VRow ⟨a_id, a_ver, a_vals⟩ ⟨b_id, b_ver, b_vals⟩ = false := by have e : (!q_VRow ⟨a_id, a_ver, a_vals⟩ ⟨b_id, b_ver, b_vals⟩) = true := h; simpa using e
      rw [e]; rfl
    · refine ⟨i + 1, ⟨hlt, ?_⟩, by omega, wk_to [] rfl rfl rfl ⟨rfl, rfl, rfl, rfl, rfl, congrArg (fun x => Slot.one (.g (.int .i64 x))) (wrap64' (by omega)), trivial⟩ trivial⟩
      have e : q_VRow ⟨a_id, a_ver, a_vals⟩ ⟨b_id, b_ver, b_vals⟩ = true := by have e : (!q_VRow ⟨a_id, a_ver, a_vals⟩ ⟨b_id, b_ver, b_vals⟩) = false := h; simpa using e
      rw [hf, hs, e, Bool.true_and]
  · (conv => whnf)
    have : i = us.length := by simp at h2; omega
    subst this
    rw [hf, leq_end (Nat.le_refl _) (by omega)]; rfl
theorem q_implTableSame (a b : VTable) (ha : a.ok) : CallsV Tryz.prog 25 [.agg (encVTable a), .agg (encVTable b)] [] (pureQ (bS (q_VTable a b))) := by
  obtain ⟨af, ac, ar, an⟩ := a
  obtain ⟨bf, bc, br, bn⟩ := b
  simp only [VTable.ok] at ha
  refine pure_walk hTb Tryz.func25 rfl rfl Tryz.ntmps25 (by simp) ?_
  (conv => whnf); repeat' ((first | (refine And.intro ?_ ?_ <;> ((try intro h) <;> (try simp only [gS] at h) <;> first | exact absurd h gF | exact absurd h.symm gF | conv => whnf)) | (refine VR.pure hTb rfl rfl (o_purN (q_EqCols _ _ ha.1.1) rfl rfl rfl gQ rfl) ?_) | (refine VR.pure hTb rfl rfl (o_purN (q_EqChanges _ _ ha.2.1.1) rfl rfl rfl gQ rfl) ?_) | (refine VR.pure hTb rfl rfl (o_purN (q_EqFRows _ _ ha.2.2.1 ha.2.2.2) rfl rfl rfl gQ rfl) ?_)) <;> conv => whnf)
  all_goals (clear ha; simp only [q_VTable, bS]; simp_all)
theorem q_specTableSame (a b : VTable) (ha : a.ok) : CallsV Tryz.prog 26 [.agg (encVTable a), .agg (encVTable b)] [] (pureQ (bS (q_VTable a b))) := by
  obtain ⟨af, ac, ar, an⟩ := a
  obtain ⟨bf, bc, br, bn⟩ := b
  simp only [VTable.ok] at ha
  obtain ⟨⟨haf, _⟩, ⟨hac, _⟩, har, hao⟩ := ha
  refine pure_walk hTb Tryz.func26 rfl rfl Tryz.ntmps26 (by simp) ?_
  have l1 : ac.length ≠ bc.length → leq q_Change ac bc = false := leq_len
  have l2 : ar.length ≠ br.length → leq q_VRow ar br = false := leq_len
  (conv => whnf); repeat' ((first | (refine And.intro ?_ ?_ <;> ((try intro h) <;> (try simp only [gS] at h) <;> first | exact absurd h gF | exact absurd h.symm gF | conv => whnf)) | (refine VR.pure hTb rfl rfl (o_purN (q_ShapeSame _ _ haf) rfl rfl rfl gQ rfl) ?_)) <;> conv => whnf)
  all_goals first
    | (clear haf hac har hao; simp only [q_VTable, bS]; simp_all; done)
    | (clear haf hac har hao; by_cases e1 : ac.length = bc.length <;> by_cases e2 : ar.length = br.length <;> simp_all [q_VTable, bS]; done)
    | skip
  have k1 : leq q_Col af bf = true := by simp_all
  have k2 : ac.length = bc.length := by rename_i h1 h2 h3; simp at h2; omega
  have k3 : ar.length = br.length := by rename_i h1 h2 h3; simp at h3; omega
  have k4 : (an == bn) = true := by simp at h ⊢; exact h
  have k5 : q_VTable ⟨af, ac, ar, an⟩ ⟨bf, bc, br, bn⟩ = (leq q_Change ac bc && leq q_VRow ar br) := by simp only [q_VTable, k1, k4, Bool.true_and]
  refine VL.loopI hTb (fun i => i ≤ ac.length ∧ leq q_Change ac bc = leq q_Change (ac.drop i) (bc.drop i)) (fun i => ⟨[(2, .one (.ptr 102 0)), (3, .one (.ptr 103 0)), (5, iS i)], [(102, .box (encVTable ⟨af, ac, ar, an⟩)), (103, .box (encVTable ⟨bf, bc, br, bn⟩))], []⟩) (fun i => ac.length - i) 0 ⟨Nat.zero_le _, rfl⟩
    (wk_to [(102, 102), (103, 103)] rfl rfl rfl ⟨rfl, rfl, rfl, trivial⟩ ⟨rfl, ⟨_, rfl, rfl⟩, rfl, ⟨_, rfl, rfl⟩, trivial⟩) (fun i hi => ?_)
  obtain ⟨hi, hf⟩ := hi
  (conv => whnf)
  refine And.intro (fun h2 => ?_) (fun h2 => ?_)
  · have hlt : i < ac.length := by simpa using h2
    have hlt2 : i < bc.length := by omega
    have hrow := rowChange hlt
    have hrow2 := rowChange hlt2
    have hs := leq_step (f := q_Change) hlt hlt2
    generalize hci : ac[i] = ci at *
    generalize hdi : bc[i] = di at *
    obtain ⟨a_kind, a_name, a_new, ⟨a_col_name, a_col_kind, a_col_need, a_col_once, ⟨a_col_d_k, a_col_d_n, a_col_d_t⟩⟩⟩ := ci
    obtain ⟨b_kind, b_name, b_new, ⟨b_col_name, b_col_kind, b_col_need, b_col_once, ⟨b_col_d_k, b_col_d_n, b_col_d_t⟩⟩⟩ := di
    (conv => whnf); repeat' ((first | (refine And.intro ?_ ?_ <;> ((try intro h) <;> (try simp only [gS] at h) <;> first | exact absurd h gF | exact absurd h.symm gF | conv => whnf)) | (refine VL.drawS hTb hMix (by kernel_rfl) (by kernel_rfl) (by kernel_rfl) ?_) | (refine Need.mk ?_; kernel_rfl) | (refine DT.op hTb rfl (o_index_imm hTb rfl rfl rfl rfl rfl rfl rfl (by omega) (hrow)) rfl ?_) | (refine DT.op hTb rfl (o_index_imm hTb rfl rfl rfl rfl rfl rfl rfl (by omega) (hrow2)) rfl ?_)) <;> conv => whnf)
    · rw [k5, hf, hs]
      have e : q_Change ⟨a_kind, a_name, a_new, ⟨a_col_name, a_col_kind, a_col_need, a_col_once, ⟨a_col_d_k, a_col_d_n, a_col_d_t⟩⟩⟩ ⟨b_kind, b_name, b_new, ⟨b_col_name, b_col_kind, b_col_need, b_col_once, ⟨b_col_d_k, b_col_d_n, b_col_d_t⟩⟩⟩ = false := by have e : (!q_Change ⟨a_kind, a_name, a_new, ⟨a_col_name, a_col_kind, a_col_need, a_col_once, ⟨a_col_d_k, a_col_d_n, a_col_d_t⟩⟩⟩ ⟨b_kind, b_name, b_new, ⟨b_col_name, b_col_kind, b_col_need, b_col_once, ⟨b_col_d_k, b_col_d_n, b_col_d_t⟩⟩⟩) = true := h; simpa using e
      rw [e]; rfl
    · refine ⟨i + 1, ⟨hlt, ?_⟩, by omega, wk_to [(102, 102), (103, 103)] rfl rfl rfl ⟨rfl, rfl, congrArg (fun x => Slot.one (.g (.int .i64 x))) (wrap64' (by omega)), trivial⟩ ⟨rfl, ⟨_, rfl, rfl⟩, rfl, ⟨_, rfl, rfl⟩, trivial⟩⟩
      have e : q_Change ⟨a_kind, a_name, a_new, ⟨a_col_name, a_col_kind, a_col_need, a_col_once, ⟨a_col_d_k, a_col_d_n, a_col_d_t⟩⟩⟩ ⟨b_kind, b_name, b_new, ⟨b_col_name, b_col_kind, b_col_need, b_col_once, ⟨b_col_d_k, b_col_d_n, b_col_d_t⟩⟩⟩ = true := by have e : (!q_Change ⟨a_kind, a_name, a_new, ⟨a_col_name, a_col_kind, a_col_need, a_col_once, ⟨a_col_d_k, a_col_d_n, a_col_d_t⟩⟩⟩ ⟨b_kind, b_name, b_new, ⟨b_col_name, b_col_kind, b_col_need, b_col_once, ⟨b_col_d_k, b_col_d_n, b_col_d_t⟩⟩⟩) = false := h; simpa using e
      rw [hf, hs, e, Bool.true_and]
  · have hie : i = ac.length := by simp at h2; omega
    subst hie
    rw [leq_end (Nat.le_refl _) (by omega)] at hf
    rw [hf, Bool.true_and] at k5
    (conv => whnf)
    refine VL.loopI hTb (fun i => i ≤ ar.length ∧ leq q_VRow ar br = leq q_VRow (ar.drop i) (br.drop i)) (fun i => ⟨[(2, .one (.ptr 102 0)), (3, .one (.ptr 103 0)), (6, iS i)], [(102, .box (encVTable ⟨af, ac, ar, an⟩)), (103, .box (encVTable ⟨bf, bc, br, bn⟩))], []⟩) (fun i => ar.length - i) 0 ⟨Nat.zero_le _, rfl⟩
      (wk_to [(102, 102), (103, 103)] rfl rfl rfl ⟨rfl, rfl, rfl, trivial⟩ ⟨rfl, ⟨_, rfl, rfl⟩, rfl, ⟨_, rfl, rfl⟩, trivial⟩) (fun i hi => ?_)
    obtain ⟨hi, hf⟩ := hi
    (conv => whnf)
    refine And.intro (fun h2 => ?_) (fun h2 => ?_)
    · have hlt : i < ar.length := by simpa using h2
      have hlt2 : i < br.length := by omega
      have hrow := rowVRow hlt
      have hrow2 := rowVRow hlt2
      have hs := leq_step (f := q_VRow) hlt hlt2
      have hc := q_l3Same ar[i] br[i] (hao _ (List.getElem_mem hlt)).1
      generalize hci : ar[i] = ci at *
      generalize hdi : br[i] = di at *
      obtain ⟨r1, r2, r3⟩ := ci
      obtain ⟨s1, s2, s3⟩ := di
      (conv => whnf); repeat' ((first | (refine And.intro ?_ ?_ <;> ((try intro h) <;> (try simp only [gS] at h) <;> first | exact absurd h gF | exact absurd h.symm gF | conv => whnf)) | (refine VL.drawS hTb hMix (by kernel_rfl) (by kernel_rfl) (by kernel_rfl) ?_) | (refine Need.mk ?_; kernel_rfl) | (refine DT.op hTb rfl (o_index_imm hTb rfl rfl rfl rfl rfl rfl rfl (by omega) (hrow)) rfl ?_) | (refine DT.op hTb rfl (o_index_imm hTb rfl rfl rfl rfl rfl rfl rfl (by omega) (hrow2)) rfl ?_) | (refine DT.pure hTb rfl (o_purN (hc) rfl rfl rfl gQ rfl) ?_)) <;> conv => whnf)
      · rw [k5, hf, hs]
        have e : q_VRow ⟨r1, r2, r3⟩ ⟨s1, s2, s3⟩ = false := by have e : (!q_VRow ⟨r1, r2, r3⟩ ⟨s1, s2, s3⟩) = true := h; simpa using e
        rw [e]; rfl
      · refine ⟨i + 1, ⟨hlt, ?_⟩, by omega, wk_to [(102, 102), (103, 103)] rfl rfl rfl ⟨rfl, rfl, congrArg (fun x => Slot.one (.g (.int .i64 x))) (wrap64' (by omega)), trivial⟩ ⟨rfl, ⟨_, rfl, rfl⟩, rfl, ⟨_, rfl, rfl⟩, trivial⟩⟩
        have e : q_VRow ⟨r1, r2, r3⟩ ⟨s1, s2, s3⟩ = true := by have e : (!q_VRow ⟨r1, r2, r3⟩ ⟨s1, s2, s3⟩) = false := h; simpa using e
        rw [hf, hs, e, Bool.true_and]
    · have hie : i = ar.length := by simp at h2; omega
      subst hie
      rw [leq_end (Nat.le_refl _) (by omega)] at hf
      (conv => whnf)
      rw [k5, hf]; rfl
theorem q_BS1 (a b : VTab) (ha : a.ok) : CallsV Tryz.prog 119 [.agg (encVTab a), .agg (encVTab b)] [] (pureQ (bS (q_VTab a b))) := by
  obtain ⟨an, ⟨a1, a2, a3, a4⟩⟩ := a
  obtain ⟨bn, ⟨b1, b2, b3, b4⟩⟩ := b
  simp only [VTab.ok] at ha
  refine pure_walk hTb Tryz.func119 rfl rfl Tryz.ntmps119 (by simp) ?_
  (conv => whnf); repeat' ((first | (refine And.intro ?_ ?_ <;> ((try intro h) <;> (try simp only [gS] at h) <;> first | exact absurd h gF | exact absurd h.symm gF | conv => whnf)) | (refine VR.pure hTb rfl rfl (o_purN (q_implTableSame ⟨_, _, _, _⟩ ⟨_, _, _, _⟩ ha.2) rfl rfl rfl gQ rfl) ?_)) <;> conv => whnf)
  all_goals (clear ha; simp only [q_VTab, bS]; simp_all)
theorem q_EqFTabs (us bs : List VTab) (ha : us.length ≤ maxLen) (ou : ∀ x ∈ us, x.ok) : CallsV Tryz.prog 118 [vtabsI us, vtabsI bs, .one (.clo 119 [])] [] (pureQ (bS (leq q_VTab us bs))) := by
  refine pure_walk hTb Tryz.func118 rfl rfl Tryz.ntmps118 (by simp) ?_
  (conv => whnf); repeat' ((first | (refine And.intro ?_ ?_ <;> ((try intro h) <;> (try simp only [Bool.not_true, Bool.not_false] at h) <;> first | exact absurd h gF | exact absurd h.symm gF | conv => whnf))) <;> conv => whnf)
  · rw [leq_len (by simp at h; omega)]; rfl
  have hl : us.length = bs.length := by simp at h; omega
  refine VL.loopI hTb (fun i => i ≤ us.length ∧ leq q_VTab us bs = leq q_VTab (us.drop i) (bs.drop i)) (fun i => ⟨[(0, vtabsI us), (1, vtabsI bs), (2, .one (.clo 119 [])), (15, vtabsI us), (16, iS ((us.map encVTab).length : Nat)), (17, iS i)], [], []⟩) (fun i => us.length - i) 0 ⟨Nat.zero_le _, rfl⟩
    (wk_to [] rfl rfl rfl ⟨rfl, rfl, rfl, rfl, rfl, rfl, trivial⟩ trivial) (fun i hi => ?_)
  obtain ⟨hi, hf⟩ := hi
  (conv => whnf)
  refine And.intro (fun h2 => ?_) (fun h2 => ?_)
  · have hlt : i < us.length := by simpa using h2
    have hlt2 : i < bs.length := by omega
    have hrow := rowVTab hlt
    have hrow2 := rowVTab hlt2
    have hs := leq_step (f := q_VTab) hlt hlt2
    have hc := q_BS1 us[i] bs[i] (ou _ (List.getElem_mem hlt))
    generalize hci : us[i] = ci at *
    generalize hdi : bs[i] = di at *
    obtain ⟨a_name, ⟨a_table_first, a_table_changes, a_table_rows, a_table_next⟩⟩ := ci
    obtain ⟨b_name, ⟨b_table_first, b_table_changes, b_table_rows, b_table_next⟩⟩ := di
    (conv => whnf); repeat' ((first | (refine And.intro ?_ ?_ <;> ((try intro h) <;> (try simp only [gS] at h) <;> first | exact absurd h gF | exact absurd h.symm gF | conv => whnf)) | (refine VR.op hTb rfl rfl (o_index_imm hTb rfl rfl rfl rfl rfl rfl rfl (by omega) (hrow)) rfl ?_) | (refine VR.op hTb rfl rfl (o_index_imm hTb rfl rfl rfl rfl rfl rfl rfl (by omega) (hrow2)) rfl ?_) | (refine VR.pure hTb rfl rfl (o_purN (hc) rfl rfl rfl gQ rfl) ?_)) <;> conv => whnf)
    · rw [hf, hs]
      have e : q_VTab ⟨a_name, ⟨a_table_first, a_table_changes, a_table_rows, a_table_next⟩⟩ ⟨b_name, ⟨b_table_first, b_table_changes, b_table_rows, b_table_next⟩⟩ = false := by have e : (!q_VTab ⟨a_name, ⟨a_table_first, a_table_changes, a_table_rows, a_table_next⟩⟩ ⟨b_name, ⟨b_table_first, b_table_changes, b_table_rows, b_table_next⟩⟩) = true := h; simpa using e
      rw [e]; rfl
    · refine ⟨i + 1, ⟨hlt, ?_⟩, by omega, wk_to [] rfl rfl rfl ⟨rfl, rfl, rfl, rfl, rfl, congrArg (fun x => Slot.one (.g (.int .i64 x))) (wrap64' (by omega)), trivial⟩ trivial⟩
      have e : q_VTab ⟨a_name, ⟨a_table_first, a_table_changes, a_table_rows, a_table_next⟩⟩ ⟨b_name, ⟨b_table_first, b_table_changes, b_table_rows, b_table_next⟩⟩ = true := by have e : (!q_VTab ⟨a_name, ⟨a_table_first, a_table_changes, a_table_rows, a_table_next⟩⟩ ⟨b_name, ⟨b_table_first, b_table_changes, b_table_rows, b_table_next⟩⟩) = false := h; simpa using e
      rw [hf, hs, e, Bool.true_and]
  · (conv => whnf)
    have : i = us.length := by simp at h2; omega
    subst this
    rw [hf, leq_end (Nat.le_refl _) (by omega)]; rfl
theorem q_implBaseSame (a b : VBase) (ha : a.ok) (hb : b.ok) : CallsV Tryz.prog 46 [.agg (encVBase a), .agg (encVBase b)] [] (pureQ (bS (q_VBase a b))) := by
  obtain ⟨a_t, al⟩ := a
  obtain ⟨b_t, bl⟩ := b
  simp only [VBase.ok] at ha
  refine pure_walk hTb Tryz.func46 rfl rfl Tryz.ntmps46 (by simp) ?_
  (conv => whnf); repeat' ((first | (refine And.intro ?_ ?_ <;> ((try intro h) <;> (try simp only [gS] at h) <;> first | exact absurd h gF | exact absurd h.symm gF | conv => whnf)) | (refine VR.pure hTb rfl rfl (o_purN (q_EqVLinks _ _ ha.2.1) rfl rfl rfl gQ rfl) ?_) | (refine VR.pure hTb rfl rfl (o_purN (q_EqFTabs _ _ ha.1.1 ha.1.2) rfl rfl rfl gQ rfl) ?_)) <;> conv => whnf)
  all_goals (clear ha hb; simp only [q_VBase, bS]; simp_all)
theorem q_specBaseSame (a b : VBase) (ha : a.ok) : CallsV Tryz.prog 47 [.agg (encVBase a), .agg (encVBase b)] [] (pureQ (bS (q_VBase a b))) := by
  obtain ⟨ac, ar⟩ := a
  obtain ⟨bc, br⟩ := b
  simp only [VBase.ok] at ha
  obtain ⟨⟨hac, hao⟩, har, _⟩ := ha
  refine pure_walk hTb Tryz.func47 rfl rfl Tryz.ntmps47 (by simp) ?_
  have l1 : ac.length ≠ bc.length → leq q_VTab ac bc = false := leq_len
  have l2 : ar.length ≠ br.length → leq q_VLink ar br = false := leq_len
  (conv => whnf); repeat' ((first | (refine And.intro ?_ ?_ <;> ((try intro h) <;> (try simp only [Bool.not_true, Bool.not_false] at h) <;> first | exact absurd h gF | exact absurd h.symm gF | conv => whnf))) <;> conv => whnf)
  all_goals first
    | (clear hac har hao; by_cases e1 : ac.length = bc.length <;> by_cases e2 : ar.length = br.length <;> simp_all [q_VBase, bS]; done)
    | skip
  have k2 : ac.length = bc.length := by rename_i h1; simp at h1; omega
  have k3 : ar.length = br.length := by simp at h; omega
  have k5 : q_VBase ⟨ac, ar⟩ ⟨bc, br⟩ = (leq q_VTab ac bc && leq q_VLink ar br) := by simp only [q_VBase]; rw [Bool.and_comm]
  refine VL.loopI hTb (fun i => i ≤ ac.length ∧ leq q_VTab ac bc = leq q_VTab (ac.drop i) (bc.drop i)) (fun i => ⟨[(2, .one (.ptr 102 0)), (3, .one (.ptr 103 0)), (5, iS i)], [(102, .box (encVBase ⟨ac, ar⟩)), (103, .box (encVBase ⟨bc, br⟩))], []⟩) (fun i => ac.length - i) 0 ⟨Nat.zero_le _, rfl⟩
    (wk_to [(102, 102), (103, 103)] rfl rfl rfl ⟨rfl, rfl, rfl, trivial⟩ ⟨rfl, ⟨_, rfl, rfl⟩, rfl, ⟨_, rfl, rfl⟩, trivial⟩) (fun i hi => ?_)
  obtain ⟨hi, hf⟩ := hi
  (conv => whnf)
  refine And.intro (fun h2 => ?_) (fun h2 => ?_)
  · have hlt : i < ac.length := by simpa using h2
    have hlt2 : i < bc.length := by omega
    have hrow := rowVTab hlt
    have hrow2 := rowVTab hlt2
    have hs := leq_step (f := q_VTab) hlt hlt2
    have hok := hao _ (List.getElem_mem hlt)
    generalize hci : ac[i] = ci at *
    generalize hdi : bc[i] = di at *
    have hc := q_specTableSame ci.table di.table hok.2
    obtain ⟨a_name, ⟨a_table_first, a_table_changes, a_table_rows, a_table_next⟩⟩ := ci
    obtain ⟨b_name, ⟨b_table_first, b_table_changes, b_table_rows, b_table_next⟩⟩ := di
    (conv => whnf); repeat' ((first | (refine And.intro ?_ ?_ <;> ((try intro h) <;> (try simp only [gS] at h) <;> first | exact absurd h gF | exact absurd h.symm gF | conv => whnf)) | (refine VL.drawS hTb hMix (by kernel_rfl) (by kernel_rfl) (by kernel_rfl) ?_) | (refine Need.mk ?_; kernel_rfl) | (refine DT.op hTb rfl (o_index_imm hTb rfl rfl rfl rfl rfl rfl rfl (by omega) (hrow)) rfl ?_) | (refine DT.op hTb rfl (o_index_imm hTb rfl rfl rfl rfl rfl rfl rfl (by omega) (hrow2)) rfl ?_) | (refine DT.pure hTb rfl (o_purN (hc) rfl rfl rfl gQ rfl) ?_)) <;> conv => whnf)
    all_goals first
      | (rw [k5, hf, hs]
         have e : q_VTab ⟨a_name, ⟨a_table_first, a_table_changes, a_table_rows, a_table_next⟩⟩ ⟨b_name, ⟨b_table_first, b_table_changes, b_table_rows, b_table_next⟩⟩ = false := ?_
         rw [e]; rfl
         clear hi hf hs hc hok hao hac har k5 l1 l2
         simp_all [q_VTab]; done)
      | (refine ⟨i + 1, ⟨hlt, ?_⟩, by omega, wk_to [(102, 102), (103, 103)] rfl rfl rfl ⟨rfl, rfl, congrArg (fun x => Slot.one (.g (.int .i64 x))) (wrap64' (by omega)), trivial⟩ ⟨rfl, ⟨_, rfl, rfl⟩, rfl, ⟨_, rfl, rfl⟩, trivial⟩⟩
         have e : q_VTab ⟨a_name, ⟨a_table_first, a_table_changes, a_table_rows, a_table_next⟩⟩ ⟨b_name, ⟨b_table_first, b_table_changes, b_table_rows, b_table_next⟩⟩ = true := ?_
         rw [hf, hs, e, Bool.true_and]
         clear hi hf hs hc hok hao hac har k5 l1 l2
         simp_all [q_VTab]; done)
  · have hie : i = ac.length := by simp at h2; omega
    subst hie
    rw [leq_end (Nat.le_refl _) (by omega)] at hf
    rw [hf, Bool.true_and] at k5
    (conv => whnf)
    refine VL.loopI hTb (fun i => i ≤ ar.length ∧ leq q_VLink ar br = leq q_VLink (ar.drop i) (br.drop i)) (fun i => ⟨[(2, .one (.ptr 102 0)), (3, .one (.ptr 103 0)), (6, iS i)], [(102, .box (encVBase ⟨ac, ar⟩)), (103, .box (encVBase ⟨bc, br⟩))], []⟩) (fun i => ar.length - i) 0 ⟨Nat.zero_le _, rfl⟩
      (wk_to [(102, 102), (103, 103)] rfl rfl rfl ⟨rfl, rfl, rfl, trivial⟩ ⟨rfl, ⟨_, rfl, rfl⟩, rfl, ⟨_, rfl, rfl⟩, trivial⟩) (fun i hi => ?_)
    obtain ⟨hi, hf⟩ := hi
    (conv => whnf)
    refine And.intro (fun h2 => ?_) (fun h2 => ?_)
    · have hlt : i < ar.length := by simpa using h2
      have hlt2 : i < br.length := by omega
      have hrow := rowVLink hlt
      have hrow2 := rowVLink hlt2
      have hs := leq_step (f := q_VLink) hlt hlt2
      generalize hci : ar[i] = ci at *
      generalize hdi : br[i] = di at *
      obtain ⟨r1, r2, r3, r4⟩ := ci
      obtain ⟨s1, s2, s3, s4⟩ := di
      (conv => whnf); repeat' ((first | (refine And.intro ?_ ?_ <;> ((try intro h) <;> (try simp only [gS] at h) <;> first | exact absurd h gF | exact absurd h.symm gF | conv => whnf)) | (refine VL.drawS hTb hMix (by kernel_rfl) (by kernel_rfl) (by kernel_rfl) ?_) | (refine Need.mk ?_; kernel_rfl) | (refine DT.op hTb rfl (o_index_imm hTb rfl rfl rfl rfl rfl rfl rfl (by omega) (hrow)) rfl ?_) | (refine DT.op hTb rfl (o_index_imm hTb rfl rfl rfl rfl rfl rfl rfl (by omega) (hrow2)) rfl ?_)) <;> conv => whnf)
      · rw [k5, hf, hs]
        have e : q_VLink ⟨r1, r2, r3, r4⟩ ⟨s1, s2, s3, s4⟩ = false := by have e : (!q_VLink ⟨r1, r2, r3, r4⟩ ⟨s1, s2, s3, s4⟩) = true := h; simpa using e
        rw [e]; rfl
      · refine ⟨i + 1, ⟨hlt, ?_⟩, by omega, wk_to [(102, 102), (103, 103)] rfl rfl rfl ⟨rfl, rfl, congrArg (fun x => Slot.one (.g (.int .i64 x))) (wrap64' (by omega)), trivial⟩ ⟨rfl, ⟨_, rfl, rfl⟩, rfl, ⟨_, rfl, rfl⟩, trivial⟩⟩
        have e : q_VLink ⟨r1, r2, r3, r4⟩ ⟨s1, s2, s3, s4⟩ = true := by have e : (!q_VLink ⟨r1, r2, r3, r4⟩ ⟨s1, s2, s3, s4⟩) = false := h; simpa using e
        rw [hf, hs, e, Bool.true_and]
    · have hie : i = ar.length := by simp at h2; omega
      subst hie
      rw [leq_end (Nat.le_refl _) (by omega)] at hf
      (conv => whnf)
      rw [k5, hf]; rfl
theorem row_at {cs : List Col} {i : Nat} (h : i < cs.length) : (cs.map encCol)[((i : Nat) : Int).toNat]? = some (encCol cs[i]) := by
  rw [Int.toNat_natCast, List.getElem?_map, List.getElem?_eq_getElem h]; rfl
def atGo (s : ByteArray) : List Col → Nat → Int
  | [], _ => -1
  | c :: cs, i => if c.name.toList == s.toList then (i : Int) else atGo s cs (i + 1)
def nameAt (cs : List Col) (s : ByteArray) : Int := atGo s cs 0
theorem atGo_step {cs : List Col} {s : ByteArray} {i : Nat} (h : i < cs.length) : atGo s (cs.drop i) i = if cs[i].name.toList == s.toList then (i : Int) else atGo s (cs.drop (i + 1)) (i + 1) := by
  rw [List.drop_eq_getElem_cons h, atGo]
theorem atGo_end {cs : List Col} {s : ByteArray} {i : Nat} (h : cs.length ≤ i) : atGo s (cs.drop i) i = -1 := by
  rw [List.drop_of_length_le h, atGo]
theorem c_l2At (cs : List Col) (s : ByteArray) (hl : cs.length ≤ maxLen) : CallsV Tryz.prog 67 [colsI cs, strS s] [] (pureQ (iS (nameAt cs s))) := by
  refine pure_walk hTb Tryz.func67 rfl rfl Tryz.ntmps67 (by simp) ?_
  (conv => whnf)
  refine VL.loopI hTb (fun i => i ≤ cs.length ∧ nameAt cs s = atGo s (cs.drop i) i) (fun i => ⟨[(0, colsI cs), (1, strS s), (5, iS i)], [], []⟩) (fun i => cs.length - i) 0 ⟨Nat.zero_le _, rfl⟩
    (wk_to [] rfl rfl rfl ⟨rfl, rfl, rfl, trivial⟩ trivial) (fun i hi => ?_)
  obtain ⟨hi, hf⟩ := hi
  (conv => whnf)
  refine And.intro (fun h2 => ?_) (fun h2 => ?_)
  · have hlt : i < cs.length := by simpa using h2
    have hrow := row_at hlt
    (conv => whnf); repeat' (first
    | (refine And.intro ?_ ?_ <;> ((try intro h) <;> (try simp only [Bool.not_true, Bool.not_false] at h) <;> first | exact absurd h gF | exact absurd h.symm gF | conv => whnf))
    | (refine VL.drawS hTb hMix (by kernel_rfl) (by kernel_rfl) (by kernel_rfl) ?_; conv => whnf)
    | (refine Need.mk ?_; kernel_rfl) | (refine Need.mk ⟨rfl, ?_⟩; decide)
    | (refine VR.op hTb rfl rfl (o_index_imm hTb rfl rfl rfl rfl rfl rfl rfl (Int.natCast_nonneg _) ( hrow)) rfl ?_; conv => whnf)
    | (refine DT.op hTb rfl (o_index_imm hTb rfl rfl rfl rfl rfl rfl rfl (Int.natCast_nonneg _) ( hrow)) rfl ?_; conv => whnf)); all_goals (try simp only [List.get_eq_getElem] at *)
    · have h9 := h
      rw [hf, atGo_step hlt, if_pos h9]; rfl
    · have h9 := h
      refine ⟨i + 1, ⟨hlt, ?_⟩, by omega, wk_to [] rfl rfl rfl ⟨rfl, rfl, congrArg (fun x => Slot.one (.g (.int .i64 x))) (wrap64' (by omega)), trivial⟩ trivial⟩
      rw [hf, atGo_step hlt, if_neg (by rw [h9]; simp)]
  · (conv => whnf)
    rw [hf, atGo_end (by simp at h2; omega)]; rfl
def nmBox (s : ByteArray) : Ob := .box [.g (.string s)]
theorem c_colAt1 (c : Col) (s : ByteArray) : CallsV Tryz.prog 125 [.agg (encCol c), .one (.ptr 0 0)] [nmBox s] (funQ (bS (c.name.toList == s.toList)) [some (nmBox s)] []) := by
  refine fun_walk hTb Tryz.func125 rfl rfl Tryz.ntmps125 (by simp) (by simp) ?_
  (conv => whnf)
  exact endG [] rfl rfl rfl rfl rfl ⟨rfl, rfl, rfl⟩
theorem c_indexFunc (cs : List Col) (s : ByteArray) (hl : cs.length ≤ maxLen) : CallsV Tryz.prog 124 [colsI cs, .one (.clo 125 [0])] [nmBox s] (funQ (iS (nameAt cs s)) [some (nmBox s)] []) := by
  refine fun_walk hTb Tryz.func124 rfl rfl Tryz.ntmps124 (by simp) (by simp) ?_
  (conv => whnf)
  refine VL.loopI hTb (fun i => i ≤ cs.length ∧ nameAt cs s = atGo s (cs.drop i) i) (fun i => ⟨[(0, colsI cs), (1, .one (.clo 125 [0])), (7, iS ((cs.map encCol).length : Nat)), (8, iS i)], [(0, nmBox s)], []⟩) (fun i => cs.length - i) 0 ⟨Nat.zero_le _, rfl⟩
    (wk_to [(0, 0)] rfl rfl rfl ⟨rfl, rfl, rfl, rfl, trivial⟩ ⟨rfl, ⟨_, rfl, rfl⟩, trivial⟩) (fun i hi => ?_)
  obtain ⟨hi, hf⟩ := hi
  (conv => whnf)
  refine And.intro (fun h2 => ?_) (fun h2 => ?_)
  · have hlt : i < cs.length := by simpa using h2
    have hrow := row_at hlt
    (conv => whnf); repeat' (first
    | (refine And.intro ?_ ?_ <;> ((try intro h) <;> (try simp only [Bool.not_true, Bool.not_false] at h) <;> first | exact absurd h gF | exact absurd h.symm gF | conv => whnf))
    | (refine VL.drawS hTb hMix (by kernel_rfl) (by kernel_rfl) (by kernel_rfl) ?_; conv => whnf)
    | (refine Need.mk ?_; kernel_rfl) | (refine Need.mk ⟨rfl, ?_⟩; decide)
    | (refine VR.op hTb rfl rfl (o_index_imm hTb rfl rfl rfl rfl rfl rfl rfl (Int.natCast_nonneg _) ( hrow)) rfl ?_; conv => whnf)
    | (refine DT.op hTb rfl (o_index_imm hTb rfl rfl rfl rfl rfl rfl rfl (Int.natCast_nonneg _) ( hrow)) rfl ?_; conv => whnf)); all_goals (try simp only [List.get_eq_getElem] at *)
    refine VR.fun hTb rfl rfl (o_funN (c_colAt1 cs[i] s) true [0] (fun _ => ⟨rfl, by simp [nmBox, GrO, GrL, isMem], by simp⟩) (by simp) rfl rfl rfl rfl rfl gQ rfl rfl) ?_
    (conv => whnf); repeat' ((first | (refine And.intro ?_ ?_ <;> ((try intro h) <;> (try simp only [Bool.not_true, Bool.not_false] at h) <;> first | exact absurd h gF | exact absurd h.symm gF | conv => whnf))) <;> conv => whnf)
    · have h9 := h
      refine endG [] rfl rfl rfl rfl rfl ⟨?_, rfl, rfl⟩
      rw [hf, atGo_step hlt, if_pos h9]; rfl
    · have h9 := h
      refine ⟨i + 1, ⟨hlt, ?_⟩, by omega, wk_to [(0, 0)] rfl rfl rfl ⟨rfl, rfl, rfl, congrArg (fun x => Slot.one (.g (.int .i64 x))) (wrap64' (by omega)), trivial⟩ ⟨rfl, ⟨_, rfl, rfl⟩, trivial⟩⟩
      rw [hf, atGo_step hlt, if_neg (by rw [h9]; simp)]
  · (conv => whnf)
    refine endG [] rfl rfl rfl rfl rfl ⟨?_, rfl, rfl⟩
    rw [hf, atGo_end (by simp at h2; omega)]; rfl
theorem c_colAt (cs : List Col) (s : ByteArray) (hl : cs.length ≤ maxLen) : CallsV Tryz.prog 55 [colsI cs, strS s] [] (pureQ (iS (nameAt cs s))) := by
  refine pure_walk hTb Tryz.func55 rfl rfl Tryz.ntmps55 (by simp) ?_
  (conv => whnf)
  refine VR.fun hTb rfl rfl (o_funN (c_indexFunc cs s hl) true [103] (fun _ => ⟨rfl, by simp [nmBox, GrO, GrL, isMem], by simp⟩) (by simp) rfl rfl rfl rfl rfl gQ rfl rfl) ?_
  (conv => whnf)
  rfl
def okGo (all : List Col) : List Col → Nat → Bool
  | [], _ => true
  | c :: cs, i => colOk c && nameAt all c.name == (i : Int) && okGo all cs (i + 1)
theorem okGo_step {all cs : List Col} {i : Nat} (h : i < cs.length) : okGo all (cs.drop i) i = (colOk cs[i] && nameAt all cs[i].name == (i : Int) && okGo all (cs.drop (i + 1)) (i + 1)) := by
  rw [List.drop_eq_getElem_cons h, okGo]
theorem okGo_end {all cs : List Col} {i : Nat} (h : cs.length ≤ i) : okGo all (cs.drop i) i = true := by
  rw [List.drop_of_length_le h, okGo]
def shapeOk (cs : List Col) : Bool := okGo cs cs 0 && (decide (1 ≤ ((cs.map encCol).length : Int)) && decide (((cs.map encCol).length : Int) ≤ 5))
theorem c_specShapeOk (cs : List Col) (hl : cs.length ≤ maxLen) (ho : ∀ c ∈ cs, c.ok) : CallsV Tryz.prog 85 [colsI cs] [] (pureQ (bS (shapeOk cs))) := by
  refine pure_walk hTb Tryz.func85 rfl rfl Tryz.ntmps85 (by simp) ?_
  (conv => whnf)
  refine VL.loopI hTb (fun i => i ≤ cs.length ∧ okGo cs cs 0 = okGo cs (cs.drop i) i) (fun i => ⟨[(0, colsI cs), (3, iS i)], [], []⟩) (fun i => cs.length - i) 0 ⟨Nat.zero_le _, rfl⟩
    (wk_to [] rfl rfl rfl ⟨rfl, rfl, trivial⟩ trivial) (fun i hi => ?_)
  obtain ⟨hi, hf⟩ := hi
  (conv => whnf)
  refine And.intro (fun h2 => ?_) (fun h2 => ?_)
  · have hlt : i < cs.length := by simpa using h2
    have hrow := row_at hlt
    (conv => whnf); repeat' (first
    | (refine And.intro ?_ ?_ <;> ((try intro h) <;> (try simp only [Bool.not_true, Bool.not_false] at h) <;> first | exact absurd h gF | exact absurd h.symm gF | conv => whnf))
    | (refine VL.drawS hTb hMix (by kernel_rfl) (by kernel_rfl) (by kernel_rfl) ?_; conv => whnf)
    | (refine Need.mk ?_; kernel_rfl) | (refine Need.mk ⟨rfl, ?_⟩; decide)
    | (refine VR.op hTb rfl rfl (o_index_imm hTb rfl rfl rfl rfl rfl rfl rfl (Int.natCast_nonneg _) ( hrow)) rfl ?_; conv => whnf)
    | (refine DT.op hTb rfl (o_index_imm hTb rfl rfl rfl rfl rfl rfl rfl (Int.natCast_nonneg _) ( hrow)) rfl ?_; conv => whnf)
    | (refine VR.pure hTb rfl rfl (o_purN (c_specColOk cs[i] (ho _ (List.getElem_mem hlt))) rfl rfl rfl gQ rfl) ?_; conv => whnf)
    | (refine DT.pure hTb rfl (o_purN (c_specColOk cs[i] (ho _ (List.getElem_mem hlt))) rfl rfl rfl gQ rfl) ?_; conv => whnf)
    | (refine VR.pure hTb rfl rfl (o_purN (c_l2At cs _ hl) rfl rfl rfl gQ rfl) ?_; conv => whnf)
    | (refine DT.pure hTb rfl (o_purN (c_l2At cs _ hl) rfl rfl rfl gQ rfl) ?_; conv => whnf)); all_goals (try simp only [List.get_eq_getElem] at *)
    all_goals first
      | (refine ⟨i + 1, ⟨hlt, ?_⟩, by omega, wk_to [] rfl rfl rfl ⟨rfl, congrArg (fun x => Slot.one (.g (.int .i64 x))) (wrap64' (by omega)), trivial⟩ trivial⟩
         rw [hf, okGo_step hlt]
         simp_all; done)
      | (simp only [bS, shapeOk, hf, okGo_step hlt]
         simp_all; done)
  · (conv => whnf)
    have hf2 : okGo cs cs 0 = true := by rw [hf, okGo_end (by simp at h2; omega)]
    (conv => whnf); repeat' ((first | (refine And.intro ?_ ?_ <;> ((try intro h) <;> (try simp only [Bool.not_true, Bool.not_false] at h) <;> first | exact absurd h gF | exact absurd h.symm gF | conv => whnf))) <;> conv => whnf)
    all_goals (simp only [bS, shapeOk, hf2]; simp_all)
    all_goals (try (intro; omega))
theorem c_implShapeOk (cs : List Col) (hl : cs.length ≤ maxLen) (ho : ∀ c ∈ cs, c.ok) : CallsV Tryz.prog 30 [colsI cs] [] (pureQ (bS (shapeOk cs))) := by
  refine pure_walk hTb Tryz.func30 rfl rfl Tryz.ntmps30 (by simp) ?_
  (conv => whnf)
  refine VL.loopI hTb (fun i => i ≤ cs.length ∧ okGo cs cs 0 = okGo cs (cs.drop i) i) (fun i => ⟨[(0, colsI cs), (5, colsI cs), (6, iS ((cs.map encCol).length : Nat)), (7, iS i)], [], []⟩) (fun i => cs.length - i) 0 ⟨Nat.zero_le _, rfl⟩
    (wk_to [] rfl rfl rfl ⟨rfl, rfl, rfl, rfl, trivial⟩ trivial) (fun i hi => ?_)
  obtain ⟨hi, hf⟩ := hi
  (conv => whnf)
  refine And.intro (fun h2 => ?_) (fun h2 => ?_)
  · have hlt : i < cs.length := by simpa using h2
    have hrow := row_at hlt
    (conv => whnf); repeat' (first
    | (refine And.intro ?_ ?_ <;> ((try intro h) <;> (try simp only [Bool.not_true, Bool.not_false] at h) <;> first | exact absurd h gF | exact absurd h.symm gF | conv => whnf))
    | (refine VL.drawS hTb hMix (by kernel_rfl) (by kernel_rfl) (by kernel_rfl) ?_; conv => whnf)
    | (refine Need.mk ?_; kernel_rfl) | (refine Need.mk ⟨rfl, ?_⟩; decide)
    | (refine VR.op hTb rfl rfl (o_index_imm hTb rfl rfl rfl rfl rfl rfl rfl (Int.natCast_nonneg _) ( hrow)) rfl ?_; conv => whnf)
    | (refine DT.op hTb rfl (o_index_imm hTb rfl rfl rfl rfl rfl rfl rfl (Int.natCast_nonneg _) ( hrow)) rfl ?_; conv => whnf)
    | (refine VR.pure hTb rfl rfl (o_purN (c_implColOk cs[i] (ho _ (List.getElem_mem hlt))) rfl rfl rfl gQ rfl) ?_; conv => whnf)
    | (refine DT.pure hTb rfl (o_purN (c_implColOk cs[i] (ho _ (List.getElem_mem hlt))) rfl rfl rfl gQ rfl) ?_; conv => whnf)
    | (refine VR.pure hTb rfl rfl (o_purN (c_colAt cs _ hl) rfl rfl rfl gQ rfl) ?_; conv => whnf)
    | (refine DT.pure hTb rfl (o_purN (c_colAt cs _ hl) rfl rfl rfl gQ rfl) ?_; conv => whnf)); all_goals (try simp only [List.get_eq_getElem] at *)
    all_goals first
      | (refine ⟨i + 1, ⟨hlt, ?_⟩, by omega, wk_to [] rfl rfl rfl ⟨rfl, rfl, rfl, congrArg (fun x => Slot.one (.g (.int .i64 x))) (wrap64' (by omega)), trivial⟩ trivial⟩
         rw [hf, okGo_step hlt]
         simp_all; done)
      | (simp only [bS, shapeOk, hf, okGo_step hlt]
         simp_all; done)
  · have hf2 : okGo cs cs 0 = true := by rw [hf, okGo_end (by simp at h2; omega)]
    (conv => whnf); repeat' (first
    | (refine And.intro ?_ ?_ <;> ((try intro h) <;> (try simp only [Bool.not_true, Bool.not_false] at h) <;> first | exact absurd h gF | exact absurd h.symm gF | conv => whnf))
    | (refine VL.drawS hTb hMix (by kernel_rfl) (by kernel_rfl) (by kernel_rfl) ?_; conv => whnf)
    | (refine Need.mk ?_; kernel_rfl) | (refine Need.mk ⟨rfl, ?_⟩; decide)
    | (refine VR.pure hTb rfl rfl (o_purN (c_in _ _ _) rfl rfl rfl gQ rfl) ?_; conv => whnf)
    | (refine DT.pure hTb rfl (o_purN (c_in _ _ _) rfl rfl rfl gQ rfl) ?_; conv => whnf))
    all_goals (simp only [bS, shapeOk, hf2]; simp_all)
def Val.sml (v : Val) : Prop := v.t.size ≤ 8
def Col.sml (c : Col) : Prop := c.name.size ≤ 8 ∧ c.d.t.size ≤ 8
theorem Col.sml.ok {c : Col} (h : c.sml) : c.ok := ⟨by have := h.1; unfold maxLen; omega, by have := h.2; unfold maxLen; omega⟩
def smlCols (l : List Col) : Prop := ∀ x ∈ l, x.sml
theorem c_l2Names : CallsV Tryz.prog 65 [] [] (relQ (fun rows : List (List Leaf) => strRows (fun t => t.size ≤ 8) rows ∧ 0 < rows.length) (fun rows => .one (.imm 1 rows)) (fun _ => []) (fun _ => [])) := by
  refine funF_walk hTb Tryz.func65 rfl rfl Tryz.ntmps65 (by simp) (by simp) ?_
  (conv => whnf)
  exact endR [] _ rfl rfl rfl rfl rfl (LeS.refl _) rfl rfl ⟨by simp [strRows]; decide, by decide⟩
theorem c_l2Col {bs : List Int} (hb : BOk bs) (p : Nat) (s : ByteArray) (hs : s.size ≤ 8) (hp : p ≤ 1099511500000) : CallsV Tryz.prog 185 [rdS, .one (.g (.string s))] [rdO bs p]
    (relQ (fun y : Col × Nat => y.1.name = s ∧ y.1.d.t.size ≤ 8 ∧ y.2 ≤ p + 5) (fun y => .agg (encCol y.1)) (fun y => [some (rdO bs y.2)]) (fun _ => [])) := by
  have e0 := bs0
  refine funF_walk hTb Tryz.func185 rfl rfl Tryz.ntmps185 (by simp) (by simp) ?_
  (conv => whnf); repeat' ((first | (refine And.intro ?_ ?_ <;> ((try intro h) <;> (try simp only [gS] at h) <;> first | exact absurd h gF | exact absurd h.symm gF | conv => whnf)) | (refine VR.rel hTb rfl rfl (o_relN (c_pick hb _ _ (by omega)) false [0] (fun _ _ => ⟨by simp, gN⟩) rfl rfl rfl rfl rfl gQ rfl rfl) ?_; intro y hy) | (refine VR.rel hTb rfl rfl (o_relN (c_l1Some hb _ _ (by omega)) false [0] (fun _ _ => ⟨by simp, gN⟩) rfl rfl rfl rfl rfl gQ rfl rfl) ?_; rintro ⟨⟨k, n, t⟩, q⟩ hy; (try simp only at hy))) <;> conv => whnf)
  all_goals exact endR [] (⟨_, _, _, _, ⟨_, _, _⟩⟩, _) rfl rfl rfl rfl rfl (LeS.refl _) rfl rfl ⟨rfl, (by first | omega | decide | (simp_all; done) | (simp_all; omega)), (by first | omega | decide | (simp_all; done) | (simp_all; omega))⟩
theorem c_l2Shape {bs : List Int} (hb : BOk bs) (p : Nat) (hp : p ≤ 1099511400000) : CallsV Tryz.prog 131 [rdS] [rdO bs p]
    (relQ (fun y : List Col × Nat => smlCols y.1 ∧ 1 ≤ y.1.length ∧ y.1.length ≤ 4 ∧ y.2 ≤ p + 25) (fun y => colsI y.1) (fun y => [some (rdO bs y.2)]) (fun _ => [])) := by
  refine funF_walk hTb Tryz.func131 rfl rfl Tryz.ntmps131 (by simp) (by simp) ?_
  (conv => whnf); repeat' ((first | (refine VR.rel hTb rfl rfl (o_relN (c_pick hb _ _ (by omega)) false [0] (fun _ _ => ⟨by simp, gN⟩) rfl rfl rfl rfl rfl gQ rfl rfl) ?_; intro y hy)) <;> conv => whnf)
  have e1 : IntKind.i64.wrap (1 + y) = 1 + y := by rw [IntKind.wrap_i64]; omega
  rw [e1]
  refine VL.loopI hTb (fun (⟨k, cs, q⟩ : Nat × List Col × Nat) => k ≤ 4 ∧ smlCols cs ∧ cs.length + k ≤ 4 ∧ (cs = [] → 1 ≤ k) ∧ q + 6 * k ≤ p + 25)
    (fun ⟨k, cs, q⟩ => ⟨[(0, rdS), (3, .one (.own 106 0 cs.length)), (4, iS k)], [(0, rdO bs q), (106, .arr 39 7 (cs.map encCol))], []⟩) (fun x => x.1) (1 + y.toNat, [], p + 1) ⟨by omega, (fun x hx => by cases hx), by simp; omega, fun _ => by omega, by omega⟩
    (wk_to [(0, 0), (106, 106)] rfl rfl rfl ⟨rfl, rfl, congrArg (fun x => Slot.one (.g (.int .i64 x))) (by omega), trivial⟩ ⟨rfl, ⟨_, rfl, rfl⟩, rfl, ⟨_, rfl, rfl⟩, trivial⟩) (fun x hx => ?_)
  obtain ⟨k, cs, q⟩ := x
  obtain ⟨i1, i2, i3, i4, i5⟩ := hx
  (conv => whnf); repeat' ((first | (refine And.intro ?_ ?_ <;> ((try intro h) <;> (try simp only [gS] at h) <;> first | exact absurd h gF | exact absurd h.symm gF | conv => whnf)) | (refine VR.rel hTb rfl rfl (o_relN (c_l2Names) false [] (fun _ _ => ⟨by simp, gN⟩) rfl rfl rfl rfl rfl gQ rfl rfl) ?_; rintro rows hrows; (try simp only at hrows)) | (refine VR.rel hTb rfl rfl (o_relN (c_ofI hb _ _ (fun t => t.size ≤ 8) hrows.1 hrows.2 (by omega)) false [0] (fun _ _ => ⟨by simp, gN⟩) rfl rfl rfl rfl rfl gQ rfl rfl) ?_; rintro nm hnm; (try simp only at hnm)) | (refine VR.rel hTb rfl rfl (o_relN (c_l2Col hb _ _ hnm (by omega)) false [0] (fun _ _ => ⟨by simp, gN⟩) rfl rfl rfl rfl rfl gQ rfl rfl) ?_; rintro ⟨⟨cn, ck, c1, c2, ⟨c3, c4, c5⟩⟩, q2⟩ hc; (try simp only at hc)) | (refine VR.pure hTb rfl rfl (o_purN (c_l2At cs _ (by unfold maxLen; omega)) rfl rfl rfl gQ (congrArg (fun s => [s, _]) brw)) ?_)) <;> conv => whnf)
  · refine VR.opk hTb rfl rfl (o_app1 (q := 127) (a := ⟨cn, ck, c1, c2, ⟨c3, c4, c5⟩⟩) hTb rfl rfl rfl rfl rfl rfl rfl rfl rfl rfl rfl rfl (by omega) (by show _ * 64 ≤ _; omega) (by unfold maxLen; omega)) ?_
    (conv => whnf)
    refine ⟨(k - 1, cs ++ [⟨cn, ck, c1, c2, ⟨c3, c4, c5⟩⟩], q2), ⟨by omega, ?_, by simp; omega, fun h => by simp at h, by omega⟩, by show k - 1 < k; omega,
      wk_to [(0, 0), (127, 106)] rfl rfl rfl ⟨rfl, congrArg (fun n => Slot.one (.own 106 0 n)) (by simp), congrArg (fun x => Slot.one (.g (.int .i64 x))) (by rw [IntKind.wrap_i64]; omega), trivial⟩ ⟨rfl, ⟨_, rfl, rfl⟩, rfl, ⟨_, rfl, rfl⟩, trivial⟩⟩
    intro x hx
    rcases List.mem_append.1 hx with hx | hx
    · exact i2 x hx
    · simp at hx; subst hx; exact ⟨by have := hc.1; simp only; rw [this]; exact hnm, hc.2.1⟩
  · refine ⟨(k - 1, cs, q2), ⟨by omega, i2, by omega, fun h0 => ?_, by omega⟩, by show k - 1 < k; omega,
      wk_to [(0, 0), (106, 106)] rfl rfl rfl ⟨rfl, rfl, congrArg (fun x => Slot.one (.g (.int .i64 x))) (by rw [IntKind.wrap_i64]; omega), trivial⟩ ⟨rfl, ⟨_, rfl, rfl⟩, rfl, ⟨_, rfl, rfl⟩, trivial⟩⟩
    exfalso
    subst h0
    have e : nameAt [] cn = -1 := rfl
    rw [e] at h
    simp at h
  · have hk : k = 0 := by simp at h; omega
    have hn : cs ≠ [] := fun h0 => by have := i4 h0; omega
    exact endR [] (cs, q) rfl rfl rfl rfl rfl (LeS.of_eq brw) rfl rfl ⟨i2, List.length_pos_iff.2 hn, (by show cs.length ≤ 4; omega), (by show q ≤ p + 25; omega)⟩
theorem smlCols.set {l : List Col} (h : smlCols l) {i : Nat} {c : Col} (hc : c.sml) : smlCols (l.set i c) := by
  intro x hx
  rcases List.mem_or_eq_of_mem_set hx with hx | rfl
  · exact h x hx
  · exact hc
theorem smlCols.app {l : List Col} (h : smlCols l) {c : Col} (hc : c.sml) : smlCols (l ++ [c]) := by
  intro x hx
  rcases List.mem_append.1 hx with hx | hx
  · exact h x hx
  · simp at hx; subst hx; exact hc
theorem c_l2Bent {bs : List Int} (hb : BOk bs) (p : Nat) (l : List Col) (hl : smlCols l) (hn : l.length ≤ 1000) (hp : p ≤ 1099511300000) : CallsV Tryz.prog 133 [rdS, colsI l] [rdO bs p]
    (relQ (fun y : List Col × Nat => smlCols y.1 ∧ y.1.length ≤ l.length + 1 ∧ y.2 ≤ p + 10) (fun y => colsI y.1) (fun y => [some (rdO bs y.2)]) (fun _ => [])) := by
  refine funF_walk hTb Tryz.func133 rfl rfl Tryz.ntmps133 (by simp) (by simp) ?_
  (conv => whnf)
  refine VR.opk hTb rfl rfl (o_app0 (f := encCol) (m := l) (q := 109) hTb rfl rfl rfl rfl rfl rfl rfl rfl rfl rfl (by omega) (by show _ * 64 ≤ _; omega) (by unfold maxLen; omega)) ?_
  (conv => whnf); repeat' ((first | (refine And.intro ?_ ?_ <;> ((try intro h) <;> (try simp only [Bool.not_true, Bool.not_false] at h) <;> first | exact absurd h gF | exact absurd h.symm gF | conv => whnf))) <;> conv => whnf)
  · exact endR [] (l, p) rfl rfl rfl rfl rfl (LeS.of_eq (brwG (by simp))) rfl rfl ⟨hl, by simp, by simp⟩
  have hpos : 0 < l.length := by simp at h; exact List.length_pos_iff.2 h
  clear h
  have e0 := bs0
  (conv => whnf); repeat' ((first | (refine And.intro ?_ ?_ <;> ((try intro h) <;> (try simp only [gS] at h) <;> first | exact absurd h gF | exact absurd h.symm gF | conv => whnf)) | (refine VR.rel hTb rfl rfl (o_relN (c_pick hb _ (l.length : Int) (by omega)) false [0] (fun _ _ => ⟨by simp, gN⟩) rfl rfl rfl rfl rfl gQ rfl rfl) ?_; rintro k hk; (try simp only at hk)) | (refine VR.rel hTb rfl rfl (o_relN (c_pick hb _ 60 (by omega)) false [0] (fun _ _ => ⟨by simp, gN⟩) rfl rfl rfl rfl rfl gQ rfl rfl) ?_; rintro w hw; (try simp only at hw)) | (refine VR.rel hTb rfl rfl (o_relN (c_of hb _ _ _ (fun t => t.size ≤ 8) (by simp [strRows]; decide) (by simp) (by omega)) false [0, 125] (fun _ _ => ⟨by simp, gN⟩) rfl rfl rfl rfl rfl gQ rfl rfl) ?_; rintro nm hnm; (try simp only at hnm)) | (refine VR.rel hTb rfl rfl (o_relN (c_num hb _ _ _ (fun _ => True) (by simp [intRows]) (by simp) (by omega)) false [0, 134] (fun _ _ => ⟨by simp, gN⟩) rfl rfl rfl rfl rfl gQ rfl rfl) ?_; rintro nb hnb; (try simp only at hnb)) | (refine VR.rel hTb rfl rfl (o_relN (c_l1Draw hb _ (by omega)) false [0] (fun _ _ => ⟨by simp, gN⟩) rfl rfl rfl rfl rfl gQ rfl rfl) ?_; rintro ⟨⟨vk, vn, vt⟩, q⟩ hv; (try simp only at hv)) | (refine Need.mk ?_; exact ⟨rfl, by omega, by omega⟩) | (refine VR.op hTb rfl rfl (o_storeM hTb rfl rfl rfl rfl rfl (List.getElem?_eq_getElem (show 0 + k.toNat < l.length by omega)) rfl rfl rfl ⟨rfl, by decide⟩ (c' := ⟨_, _, _, _, ⟨_, _, _⟩⟩) rfl) rfl ?_) | (refine VR.op hTb rfl rfl (o_loadM hTb rfl rfl rfl rfl (List.getElem?_eq_getElem (show 0 + k.toNat < l.length by omega)) ⟨by decide, by decide⟩) rfl ?_) | (refine VR.opk hTb rfl rfl (o_app1 (q := 154) (a := ⟨_, _, _, _, ⟨_, _, _⟩⟩) hTb rfl rfl rfl rfl rfl rfl rfl rfl rfl rfl rfl rfl (by omega) (by show _ * 64 ≤ _; omega) (by unfold maxLen; omega)) ?_)) <;> conv => whnf)
  all_goals
    have hke : 0 + k.toNat < l.length := by omega
    have hcs : (l[0 + k.toNat]).sml := hl _ (List.getElem_mem hke)
    first
      | refine endR [] (_, _) rfl rfl rfl rfl rfl (LeS.of_eq (brwG (by simp))) rfl rfl ⟨?_, ?_, ?_⟩
      | refine endR [] ([], _) rfl rfl rfl rfl rfl (LeS.refl _) rfl rfl ⟨?_, ?_, ?_⟩
  all_goals first
    | exact hl
    | exact smlCols.set hl ⟨hcs.1, hcs.2⟩
    | exact smlCols.set hl ⟨hnm, hcs.2⟩
    | exact smlCols.set hl ⟨hcs.1, hv.1⟩
    | exact smlCols.app hl ⟨hcs.1, hcs.2⟩
    | (intro x hx; cases hx; done)
    | (simp only [List.length_set, List.length_append, List.length_cons, List.length_nil]; omega)
    | omega
def smlVals (l : List Val) : Prop := ∀ x ∈ l, x.t.size ≤ 8
theorem smlVals.set {l : List Val} (h : smlVals l) {i : Nat} {c : Val} (hc : c.t.size ≤ 8) : smlVals (l.set i c) := by
  intro x hx
  rcases List.mem_or_eq_of_mem_set hx with hx | rfl
  · exact h x hx
  · exact hc
theorem smlVals.app {l : List Val} (h : smlVals l) {c : Val} (hc : c.t.size ≤ 8) : smlVals (l ++ [c]) := by
  intro x hx
  rcases List.mem_append.1 hx with hx | hx
  · exact h x hx
  · simp at hx; subst hx; exact hc
theorem smlVals.drop {l : List Val} (h : smlVals l) (n : Nat) : smlVals (l.drop n) := fun x hx => h x (List.mem_of_mem_drop hx)
theorem BOk.of {bs : List Int} (hb : ∀ x ∈ bs, 0 ≤ x ∧ x < 256) : BOk (bs.take 2000) := ⟨fun x hx => hb x (List.mem_of_mem_take hx), by simp; omega⟩
end Go.Vl
