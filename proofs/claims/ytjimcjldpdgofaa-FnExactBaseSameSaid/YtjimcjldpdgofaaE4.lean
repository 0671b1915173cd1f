/- When two things are one; contracts of what asks so. Printed by our own genq.py. -/
import Derived.Test.YtjimcjldpdgofaaE0
import Derived.Test.YtjimcjldpdgofaaVye
namespace Go.Vl
open Go Go.RowKit Go.Proofs
set_option maxRecDepth 100000
set_option maxHeartbeats 2000000
def q_Val (a b : Val) : Bool := ((a.k == b.k) && ((a.n == b.n) && ((a.t.toList == b.t.toList) && true)))
def q_Col (a b : Col) : Bool := ((a.name.toList == b.name.toList) && ((a.kind == b.kind) && ((a.need == b.need) && ((a.once == b.once) && ((q_Val a.d b.d) && true)))))
def q_Change (a b : Change) : Bool := ((a.kind == b.kind) && ((a.name.toList == b.name.toList) && ((a.new.toList == b.new.toList) && ((q_Col a.col b.col) && true))))
def q_VLink (a b : VLink) : Bool := ((a.src.toList == b.src.toList) && ((a.col.toList == b.col.toList) && ((a.dst.toList == b.dst.toList) && ((a.how == b.how) && true))))
def q_VRef (a b : VRef) : Bool := ((a.name.toList == b.name.toList) && ((a.id == b.id) && true))
def q_VSet (a b : VSet) : Bool := ((a.name.toList == b.name.toList) && ((q_Val a.val b.val) && true))
def leq {α : Type} (f : α → α → Bool) : List α → List α → Bool
  | a :: us, b :: bs => f a b && leq f us bs
  | [], [] => true
  | _, _ => false
section
variable {α : Type} {f : α → α → Bool} {us bs : List α}
theorem leq_step {i : Nat} (h1 : i < us.length) (h2 : i < bs.length) : leq f (us.drop i) (bs.drop i) = (f us[i] bs[i] && leq f (us.drop (i + 1)) (bs.drop (i + 1))) := by
  rw [List.drop_eq_getElem_cons h1, List.drop_eq_getElem_cons h2, leq]
theorem leq_end {i : Nat} (h1 : us.length ≤ i) (h2 : bs.length ≤ i) : leq f (us.drop i) (bs.drop i) = true := by
  rw [List.drop_of_length_le h1, List.drop_of_length_le h2, leq]
theorem leq_len : ∀ {us bs : List α}, us.length ≠ bs.length → leq f us bs = false
  | [], [], h => absurd rfl h
  | [], _ :: _, _ => rfl
  | _ :: _, [], _ => rfl
  | a :: us, b :: bs, h => by rw [leq, leq_len (by simpa using h), Bool.and_false]
end
def q_VRow (a b : VRow) : Bool := (a.id == b.id) && ((a.ver == b.ver) && leq q_Val a.vals b.vals)
def q_VTable (a b : VTable) : Bool := leq q_Col a.first b.first && (leq q_Change a.changes b.changes && ((a.next == b.next) && leq q_VRow a.rows b.rows))
def q_VTab (a b : VTab) : Bool := (a.name.toList == b.name.toList) && q_VTable a.table b.table
def q_VBase (a b : VBase) : Bool := leq q_VLink a.links b.links && leq q_VTab a.tabs b.tabs
theorem q_EqVals (us bs : List Val) (ha : us.length ≤ maxLen) : CallsV Try.prog 40 [valsI us, valsI bs] [] (pureQ (bS (leq q_Val us bs))) := by
  refine pure_walk hTb Try.func40 rfl rfl Try.ntmps40 (by simp) ?_
  (conv => whnf); repeat' (first | (refine And.intro ?_ ?_ <;> ((try intro h) <;> (try simp only [Bool.not_true, Bool.not_false] at h) <;> first | exact absurd h Bool.false_ne_true | exact absurd h.symm Bool.false_ne_true | conv => whnf)) | (refine Need.mk ?_; kernel_rfl) | (refine Need.mk ⟨rfl, ?_⟩; decide))
  · rw [leq_len (by simp at h; omega)]; rfl
  have hl : us.length = bs.length := by simp at h; omega
  refine VL.loopI hTb (fun i => i ≤ us.length ∧ leq q_Val us bs = leq q_Val (us.drop i) (bs.drop i)) (fun i => ⟨[(0, valsI us), (1, valsI bs), (12, iS ((us.map encVal).length : Nat)), (13, iS i)], [], []⟩) (fun i => us.length - i) 0 ⟨Nat.zero_le _, rfl⟩
    (wk_to [] rfl rfl rfl ⟨rfl, rfl, rfl, rfl, trivial⟩ trivial) (fun i hi => ?_)
  obtain ⟨hi, hf⟩ := hi
  (conv => whnf)
  refine And.intro (fun h2 => ?_) (fun h2 => ?_)
  · have hlt : i < us.length := by simpa using h2
    have hlt2 : i < bs.length := by omega
    have hrow := rowVal hlt
    have hrow2 := rowVal hlt2
    have hs := leq_step (f := q_Val) hlt hlt2
    skip
    generalize hci : us[i] = ci at *
    generalize hdi : bs[i] = di at *
    obtain ⟨a_k, a_n, a_t⟩ := ci
    obtain ⟨b_k, b_n, b_t⟩ := di
    (conv => whnf); repeat' (first
    | (refine And.intro ?_ ?_ <;> ((try intro h) <;> (try simp only [Bool.not_true, Bool.not_false] at h) <;> first | exact absurd h Bool.false_ne_true | exact absurd h.symm Bool.false_ne_true | conv => whnf))
    | (refine VL.drawS hTb hMix (by kernel_rfl) (by kernel_rfl) (by kernel_rfl) ?_; conv => whnf)
    | (refine Need.mk ?_; kernel_rfl) | (refine Need.mk ⟨rfl, ?_⟩; decide)
    | (refine VR.op hTb rfl rfl (o_index_imm hTb rfl rfl rfl rfl rfl rfl rfl (by omega) (hrow)) rfl ?_; conv => whnf)
    | (refine DT.op hTb rfl (o_index_imm hTb rfl rfl rfl rfl rfl rfl rfl (by omega) (hrow)) rfl ?_; conv => whnf)
    | (refine VR.op hTb rfl rfl (o_index_imm hTb rfl rfl rfl rfl rfl rfl rfl (by omega) (hrow2)) rfl ?_; conv => whnf)
    | (refine DT.op hTb rfl (o_index_imm hTb rfl rfl rfl rfl rfl rfl rfl (by omega) (hrow2)) rfl ?_; conv => whnf))
    · rw [hf, hs]
      have e : q_Val ⟨a_k, a_n, a_t⟩ ⟨b_k, b_n, b_t⟩ = false := by have e : (!q_Val ⟨a_k, a_n, a_t⟩ ⟨b_k, b_n, b_t⟩) = true := h; simpa using e
      rw [e]; rfl
    · refine ⟨i + 1, ⟨hlt, ?_⟩, by omega, wk_to [] rfl rfl rfl ⟨rfl, rfl, rfl, congrArg (fun x => Slot.one (.g (.int .i64 x))) (wrap64' (by omega)), trivial⟩ trivial⟩
      have e : q_Val ⟨a_k, a_n, a_t⟩ ⟨b_k, b_n, b_t⟩ = true := by have e : (!q_Val ⟨a_k, a_n, a_t⟩ ⟨b_k, b_n, b_t⟩) = false := h; simpa using e
      rw [hf, hs, e, Bool.true_and]
  · (conv => whnf)
    have : i = us.length := by simp at h2; omega
    subst this
    rw [hf, leq_end (Nat.le_refl _) (by omega)]; rfl
theorem q_EqCols (us bs : List Col) (ha : us.length ≤ maxLen) : CallsV Try.prog 36 [colsI us, colsI bs] [] (pureQ (bS (leq q_Col us bs))) := by
  refine pure_walk hTb Try.func36 rfl rfl Try.ntmps36 (by simp) ?_
  (conv => whnf); repeat' (first | (refine And.intro ?_ ?_ <;> ((try intro h) <;> (try simp only [Bool.not_true, Bool.not_false] at h) <;> first | exact absurd h Bool.false_ne_true | exact absurd h.symm Bool.false_ne_true | conv => whnf)) | (refine Need.mk ?_; kernel_rfl) | (refine Need.mk ⟨rfl, ?_⟩; decide))
  · rw [leq_len (by simp at h; omega)]; rfl
  have hl : us.length = bs.length := by simp at h; omega
  refine VL.loopI hTb (fun i => i ≤ us.length ∧ leq q_Col us bs = leq q_Col (us.drop i) (bs.drop i)) (fun i => ⟨[(0, colsI us), (1, colsI bs), (12, iS ((us.map encCol).length : Nat)), (13, iS i)], [], []⟩) (fun i => us.length - i) 0 ⟨Nat.zero_le _, rfl⟩
    (wk_to [] rfl rfl rfl ⟨rfl, rfl, rfl, rfl, trivial⟩ trivial) (fun i hi => ?_)
  obtain ⟨hi, hf⟩ := hi
  (conv => whnf)
  refine And.intro (fun h2 => ?_) (fun h2 => ?_)
  · have hlt : i < us.length := by simpa using h2
    have hlt2 : i < bs.length := by omega
    have hrow := rowCol hlt
    have hrow2 := rowCol hlt2
    have hs := leq_step (f := q_Col) hlt hlt2
    skip
    generalize hci : us[i] = ci at *
    generalize hdi : bs[i] = di at *
    obtain ⟨a_name, a_kind, a_need, a_once, ⟨a_d_k, a_d_n, a_d_t⟩⟩ := ci
    obtain ⟨b_name, b_kind, b_need, b_once, ⟨b_d_k, b_d_n, b_d_t⟩⟩ := di
    (conv => whnf); repeat' (first
    | (refine And.intro ?_ ?_ <;> ((try intro h) <;> (try simp only [Bool.not_true, Bool.not_false] at h) <;> first | exact absurd h Bool.false_ne_true | exact absurd h.symm Bool.false_ne_true | conv => whnf))
    | (refine VL.drawS hTb hMix (by kernel_rfl) (by kernel_rfl) (by kernel_rfl) ?_; conv => whnf)
    | (refine Need.mk ?_; kernel_rfl) | (refine Need.mk ⟨rfl, ?_⟩; decide)
    | (refine VR.op hTb rfl rfl (o_index_imm hTb rfl rfl rfl rfl rfl rfl rfl (by omega) (hrow)) rfl ?_; conv => whnf)
    | (refine DT.op hTb rfl (o_index_imm hTb rfl rfl rfl rfl rfl rfl rfl (by omega) (hrow)) rfl ?_; conv => whnf)
    | (refine VR.op hTb rfl rfl (o_index_imm hTb rfl rfl rfl rfl rfl rfl rfl (by omega) (hrow2)) rfl ?_; conv => whnf)
    | (refine DT.op hTb rfl (o_index_imm hTb rfl rfl rfl rfl rfl rfl rfl (by omega) (hrow2)) rfl ?_; conv => whnf))
    · rw [hf, hs]
      have e : q_Col ⟨a_name, a_kind, a_need, a_once, ⟨a_d_k, a_d_n, a_d_t⟩⟩ ⟨b_name, b_kind, b_need, b_once, ⟨b_d_k, b_d_n, b_d_t⟩⟩ = false := by have e : (!q_Col ⟨a_name, a_kind, a_need, a_once, ⟨a_d_k, a_d_n, a_d_t⟩⟩ ⟨b_name, b_kind, b_need, b_once, ⟨b_d_k, b_d_n, b_d_t⟩⟩) = true := h; simpa using e
      rw [e]; rfl
    · refine ⟨i + 1, ⟨hlt, ?_⟩, by omega, wk_to [] rfl rfl rfl ⟨rfl, rfl, rfl, congrArg (fun x => Slot.one (.g (.int .i64 x))) (wrap64' (by omega)), trivial⟩ trivial⟩
      have e : q_Col ⟨a_name, a_kind, a_need, a_once, ⟨a_d_k, a_d_n, a_d_t⟩⟩ ⟨b_name, b_kind, b_need, b_once, ⟨b_d_k, b_d_n, b_d_t⟩⟩ = true := by have e : (!q_Col ⟨a_name, a_kind, a_need, a_once, ⟨a_d_k, a_d_n, a_d_t⟩⟩ ⟨b_name, b_kind, b_need, b_once, ⟨b_d_k, b_d_n, b_d_t⟩⟩) = false := h; simpa using e
      rw [hf, hs, e, Bool.true_and]
  · (conv => whnf)
    have : i = us.length := by simp at h2; omega
    subst this
    rw [hf, leq_end (Nat.le_refl _) (by omega)]; rfl
theorem q_EqChanges (us bs : List Change) (ha : us.length ≤ maxLen) : CallsV Try.prog 37 [changesI us, changesI bs] [] (pureQ (bS (leq q_Change us bs))) := by
  refine pure_walk hTb Try.func37 rfl rfl Try.ntmps37 (by simp) ?_
  (conv => whnf); repeat' (first | (refine And.intro ?_ ?_ <;> ((try intro h) <;> (try simp only [Bool.not_true, Bool.not_false] at h) <;> first | exact absurd h Bool.false_ne_true | exact absurd h.symm Bool.false_ne_true | conv => whnf)) | (refine Need.mk ?_; kernel_rfl) | (refine Need.mk ⟨rfl, ?_⟩; decide))
  · rw [leq_len (by simp at h; omega)]; rfl
  have hl : us.length = bs.length := by simp at h; omega
  refine VL.loopI hTb (fun i => i ≤ us.length ∧ leq q_Change us bs = leq q_Change (us.drop i) (bs.drop i)) (fun i => ⟨[(0, changesI us), (1, changesI bs), (12, iS ((us.map encChange).length : Nat)), (13, iS i)], [], []⟩) (fun i => us.length - i) 0 ⟨Nat.zero_le _, rfl⟩
    (wk_to [] rfl rfl rfl ⟨rfl, rfl, rfl, rfl, trivial⟩ trivial) (fun i hi => ?_)
  obtain ⟨hi, hf⟩ := hi
  (conv => whnf)
  refine And.intro (fun h2 => ?_) (fun h2 => ?_)
  · have hlt : i < us.length := by simpa using h2
    have hlt2 : i < bs.length := by omega
    have hrow := rowChange hlt
    have hrow2 := rowChange hlt2
    have hs := leq_step (f := q_Change) hlt hlt2
    skip
    generalize hci : us[i] = ci at *
    generalize hdi : bs[i] = di at *
    obtain ⟨a_kind, a_name, a_new, ⟨a_col_name, a_col_kind, a_col_need, a_col_once, ⟨a_col_d_k, a_col_d_n, a_col_d_t⟩⟩⟩ := ci
    obtain ⟨b_kind, b_name, b_new, ⟨b_col_name, b_col_kind, b_col_need, b_col_once, ⟨b_col_d_k, b_col_d_n, b_col_d_t⟩⟩⟩ := di
    (conv => whnf); repeat' (first
    | (refine And.intro ?_ ?_ <;> ((try intro h) <;> (try simp only [Bool.not_true, Bool.not_false] at h) <;> first | exact absurd h Bool.false_ne_true | exact absurd h.symm Bool.false_ne_true | conv => whnf))
    | (refine VL.drawS hTb hMix (by kernel_rfl) (by kernel_rfl) (by kernel_rfl) ?_; conv => whnf)
    | (refine Need.mk ?_; kernel_rfl) | (refine Need.mk ⟨rfl, ?_⟩; decide)
    | (refine VR.op hTb rfl rfl (o_index_imm hTb rfl rfl rfl rfl rfl rfl rfl (by omega) (hrow)) rfl ?_; conv => whnf)
    | (refine DT.op hTb rfl (o_index_imm hTb rfl rfl rfl rfl rfl rfl rfl (by omega) (hrow)) rfl ?_; conv => whnf)
    | (refine VR.op hTb rfl rfl (o_index_imm hTb rfl rfl rfl rfl rfl rfl rfl (by omega) (hrow2)) rfl ?_; conv => whnf)
    | (refine DT.op hTb rfl (o_index_imm hTb rfl rfl rfl rfl rfl rfl rfl (by omega) (hrow2)) rfl ?_; conv => whnf))
    · rw [hf, hs]
      have e : q_Change ⟨a_kind, a_name, a_new, ⟨a_col_name, a_col_kind, a_col_need, a_col_once, ⟨a_col_d_k, a_col_d_n, a_col_d_t⟩⟩⟩ ⟨b_kind, b_name, b_new, ⟨b_col_name, b_col_kind, b_col_need, b_col_once, ⟨b_col_d_k, b_col_d_n, b_col_d_t⟩⟩⟩ = false := by have e : (!q_Change ⟨a_kind, a_name, a_new, ⟨a_col_name, a_col_kind, a_col_need, a_col_once, ⟨a_col_d_k, a_col_d_n, a_col_d_t⟩⟩⟩ ⟨b_kind, b_name, b_new, ⟨b_col_name, b_col_kind, b_col_need, b_col_once, ⟨b_col_d_k, b_col_d_n, b_col_d_t⟩⟩⟩) = true := h; simpa using e
      rw [e]; rfl
    · refine ⟨i + 1, ⟨hlt, ?_⟩, by omega, wk_to [] rfl rfl rfl ⟨rfl, rfl, rfl, congrArg (fun x => Slot.one (.g (.int .i64 x))) (wrap64' (by omega)), trivial⟩ trivial⟩
      have e : q_Change ⟨a_kind, a_name, a_new, ⟨a_col_name, a_col_kind, a_col_need, a_col_once, ⟨a_col_d_k, a_col_d_n, a_col_d_t⟩⟩⟩ ⟨b_kind, b_name, b_new, ⟨b_col_name, b_col_kind, b_col_need, b_col_once, ⟨b_col_d_k, b_col_d_n, b_col_d_t⟩⟩⟩ = true := by have e : (!q_Change ⟨a_kind, a_name, a_new, ⟨a_col_name, a_col_kind, a_col_need, a_col_once, ⟨a_col_d_k, a_col_d_n, a_col_d_t⟩⟩⟩ ⟨b_kind, b_name, b_new, ⟨b_col_name, b_col_kind, b_col_need, b_col_once, ⟨b_col_d_k, b_col_d_n, b_col_d_t⟩⟩⟩) = false := h; simpa using e
      rw [hf, hs, e, Bool.true_and]
  · (conv => whnf)
    have : i = us.length := by simp at h2; omega
    subst this
    rw [hf, leq_end (Nat.le_refl _) (by omega)]; rfl
theorem q_EqVLinks (us bs : List VLink) (ha : us.length ≤ maxLen) : CallsV Try.prog 81 [vlinksI us, vlinksI bs] [] (pureQ (bS (leq q_VLink us bs))) := by
  refine pure_walk hTb Try.func81 rfl rfl Try.ntmps81 (by simp) ?_
  (conv => whnf); repeat' (first | (refine And.intro ?_ ?_ <;> ((try intro h) <;> (try simp only [Bool.not_true, Bool.not_false] at h) <;> first | exact absurd h Bool.false_ne_true | exact absurd h.symm Bool.false_ne_true | conv => whnf)) | (refine Need.mk ?_; kernel_rfl) | (refine Need.mk ⟨rfl, ?_⟩; decide))
  · rw [leq_len (by simp at h; omega)]; rfl
  have hl : us.length = bs.length := by simp at h; omega
  refine VL.loopI hTb (fun i => i ≤ us.length ∧ leq q_VLink us bs = leq q_VLink (us.drop i) (bs.drop i)) (fun i => ⟨[(0, vlinksI us), (1, vlinksI bs), (12, iS ((us.map encVLink).length : Nat)), (13, iS i)], [], []⟩) (fun i => us.length - i) 0 ⟨Nat.zero_le _, rfl⟩
    (wk_to [] rfl rfl rfl ⟨rfl, rfl, rfl, rfl, trivial⟩ trivial) (fun i hi => ?_)
  obtain ⟨hi, hf⟩ := hi
  (conv => whnf)
  refine And.intro (fun h2 => ?_) (fun h2 => ?_)
  · have hlt : i < us.length := by simpa using h2
    have hlt2 : i < bs.length := by omega
    have hrow := rowVLink hlt
    have hrow2 := rowVLink hlt2
    have hs := leq_step (f := q_VLink) hlt hlt2
    skip
    generalize hci : us[i] = ci at *
    generalize hdi : bs[i] = di at *
    obtain ⟨a_src, a_col, a_dst, a_how⟩ := ci
    obtain ⟨b_src, b_col, b_dst, b_how⟩ := di
    (conv => whnf); repeat' (first
    | (refine And.intro ?_ ?_ <;> ((try intro h) <;> (try simp only [Bool.not_true, Bool.not_false] at h) <;> first | exact absurd h Bool.false_ne_true | exact absurd h.symm Bool.false_ne_true | conv => whnf))
    | (refine VL.drawS hTb hMix (by kernel_rfl) (by kernel_rfl) (by kernel_rfl) ?_; conv => whnf)
    | (refine Need.mk ?_; kernel_rfl) | (refine Need.mk ⟨rfl, ?_⟩; decide)
    | (refine VR.op hTb rfl rfl (o_index_imm hTb rfl rfl rfl rfl rfl rfl rfl (by omega) (hrow)) rfl ?_; conv => whnf)
    | (refine DT.op hTb rfl (o_index_imm hTb rfl rfl rfl rfl rfl rfl rfl (by omega) (hrow)) rfl ?_; conv => whnf)
    | (refine VR.op hTb rfl rfl (o_index_imm hTb rfl rfl rfl rfl rfl rfl rfl (by omega) (hrow2)) rfl ?_; conv => whnf)
    | (refine DT.op hTb rfl (o_index_imm hTb rfl rfl rfl rfl rfl rfl rfl (by omega) (hrow2)) rfl ?_; conv => whnf))
    · rw [hf, hs]
      have e : q_VLink ⟨a_src, a_col, a_dst, a_how⟩ ⟨b_src, b_col, b_dst, b_how⟩ = false := by have e : (!q_VLink ⟨a_src, a_col, a_dst, a_how⟩ ⟨b_src, b_col, b_dst, b_how⟩) = true := h; simpa using e
      rw [e]; rfl
    · refine ⟨i + 1, ⟨hlt, ?_⟩, by omega, wk_to [] rfl rfl rfl ⟨rfl, rfl, rfl, congrArg (fun x => Slot.one (.g (.int .i64 x))) (wrap64' (by omega)), trivial⟩ trivial⟩
      have e : q_VLink ⟨a_src, a_col, a_dst, a_how⟩ ⟨b_src, b_col, b_dst, b_how⟩ = true := by have e : (!q_VLink ⟨a_src, a_col, a_dst, a_how⟩ ⟨b_src, b_col, b_dst, b_how⟩) = false := h; simpa using e
      rw [hf, hs, e, Bool.true_and]
  · (conv => whnf)
    have : i = us.length := by simp at h2; omega
    subst this
    rw [hf, leq_end (Nat.le_refl _) (by omega)]; rfl
theorem q_l3Vals (us bs : List Val) (ha : us.length ≤ maxLen) : CallsV Try.prog 87 [valsI us, valsI bs] [] (pureQ (bS (leq q_Val us bs))) := by
  refine pure_walk hTb Try.func87 rfl rfl Try.ntmps87 (by simp) ?_
  (conv => whnf); repeat' (first | (refine And.intro ?_ ?_ <;> ((try intro h) <;> (try simp only [Bool.not_true, Bool.not_false] at h) <;> first | exact absurd h Bool.false_ne_true | exact absurd h.symm Bool.false_ne_true | conv => whnf)) | (refine Need.mk ?_; kernel_rfl) | (refine Need.mk ⟨rfl, ?_⟩; decide))
  · rw [leq_len (by simp at h; omega)]; rfl
  have hl : us.length = bs.length := by simp at h; omega
  refine VL.loopI hTb (fun i => i ≤ us.length ∧ leq q_Val us bs = leq q_Val (us.drop i) (bs.drop i)) (fun i => ⟨[(0, valsI us), (1, valsI bs), (5, iS i)], [], []⟩) (fun i => us.length - i) 0 ⟨Nat.zero_le _, rfl⟩
    (wk_to [] rfl rfl rfl ⟨rfl, rfl, rfl, trivial⟩ trivial) (fun i hi => ?_)
  obtain ⟨hi, hf⟩ := hi
  (conv => whnf)
  refine And.intro (fun h2 => ?_) (fun h2 => ?_)
  · have hlt : i < us.length := by simpa using h2
    have hlt2 : i < bs.length := by omega
    have hrow := rowVal hlt
    have hrow2 := rowVal hlt2
    have hs := leq_step (f := q_Val) hlt hlt2
    skip
    generalize hci : us[i] = ci at *
    generalize hdi : bs[i] = di at *
    obtain ⟨a_k, a_n, a_t⟩ := ci
    obtain ⟨b_k, b_n, b_t⟩ := di
    (conv => whnf); repeat' (first
    | (refine And.intro ?_ ?_ <;> ((try intro h) <;> (try simp only [Bool.not_true, Bool.not_false] at h) <;> first | exact absurd h Bool.false_ne_true | exact absurd h.symm Bool.false_ne_true | conv => whnf))
    | (refine VL.drawS hTb hMix (by kernel_rfl) (by kernel_rfl) (by kernel_rfl) ?_; conv => whnf)
    | (refine Need.mk ?_; kernel_rfl) | (refine Need.mk ⟨rfl, ?_⟩; decide)
    | (refine VR.op hTb rfl rfl (o_index_imm hTb rfl rfl rfl rfl rfl rfl rfl (by omega) (hrow)) rfl ?_; conv => whnf)
    | (refine DT.op hTb rfl (o_index_imm hTb rfl rfl rfl rfl rfl rfl rfl (by omega) (hrow)) rfl ?_; conv => whnf)
    | (refine VR.op hTb rfl rfl (o_index_imm hTb rfl rfl rfl rfl rfl rfl rfl (by omega) (hrow2)) rfl ?_; conv => whnf)
    | (refine DT.op hTb rfl (o_index_imm hTb rfl rfl rfl rfl rfl rfl rfl (by omega) (hrow2)) rfl ?_; conv => whnf))
    · rw [hf, hs]
      have e : q_Val ⟨a_k, a_n, a_t⟩ ⟨b_k, b_n, b_t⟩ = false := by have e : (!q_Val ⟨a_k, a_n, a_t⟩ ⟨b_k, b_n, b_t⟩) = true := h; simpa using e
      rw [e]; rfl
    · refine ⟨i + 1, ⟨hlt, ?_⟩, by omega, wk_to [] rfl rfl rfl ⟨rfl, rfl, congrArg (fun x => Slot.one (.g (.int .i64 x))) (wrap64' (by omega)), trivial⟩ trivial⟩
      have e : q_Val ⟨a_k, a_n, a_t⟩ ⟨b_k, b_n, b_t⟩ = true := by have e : (!q_Val ⟨a_k, a_n, a_t⟩ ⟨b_k, b_n, b_t⟩) = false := h; simpa using e
      rw [hf, hs, e, Bool.true_and]
  · (conv => whnf)
    have : i = us.length := by simp at h2; omega
    subst this
    rw [hf, leq_end (Nat.le_refl _) (by omega)]; rfl
theorem q_ShapeSame (us bs : List Col) (ha : us.length ≤ maxLen) : CallsV Try.prog 32 [colsI us, colsI bs] [] (pureQ (bS (leq q_Col us bs))) := by
  refine pure_walk hTb Try.func32 rfl rfl Try.ntmps32 (by simp) ?_
  (conv => whnf); repeat' (first | (refine And.intro ?_ ?_ <;> ((try intro h) <;> (try simp only [Bool.not_true, Bool.not_false] at h) <;> first | exact absurd h Bool.false_ne_true | exact absurd h.symm Bool.false_ne_true | conv => whnf)) | (refine Need.mk ?_; kernel_rfl) | (refine Need.mk ⟨rfl, ?_⟩; decide))
  · rw [leq_len (by simp at h; omega)]; rfl
  have hl : us.length = bs.length := by simp at h; omega
  refine VL.loopI hTb (fun i => i ≤ us.length ∧ leq q_Col us bs = leq q_Col (us.drop i) (bs.drop i)) (fun i => ⟨[(0, colsI us), (1, colsI bs), (5, iS i)], [], []⟩) (fun i => us.length - i) 0 ⟨Nat.zero_le _, rfl⟩
    (wk_to [] rfl rfl rfl ⟨rfl, rfl, rfl, trivial⟩ trivial) (fun i hi => ?_)
  obtain ⟨hi, hf⟩ := hi
  (conv => whnf)
  refine And.intro (fun h2 => ?_) (fun h2 => ?_)
  · have hlt : i < us.length := by simpa using h2
    have hlt2 : i < bs.length := by omega
    have hrow := rowCol hlt
    have hrow2 := rowCol hlt2
    have hs := leq_step (f := q_Col) hlt hlt2
    skip
    generalize hci : us[i] = ci at *
    generalize hdi : bs[i] = di at *
    obtain ⟨a_name, a_kind, a_need, a_once, ⟨a_d_k, a_d_n, a_d_t⟩⟩ := ci
    obtain ⟨b_name, b_kind, b_need, b_once, ⟨b_d_k, b_d_n, b_d_t⟩⟩ := di
    (conv => whnf); repeat' (first
    | (refine And.intro ?_ ?_ <;> ((try intro h) <;> (try simp only [Bool.not_true, Bool.not_false] at h) <;> first | exact absurd h Bool.false_ne_true | exact absurd h.symm Bool.false_ne_true | conv => whnf))
    | (refine VL.drawS hTb hMix (by kernel_rfl) (by kernel_rfl) (by kernel_rfl) ?_; conv => whnf)
    | (refine Need.mk ?_; kernel_rfl) | (refine Need.mk ⟨rfl, ?_⟩; decide)
    | (refine VR.op hTb rfl rfl (o_index_imm hTb rfl rfl rfl rfl rfl rfl rfl (by omega) (hrow)) rfl ?_; conv => whnf)
    | (refine DT.op hTb rfl (o_index_imm hTb rfl rfl rfl rfl rfl rfl rfl (by omega) (hrow)) rfl ?_; conv => whnf)
    | (refine VR.op hTb rfl rfl (o_index_imm hTb rfl rfl rfl rfl rfl rfl rfl (by omega) (hrow2)) rfl ?_; conv => whnf)
    | (refine DT.op hTb rfl (o_index_imm hTb rfl rfl rfl rfl rfl rfl rfl (by omega) (hrow2)) rfl ?_; conv => whnf))
    · rw [hf, hs]
      have e : q_Col ⟨a_name, a_kind, a_need, a_once, ⟨a_d_k, a_d_n, a_d_t⟩⟩ ⟨b_name, b_kind, b_need, b_once, ⟨b_d_k, b_d_n, b_d_t⟩⟩ = false := by have e : (!q_Col ⟨a_name, a_kind, a_need, a_once, ⟨a_d_k, a_d_n, a_d_t⟩⟩ ⟨b_name, b_kind, b_need, b_once, ⟨b_d_k, b_d_n, b_d_t⟩⟩) = true := h; simpa using e
      rw [e]; rfl
    · refine ⟨i + 1, ⟨hlt, ?_⟩, by omega, wk_to [] rfl rfl rfl ⟨rfl, rfl, congrArg (fun x => Slot.one (.g (.int .i64 x))) (wrap64' (by omega)), trivial⟩ trivial⟩
      have e : q_Col ⟨a_name, a_kind, a_need, a_once, ⟨a_d_k, a_d_n, a_d_t⟩⟩ ⟨b_name, b_kind, b_need, b_once, ⟨b_d_k, b_d_n, b_d_t⟩⟩ = true := by have e : (!q_Col ⟨a_name, a_kind, a_need, a_once, ⟨a_d_k, a_d_n, a_d_t⟩⟩ ⟨b_name, b_kind, b_need, b_once, ⟨b_d_k, b_d_n, b_d_t⟩⟩) = false := h; simpa using e
      rw [hf, hs, e, Bool.true_and]
  · (conv => whnf)
    have : i = us.length := by simp at h2; omega
    subst this
    rw [hf, leq_end (Nat.le_refl _) (by omega)]; rfl
theorem q_l3Same (a b : VRow) (ha : a.vals.length ≤ maxLen) : CallsV Try.prog 33 [.agg (encVRow a), .agg (encVRow b)] [] (pureQ (bS (q_VRow a b))) := by
  obtain ⟨aid, aver, avals⟩ := a
  obtain ⟨bid, bver, bvals⟩ := b
  refine pure_walk hTb Try.func33 rfl rfl Try.ntmps33 (by simp) ?_
  (conv => whnf); repeat' (first
    | (refine And.intro ?_ ?_ <;> ((try intro h) <;> (try simp only [Bool.not_true, Bool.not_false] at h) <;> first | exact absurd h Bool.false_ne_true | exact absurd h.symm Bool.false_ne_true | conv => whnf))
    | (refine VL.drawS hTb hMix (by kernel_rfl) (by kernel_rfl) (by kernel_rfl) ?_; conv => whnf)
    | (refine Need.mk ?_; kernel_rfl) | (refine Need.mk ⟨rfl, ?_⟩; decide)
    | (refine VR.pure hTb rfl rfl (o_purN (q_l3Vals _ _ ha) rfl rfl rfl ⟨rfl, rfl, rfl, rfl⟩ rfl) ?_; conv => whnf)
    | (refine DT.pure hTb rfl (o_purN (q_l3Vals _ _ ha) rfl rfl rfl ⟨rfl, rfl, rfl, rfl⟩ rfl) ?_; conv => whnf))
  all_goals (simp only [q_VRow, bS]; simp_all)
theorem q_TS1 (a b : VRow) (ha : a.vals.length ≤ maxLen) : CallsV Try.prog 39 [.agg (encVRow a), .agg (encVRow b)] [] (pureQ (bS (q_VRow a b))) := by
  obtain ⟨aid, aver, avals⟩ := a
  obtain ⟨bid, bver, bvals⟩ := b
  refine pure_walk hTb Try.func39 rfl rfl Try.ntmps39 (by simp) ?_
  (conv => whnf); repeat' (first
    | (refine And.intro ?_ ?_ <;> ((try intro h) <;> (try simp only [Bool.not_true, Bool.not_false] at h) <;> first | exact absurd h Bool.false_ne_true | exact absurd h.symm Bool.false_ne_true | conv => whnf))
    | (refine VL.drawS hTb hMix (by kernel_rfl) (by kernel_rfl) (by kernel_rfl) ?_; conv => whnf)
    | (refine Need.mk ?_; kernel_rfl) | (refine Need.mk ⟨rfl, ?_⟩; decide)
    | (refine VR.pure hTb rfl rfl (o_purN (q_EqVals _ _ ha) rfl rfl rfl ⟨rfl, rfl, rfl, rfl⟩ rfl) ?_; conv => whnf)
    | (refine DT.pure hTb rfl (o_purN (q_EqVals _ _ ha) rfl rfl rfl ⟨rfl, rfl, rfl, rfl⟩ rfl) ?_; conv => whnf))
  all_goals (simp only [q_VRow, bS]; simp_all)
theorem q_EqFRows (us bs : List VRow) (ha : us.length ≤ maxLen) (ou : ∀ x ∈ us, x.ok) : CallsV Try.prog 38 [vrowsI us, vrowsI bs, .one (.clo 39 [])] [] (pureQ (bS (leq q_VRow us bs))) := by
  refine pure_walk hTb Try.func38 rfl rfl Try.ntmps38 (by simp) ?_
  (conv => whnf); repeat' (first | (refine And.intro ?_ ?_ <;> ((try intro h) <;> (try simp only [Bool.not_true, Bool.not_false] at h) <;> first | exact absurd h Bool.false_ne_true | exact absurd h.symm Bool.false_ne_true | conv => whnf)) | (refine Need.mk ?_; kernel_rfl) | (refine Need.mk ⟨rfl, ?_⟩; decide))
  · rw [leq_len (by simp at h; omega)]; rfl
  have hl : us.length = bs.length := by simp at h; omega
  refine VL.loopI hTb (fun i => i ≤ us.length ∧ leq q_VRow us bs = leq q_VRow (us.drop i) (bs.drop i)) (fun i => ⟨[(0, vrowsI us), (1, vrowsI bs), (2, .one (.clo 39 [])), (15, vrowsI us), (16, iS ((us.map encVRow).length : Nat)), (17, iS i)], [], []⟩) (fun i => us.length - i) 0 ⟨Nat.zero_le _, rfl⟩
    (wk_to [] rfl rfl rfl ⟨rfl, rfl, rfl, rfl, rfl, rfl, trivial⟩ trivial) (fun i hi => ?_)
  obtain ⟨hi, hf⟩ := hi
  (conv => whnf)
  refine And.intro (fun h2 => ?_) (fun h2 => ?_)
  · have hlt : i < us.length := by simpa using h2
    have hlt2 : i < bs.length := by omega
    have hrow := rowVRow hlt
    have hrow2 := rowVRow hlt2
    have hs := leq_step (f := q_VRow) hlt hlt2
    have hc := q_TS1 us[i] bs[i] (ou _ (List.getElem_mem hlt)).1
    generalize hci : us[i] = ci at *
    generalize hdi : bs[i] = di at *
    obtain ⟨a_id, a_ver, a_vals⟩ := ci
    obtain ⟨b_id, b_ver, b_vals⟩ := di
    (conv => whnf); repeat' (first
    | (refine And.intro ?_ ?_ <;> ((try intro h) <;> (try simp only [Bool.not_true, Bool.not_false] at h) <;> first | exact absurd h Bool.false_ne_true | exact absurd h.symm Bool.false_ne_true | conv => whnf))
    | (refine VL.drawS hTb hMix (by kernel_rfl) (by kernel_rfl) (by kernel_rfl) ?_; conv => whnf)
    | (refine Need.mk ?_; kernel_rfl) | (refine Need.mk ⟨rfl, ?_⟩; decide)
    | (refine VR.op hTb rfl rfl (o_index_imm hTb rfl rfl rfl rfl rfl rfl rfl (by omega) (hrow)) rfl ?_; conv => whnf)
    | (refine DT.op hTb rfl (o_index_imm hTb rfl rfl rfl rfl rfl rfl rfl (by omega) (hrow)) rfl ?_; conv => whnf)
    | (refine VR.op hTb rfl rfl (o_index_imm hTb rfl rfl rfl rfl rfl rfl rfl (by omega) (hrow2)) rfl ?_; conv => whnf)
    | (refine DT.op hTb rfl (o_index_imm hTb rfl rfl rfl rfl rfl rfl rfl (by omega) (hrow2)) rfl ?_; conv => whnf)
    | (refine VR.pure hTb rfl rfl (o_purN (hc) rfl rfl rfl ⟨rfl, rfl, rfl, rfl⟩ rfl) ?_; conv => whnf)
    | (refine DT.pure hTb rfl (o_purN (hc) rfl rfl rfl ⟨rfl, rfl, rfl, rfl⟩ rfl) ?_; conv => whnf))
    · rw [hf, hs]
      have e : q_VRow ⟨a_id, a_ver, a_vals⟩ ⟨b_id, b_ver, b_vals⟩ = false := by have e : (!q_VRow ⟨a_id, a_ver, a_vals⟩ ⟨b_id, b_ver, b_vals⟩) = true := h; simpa using e
      rw [e]; rfl
    · refine ⟨i + 1, ⟨hlt, ?_⟩, by omega, wk_to [] rfl rfl rfl ⟨rfl, rfl, rfl, rfl, rfl, congrArg (fun x => Slot.one (.g (.int .i64 x))) (wrap64' (by omega)), trivial⟩ trivial⟩
      have e : q_VRow ⟨a_id, a_ver, a_vals⟩ ⟨b_id, b_ver, b_vals⟩ = true := by have e : (!q_VRow ⟨a_id, a_ver, a_vals⟩ ⟨b_id, b_ver, b_vals⟩) = false := h; simpa using e
      rw [hf, hs, e, Bool.true_and]
  · (conv => whnf)
    have : i = us.length := by simp at h2; omega
    subst this
    rw [hf, leq_end (Nat.le_refl _) (by omega)]; rfl
theorem q_implTableSame (a b : VTable) (ha : a.ok) : CallsV Try.prog 10 [.agg (encVTable a), .agg (encVTable b)] [] (pureQ (bS (q_VTable a b))) := by
  obtain ⟨af, ac, ar, an⟩ := a
  obtain ⟨bf, bc, br, bn⟩ := b
  simp only [VTable.ok] at ha
  refine pure_walk hTb Try.func10 rfl rfl Try.ntmps10 (by simp) ?_
  (conv => whnf); repeat' (first
    | (refine And.intro ?_ ?_ <;> ((try intro h) <;> (try simp only [Bool.not_true, Bool.not_false] at h) <;> first | exact absurd h Bool.false_ne_true | exact absurd h.symm Bool.false_ne_true | conv => whnf))
    | (refine VL.drawS hTb hMix (by kernel_rfl) (by kernel_rfl) (by kernel_rfl) ?_; conv => whnf)
    | (refine Need.mk ?_; kernel_rfl) | (refine Need.mk ⟨rfl, ?_⟩; decide)
    | (refine VR.pure hTb rfl rfl (o_purN (q_EqCols _ _ ha.1.1) rfl rfl rfl ⟨rfl, rfl, rfl, rfl⟩ rfl) ?_; conv => whnf)
    | (refine DT.pure hTb rfl (o_purN (q_EqCols _ _ ha.1.1) rfl rfl rfl ⟨rfl, rfl, rfl, rfl⟩ rfl) ?_; conv => whnf)
    | (refine VR.pure hTb rfl rfl (o_purN (q_EqChanges _ _ ha.2.1.1) rfl rfl rfl ⟨rfl, rfl, rfl, rfl⟩ rfl) ?_; conv => whnf)
    | (refine DT.pure hTb rfl (o_purN (q_EqChanges _ _ ha.2.1.1) rfl rfl rfl ⟨rfl, rfl, rfl, rfl⟩ rfl) ?_; conv => whnf)
    | (refine VR.pure hTb rfl rfl (o_purN (q_EqFRows _ _ ha.2.2.1 ha.2.2.2) rfl rfl rfl ⟨rfl, rfl, rfl, rfl⟩ rfl) ?_; conv => whnf)
    | (refine DT.pure hTb rfl (o_purN (q_EqFRows _ _ ha.2.2.1 ha.2.2.2) rfl rfl rfl ⟨rfl, rfl, rfl, rfl⟩ rfl) ?_; conv => whnf))
  all_goals (clear ha; simp only [q_VTable, bS]; simp_all)
theorem q_specTableSame (a b : VTable) (ha : a.ok) : CallsV Try.prog 8 [.agg (encVTable a), .agg (encVTable b)] [] (pureQ (bS (q_VTable a b))) := by
  obtain ⟨af, ac, ar, an⟩ := a
  obtain ⟨bf, bc, br, bn⟩ := b
  simp only [VTable.ok] at ha
  obtain ⟨⟨haf, _⟩, ⟨hac, _⟩, har, hao⟩ := ha
  refine pure_walk hTb Try.func8 rfl rfl Try.ntmps8 (by simp) ?_
  have l1 : ac.length ≠ bc.length → leq q_Change ac bc = false := leq_len
  have l2 : ar.length ≠ br.length → leq q_VRow ar br = false := leq_len
  (conv => whnf); repeat' (first
    | (refine And.intro ?_ ?_ <;> ((try intro h) <;> (try simp only [Bool.not_true, Bool.not_false] at h) <;> first | exact absurd h Bool.false_ne_true | exact absurd h.symm Bool.false_ne_true | conv => whnf))
    | (refine VL.drawS hTb hMix (by kernel_rfl) (by kernel_rfl) (by kernel_rfl) ?_; conv => whnf)
    | (refine Need.mk ?_; kernel_rfl) | (refine Need.mk ⟨rfl, ?_⟩; decide)
    | (refine VR.pure hTb rfl rfl (o_purN (q_ShapeSame _ _ haf) rfl rfl rfl ⟨rfl, rfl, rfl, rfl⟩ rfl) ?_; conv => whnf)
    | (refine DT.pure hTb rfl (o_purN (q_ShapeSame _ _ haf) rfl rfl rfl ⟨rfl, rfl, rfl, rfl⟩ rfl) ?_; conv => whnf))
  all_goals first
    | (clear haf hac har hao; simp only [q_VTable, bS]; simp_all; done)
    | (clear haf hac har hao; by_cases e1 : ac.length = bc.length <;> by_cases e2 : ar.length = br.length <;> simp_all [q_VTable, bS]; done)
    | skip
  have k1 : leq q_Col af bf = true := by simp_all
  have k2 : ac.length = bc.length := by rename_i h1 h2 h3; simp at h2; omega
  have k3 : ar.length = br.length := by rename_i h1 h2 h3; simp at h3; omega
  have k4 : (an == bn) = true := by simp at h ⊢; exact h
  have k5 : q_VTable ⟨af, ac, ar, an⟩ ⟨bf, bc, br, bn⟩ = (leq q_Change ac bc && leq q_VRow ar br) := by simp only [q_VTable, k1, k4, Bool.true_and]
  refine VL.loopI hTb (fun i => i ≤ ac.length ∧ leq q_Change ac bc = leq q_Change (ac.drop i) (bc.drop i)) (fun i => ⟨[(2, .one (.ptr 102 0)), (3, .one (.ptr 103 0)), (5, iS i)], [(102, .box (encVTable ⟨af, ac, ar, an⟩)), (103, .box (encVTable ⟨bf, bc, br, bn⟩))], []⟩) (fun i => ac.length - i) 0 ⟨Nat.zero_le _, rfl⟩
    (wk_to [(102, 102), (103, 103)] rfl rfl rfl ⟨rfl, rfl, rfl, trivial⟩ ⟨rfl, ⟨_, rfl, rfl⟩, rfl, ⟨_, rfl, rfl⟩, trivial⟩) (fun i hi => ?_)
  obtain ⟨hi, hf⟩ := hi
  (conv => whnf)
  refine And.intro (fun h2 => ?_) (fun h2 => ?_)
  · have hlt : i < ac.length := by simpa using h2
    have hlt2 : i < bc.length := by omega
    have hrow := rowChange hlt
    have hrow2 := rowChange hlt2
    have hs := leq_step (f := q_Change) hlt hlt2
    generalize hci : ac[i] = ci at *
    generalize hdi : bc[i] = di at *
    obtain ⟨a_kind, a_name, a_new, ⟨a_col_name, a_col_kind, a_col_need, a_col_once, ⟨a_col_d_k, a_col_d_n, a_col_d_t⟩⟩⟩ := ci
    obtain ⟨b_kind, b_name, b_new, ⟨b_col_name, b_col_kind, b_col_need, b_col_once, ⟨b_col_d_k, b_col_d_n, b_col_d_t⟩⟩⟩ := di
    (conv => whnf); repeat' (first
    | (refine And.intro ?_ ?_ <;> ((try intro h) <;> (try simp only [Bool.not_true, Bool.not_false] at h) <;> first | exact absurd h Bool.false_ne_true | exact absurd h.symm Bool.false_ne_true | conv => whnf))
    | (refine VL.drawS hTb hMix (by kernel_rfl) (by kernel_rfl) (by kernel_rfl) ?_; conv => whnf)
    | (refine Need.mk ?_; kernel_rfl) | (refine Need.mk ⟨rfl, ?_⟩; decide)
    | (refine VR.op hTb rfl rfl (o_index_imm hTb rfl rfl rfl rfl rfl rfl rfl (by omega) (hrow)) rfl ?_; conv => whnf)
    | (refine DT.op hTb rfl (o_index_imm hTb rfl rfl rfl rfl rfl rfl rfl (by omega) (hrow)) rfl ?_; conv => whnf)
    | (refine VR.op hTb rfl rfl (o_index_imm hTb rfl rfl rfl rfl rfl rfl rfl (by omega) (hrow2)) rfl ?_; conv => whnf)
    | (refine DT.op hTb rfl (o_index_imm hTb rfl rfl rfl rfl rfl rfl rfl (by omega) (hrow2)) rfl ?_; conv => whnf))
    · rw [k5, hf, hs]
      have e : q_Change ⟨a_kind, a_name, a_new, ⟨a_col_name, a_col_kind, a_col_need, a_col_once, ⟨a_col_d_k, a_col_d_n, a_col_d_t⟩⟩⟩ ⟨b_kind, b_name, b_new, ⟨b_col_name, b_col_kind, b_col_need, b_col_once, ⟨b_col_d_k, b_col_d_n, b_col_d_t⟩⟩⟩ = false := by have e : (!q_Change ⟨a_kind, a_name, a_new, ⟨a_col_name, a_col_kind, a_col_need, a_col_once, ⟨a_col_d_k, a_col_d_n, a_col_d_t⟩⟩⟩ ⟨b_kind, b_name, b_new, ⟨b_col_name, b_col_kind, b_col_need, b_col_once, ⟨b_col_d_k, b_col_d_n, b_col_d_t⟩⟩⟩) = true := h; simpa using e
      rw [e]; rfl
    · refine ⟨i + 1, ⟨hlt, ?_⟩, by omega, wk_to [(102, 102), (103, 103)] rfl rfl rfl ⟨rfl, rfl, congrArg (fun x => Slot.one (.g (.int .i64 x))) (wrap64' (by omega)), trivial⟩ ⟨rfl, ⟨_, rfl, rfl⟩, rfl, ⟨_, rfl, rfl⟩, trivial⟩⟩
      have e : q_Change ⟨a_kind, a_name, a_new, ⟨a_col_name, a_col_kind, a_col_need, a_col_once, ⟨a_col_d_k, a_col_d_n, a_col_d_t⟩⟩⟩ ⟨b_kind, b_name, b_new, ⟨b_col_name, b_col_kind, b_col_need, b_col_once, ⟨b_col_d_k, b_col_d_n, b_col_d_t⟩⟩⟩ = true := by have e : (!q_Change ⟨a_kind, a_name, a_new, ⟨a_col_name, a_col_kind, a_col_need, a_col_once, ⟨a_col_d_k, a_col_d_n, a_col_d_t⟩⟩⟩ ⟨b_kind, b_name, b_new, ⟨b_col_name, b_col_kind, b_col_need, b_col_once, ⟨b_col_d_k, b_col_d_n, b_col_d_t⟩⟩⟩) = false := h; simpa using e
      rw [hf, hs, e, Bool.true_and]
  · have hie : i = ac.length := by simp at h2; omega
    subst hie
    rw [leq_end (Nat.le_refl _) (by omega)] at hf
    rw [hf, Bool.true_and] at k5
    (conv => whnf)
    refine VL.loopI hTb (fun i => i ≤ ar.length ∧ leq q_VRow ar br = leq q_VRow (ar.drop i) (br.drop i)) (fun i => ⟨[(2, .one (.ptr 102 0)), (3, .one (.ptr 103 0)), (6, iS i)], [(102, .box (encVTable ⟨af, ac, ar, an⟩)), (103, .box (encVTable ⟨bf, bc, br, bn⟩))], []⟩) (fun i => ar.length - i) 0 ⟨Nat.zero_le _, rfl⟩
      (wk_to [(102, 102), (103, 103)] rfl rfl rfl ⟨rfl, rfl, rfl, trivial⟩ ⟨rfl, ⟨_, rfl, rfl⟩, rfl, ⟨_, rfl, rfl⟩, trivial⟩) (fun i hi => ?_)
    obtain ⟨hi, hf⟩ := hi
    (conv => whnf)
    refine And.intro (fun h2 => ?_) (fun h2 => ?_)
    · have hlt : i < ar.length := by simpa using h2
      have hlt2 : i < br.length := by omega
      have hrow := rowVRow hlt
      have hrow2 := rowVRow hlt2
      have hs := leq_step (f := q_VRow) hlt hlt2
      have hc := q_l3Same ar[i] br[i] (hao _ (List.getElem_mem hlt)).1
      generalize hci : ar[i] = ci at *
      generalize hdi : br[i] = di at *
      obtain ⟨r1, r2, r3⟩ := ci
      obtain ⟨s1, s2, s3⟩ := di
      (conv => whnf); repeat' (first
    | (refine And.intro ?_ ?_ <;> ((try intro h) <;> (try simp only [Bool.not_true, Bool.not_false] at h) <;> first | exact absurd h Bool.false_ne_true | exact absurd h.symm Bool.false_ne_true | conv => whnf))
    | (refine VL.drawS hTb hMix (by kernel_rfl) (by kernel_rfl) (by kernel_rfl) ?_; conv => whnf)
    | (refine Need.mk ?_; kernel_rfl) | (refine Need.mk ⟨rfl, ?_⟩; decide)
    | (refine VR.op hTb rfl rfl (o_index_imm hTb rfl rfl rfl rfl rfl rfl rfl (by omega) (hrow)) rfl ?_; conv => whnf)
    | (refine DT.op hTb rfl (o_index_imm hTb rfl rfl rfl rfl rfl rfl rfl (by omega) (hrow)) rfl ?_; conv => whnf)
    | (refine VR.op hTb rfl rfl (o_index_imm hTb rfl rfl rfl rfl rfl rfl rfl (by omega) (hrow2)) rfl ?_; conv => whnf)
    | (refine DT.op hTb rfl (o_index_imm hTb rfl rfl rfl rfl rfl rfl rfl (by omega) (hrow2)) rfl ?_; conv => whnf)
    | (refine VR.pure hTb rfl rfl (o_purN (hc) rfl rfl rfl ⟨rfl, rfl, rfl, rfl⟩ rfl) ?_; conv => whnf)
    | (refine DT.pure hTb rfl (o_purN (hc) rfl rfl rfl ⟨rfl, rfl, rfl, rfl⟩ rfl) ?_; conv => whnf))
      · rw [k5, hf, hs]
        have e : q_VRow ⟨r1, r2, r3⟩ ⟨s1, s2, s3⟩ = false := by have e : (!q_VRow ⟨r1, r2, r3⟩ ⟨s1, s2, s3⟩) = true := h; simpa using e
        rw [e]; rfl
      · refine ⟨i + 1, ⟨hlt, ?_⟩, by omega, wk_to [(102, 102), (103, 103)] rfl rfl rfl ⟨rfl, rfl, congrArg (fun x => Slot.one (.g (.int .i64 x))) (wrap64' (by omega)), trivial⟩ ⟨rfl, ⟨_, rfl, rfl⟩, rfl, ⟨_, rfl, rfl⟩, trivial⟩⟩
        have e : q_VRow ⟨r1, r2, r3⟩ ⟨s1, s2, s3⟩ = true := by have e : (!q_VRow ⟨r1, r2, r3⟩ ⟨s1, s2, s3⟩) = false := h; simpa using e
        rw [hf, hs, e, Bool.true_and]
    · have hie : i = ar.length := by simp at h2; omega
      subst hie
      rw [leq_end (Nat.le_refl _) (by omega)] at hf
      (conv => whnf)
      rw [k5, hf]; rfl
theorem q_BS1 (a b : VTab) (ha : a.ok) : CallsV Try.prog 83 [.agg (encVTab a), .agg (encVTab b)] [] (pureQ (bS (q_VTab a b))) := by
  obtain ⟨an, ⟨a1, a2, a3, a4⟩⟩ := a
  obtain ⟨bn, ⟨b1, b2, b3, b4⟩⟩ := b
  simp only [VTab.ok] at ha
  refine pure_walk hTb Try.func83 rfl rfl Try.ntmps83 (by simp) ?_
  (conv => whnf); repeat' (first
    | (refine And.intro ?_ ?_ <;> ((try intro h) <;> (try simp only [Bool.not_true, Bool.not_false] at h) <;> first | exact absurd h Bool.false_ne_true | exact absurd h.symm Bool.false_ne_true | conv => whnf))
    | (refine VL.drawS hTb hMix (by kernel_rfl) (by kernel_rfl) (by kernel_rfl) ?_; conv => whnf)
    | (refine Need.mk ?_; kernel_rfl) | (refine Need.mk ⟨rfl, ?_⟩; decide)
    | (refine VR.pure hTb rfl rfl (o_purN (q_implTableSame ⟨_, _, _, _⟩ ⟨_, _, _, _⟩ ha.2) rfl rfl rfl ⟨rfl, rfl, rfl, rfl⟩ rfl) ?_; conv => whnf)
    | (refine DT.pure hTb rfl (o_purN (q_implTableSame ⟨_, _, _, _⟩ ⟨_, _, _, _⟩ ha.2) rfl rfl rfl ⟨rfl, rfl, rfl, rfl⟩ rfl) ?_; conv => whnf))
  all_goals (clear ha; simp only [q_VTab, bS]; simp_all)
theorem q_EqFTabs (us bs : List VTab) (ha : us.length ≤ maxLen) (ou : ∀ x ∈ us, x.ok) : CallsV Try.prog 82 [vtabsI us, vtabsI bs, .one (.clo 83 [])] [] (pureQ (bS (leq q_VTab us bs))) := by
  refine pure_walk hTb Try.func82 rfl rfl Try.ntmps82 (by simp) ?_
  (conv => whnf); repeat' (first | (refine And.intro ?_ ?_ <;> ((try intro h) <;> (try simp only [Bool.not_true, Bool.not_false] at h) <;> first | exact absurd h Bool.false_ne_true | exact absurd h.symm Bool.false_ne_true | conv => whnf)) | (refine Need.mk ?_; kernel_rfl) | (refine Need.mk ⟨rfl, ?_⟩; decide))
  · rw [leq_len (by simp at h; omega)]; rfl
  have hl : us.length = bs.length := by simp at h; omega
  refine VL.loopI hTb (fun i => i ≤ us.length ∧ leq q_VTab us bs = leq q_VTab (us.drop i) (bs.drop i)) (fun i => ⟨[(0, vtabsI us), (1, vtabsI bs), (2, .one (.clo 83 [])), (15, vtabsI us), (16, iS ((us.map encVTab).length : Nat)), (17, iS i)], [], []⟩) (fun i => us.length - i) 0 ⟨Nat.zero_le _, rfl⟩
    (wk_to [] rfl rfl rfl ⟨rfl, rfl, rfl, rfl, rfl, rfl, trivial⟩ trivial) (fun i hi => ?_)
  obtain ⟨hi, hf⟩ := hi
  (conv => whnf)
  refine And.intro (fun h2 => ?_) (fun h2 => ?_)
  · have hlt : i < us.length := by simpa using h2
    have hlt2 : i < bs.length := by omega
    have hrow := rowVTab hlt
    have hrow2 := rowVTab hlt2
    have hs := leq_step (f := q_VTab) hlt hlt2
    have hc := q_BS1 us[i] bs[i] (ou _ (List.getElem_mem hlt))
    generalize hci : us[i] = ci at *
    generalize hdi : bs[i] = di at *
    obtain ⟨a_name, ⟨a_table_first, a_table_changes, a_table_rows, a_table_next⟩⟩ := ci
    obtain ⟨b_name, ⟨b_table_first, b_table_changes, b_table_rows, b_table_next⟩⟩ := di
    (conv => whnf); repeat' (first
    | (refine And.intro ?_ ?_ <;> ((try intro h) <;> (try simp only [Bool.not_true, Bool.not_false] at h) <;> first | exact absurd h Bool.false_ne_true | exact absurd h.symm Bool.false_ne_true | conv => whnf))
    | (refine VL.drawS hTb hMix (by kernel_rfl) (by kernel_rfl) (by kernel_rfl) ?_; conv => whnf)
    | (refine Need.mk ?_; kernel_rfl) | (refine Need.mk ⟨rfl, ?_⟩; decide)
    | (refine VR.op hTb rfl rfl (o_index_imm hTb rfl rfl rfl rfl rfl rfl rfl (by omega) (hrow)) rfl ?_; conv => whnf)
    | (refine DT.op hTb rfl (o_index_imm hTb rfl rfl rfl rfl rfl rfl rfl (by omega) (hrow)) rfl ?_; conv => whnf)
    | (refine VR.op hTb rfl rfl (o_index_imm hTb rfl rfl rfl rfl rfl rfl rfl (by omega) (hrow2)) rfl ?_; conv => whnf)
    | (refine DT.op hTb rfl (o_index_imm hTb rfl rfl rfl rfl rfl rfl rfl (by omega) (hrow2)) rfl ?_; conv => whnf)
    | (refine VR.pure hTb rfl rfl (o_purN (hc) rfl rfl rfl ⟨rfl, rfl, rfl, rfl⟩ rfl) ?_; conv => whnf)
    | (refine DT.pure hTb rfl (o_purN (hc) rfl rfl rfl ⟨rfl, rfl, rfl, rfl⟩ rfl) ?_; conv => whnf))
    · rw [hf, hs]
      have e : q_VTab ⟨a_name, ⟨a_table_first, a_table_changes, a_table_rows, a_table_next⟩⟩ ⟨b_name, ⟨b_table_first, b_table_changes, b_table_rows, b_table_next⟩⟩ = false := by have e : (!q_VTab ⟨a_name, ⟨a_table_first, a_table_changes, a_table_rows, a_table_next⟩⟩ ⟨b_name, ⟨b_table_first, b_table_changes, b_table_rows, b_table_next⟩⟩) = true := h; simpa using e
      rw [e]; rfl
    · refine ⟨i + 1, ⟨hlt, ?_⟩, by omega, wk_to [] rfl rfl rfl ⟨rfl, rfl, rfl, rfl, rfl, congrArg (fun x => Slot.one (.g (.int .i64 x))) (wrap64' (by omega)), trivial⟩ trivial⟩
      have e : q_VTab ⟨a_name, ⟨a_table_first, a_table_changes, a_table_rows, a_table_next⟩⟩ ⟨b_name, ⟨b_table_first, b_table_changes, b_table_rows, b_table_next⟩⟩ = true := by have e : (!q_VTab ⟨a_name, ⟨a_table_first, a_table_changes, a_table_rows, a_table_next⟩⟩ ⟨b_name, ⟨b_table_first, b_table_changes, b_table_rows, b_table_next⟩⟩) = false := h; simpa using e
      rw [hf, hs, e, Bool.true_and]
  · (conv => whnf)
    have : i = us.length := by simp at h2; omega
    subst this
    rw [hf, leq_end (Nat.le_refl _) (by omega)]; rfl
theorem q_implBaseSame (a b : VBase) (ha : a.ok) (hb : b.ok) : CallsV Try.prog 28 [.agg (encVBase a), .agg (encVBase b)] [] (pureQ (bS (q_VBase a b))) := by
  obtain ⟨a_t, al⟩ := a
  obtain ⟨b_t, bl⟩ := b
  simp only [VBase.ok] at ha
  refine pure_walk hTb Try.func28 rfl rfl Try.ntmps28 (by simp) ?_
  (conv => whnf); repeat' (first
    | (refine And.intro ?_ ?_ <;> ((try intro h) <;> (try simp only [Bool.not_true, Bool.not_false] at h) <;> first | exact absurd h Bool.false_ne_true | exact absurd h.symm Bool.false_ne_true | conv => whnf))
    | (refine VL.drawS hTb hMix (by kernel_rfl) (by kernel_rfl) (by kernel_rfl) ?_; conv => whnf)
    | (refine Need.mk ?_; kernel_rfl) | (refine Need.mk ⟨rfl, ?_⟩; decide)
    | (refine VR.pure hTb rfl rfl (o_purN (q_EqVLinks _ _ ha.2.1) rfl rfl rfl ⟨rfl, rfl, rfl, rfl⟩ rfl) ?_; conv => whnf)
    | (refine DT.pure hTb rfl (o_purN (q_EqVLinks _ _ ha.2.1) rfl rfl rfl ⟨rfl, rfl, rfl, rfl⟩ rfl) ?_; conv => whnf)
    | (refine VR.pure hTb rfl rfl (o_purN (q_EqFTabs _ _ ha.1.1 ha.1.2) rfl rfl rfl ⟨rfl, rfl, rfl, rfl⟩ rfl) ?_; conv => whnf)
    | (refine DT.pure hTb rfl (o_purN (q_EqFTabs _ _ ha.1.1 ha.1.2) rfl rfl rfl ⟨rfl, rfl, rfl, rfl⟩ rfl) ?_; conv => whnf))
  all_goals (clear ha hb; simp only [q_VBase, bS]; simp_all)
theorem q_specBaseSame (a b : VBase) (ha : a.ok) : CallsV Try.prog 26 [.agg (encVBase a), .agg (encVBase b)] [] (pureQ (bS (q_VBase a b))) := by
  obtain ⟨ac, ar⟩ := a
  obtain ⟨bc, br⟩ := b
  simp only [VBase.ok] at ha
  obtain ⟨⟨hac, hao⟩, har, _⟩ := ha
  refine pure_walk hTb Try.func26 rfl rfl Try.ntmps26 (by simp) ?_
  have l1 : ac.length ≠ bc.length → leq q_VTab ac bc = false := leq_len
  have l2 : ar.length ≠ br.length → leq q_VLink ar br = false := leq_len
  (conv => whnf); repeat' (first | (refine And.intro ?_ ?_ <;> ((try intro h) <;> (try simp only [Bool.not_true, Bool.not_false] at h) <;> first | exact absurd h Bool.false_ne_true | exact absurd h.symm Bool.false_ne_true | conv => whnf)) | (refine Need.mk ?_; kernel_rfl) | (refine Need.mk ⟨rfl, ?_⟩; decide))
  all_goals first
    | (clear hac har hao; by_cases e1 : ac.length = bc.length <;> by_cases e2 : ar.length = br.length <;> simp_all [q_VBase, bS]; done)
    | skip
  have k2 : ac.length = bc.length := by rename_i h1; simp at h1; omega
  have k3 : ar.length = br.length := by simp at h; omega
  have k5 : q_VBase ⟨ac, ar⟩ ⟨bc, br⟩ = (leq q_VTab ac bc && leq q_VLink ar br) := by simp only [q_VBase]; rw [Bool.and_comm]
  refine VL.loopI hTb (fun i => i ≤ ac.length ∧ leq q_VTab ac bc = leq q_VTab (ac.drop i) (bc.drop i)) (fun i => ⟨[(2, .one (.ptr 102 0)), (3, .one (.ptr 103 0)), (5, iS i)], [(102, .box (encVBase ⟨ac, ar⟩)), (103, .box (encVBase ⟨bc, br⟩))], []⟩) (fun i => ac.length - i) 0 ⟨Nat.zero_le _, rfl⟩
    (wk_to [(102, 102), (103, 103)] rfl rfl rfl ⟨rfl, rfl, rfl, trivial⟩ ⟨rfl, ⟨_, rfl, rfl⟩, rfl, ⟨_, rfl, rfl⟩, trivial⟩) (fun i hi => ?_)
  obtain ⟨hi, hf⟩ := hi
  (conv => whnf)
  refine And.intro (fun h2 => ?_) (fun h2 => ?_)
  · have hlt : i < ac.length := by simpa using h2
    have hlt2 : i < bc.length := by omega
    have hrow := rowVTab hlt
    have hrow2 := rowVTab hlt2
    have hs := leq_step (f := q_VTab) hlt hlt2
    have hok := hao _ (List.getElem_mem hlt)
    generalize hci : ac[i] = ci at *
    generalize hdi : bc[i] = di at *
    have hc := q_specTableSame ci.table di.table hok.2
    obtain ⟨a_name, ⟨a_table_first, a_table_changes, a_table_rows, a_table_next⟩⟩ := ci
    obtain ⟨b_name, ⟨b_table_first, b_table_changes, b_table_rows, b_table_next⟩⟩ := di
    (conv => whnf); repeat' (first
    | (refine And.intro ?_ ?_ <;> ((try intro h) <;> (try simp only [Bool.not_true, Bool.not_false] at h) <;> first | exact absurd h Bool.false_ne_true | exact absurd h.symm Bool.false_ne_true | conv => whnf))
    | (refine VL.drawS hTb hMix (by kernel_rfl) (by kernel_rfl) (by kernel_rfl) ?_; conv => whnf)
    | (refine Need.mk ?_; kernel_rfl) | (refine Need.mk ⟨rfl, ?_⟩; decide)
    | (refine VR.op hTb rfl rfl (o_index_imm hTb rfl rfl rfl rfl rfl rfl rfl (by omega) (hrow)) rfl ?_; conv => whnf)
    | (refine DT.op hTb rfl (o_index_imm hTb rfl rfl rfl rfl rfl rfl rfl (by omega) (hrow)) rfl ?_; conv => whnf)
    | (refine VR.op hTb rfl rfl (o_index_imm hTb rfl rfl rfl rfl rfl rfl rfl (by omega) (hrow2)) rfl ?_; conv => whnf)
    | (refine DT.op hTb rfl (o_index_imm hTb rfl rfl rfl rfl rfl rfl rfl (by omega) (hrow2)) rfl ?_; conv => whnf)
    | (refine VR.pure hTb rfl rfl (o_purN (hc) rfl rfl rfl ⟨rfl, rfl, rfl, rfl⟩ rfl) ?_; conv => whnf)
    | (refine DT.pure hTb rfl (o_purN (hc) rfl rfl rfl ⟨rfl, rfl, rfl, rfl⟩ rfl) ?_; conv => whnf))
    all_goals first
      | (rw [k5, hf, hs]
         have e : q_VTab ⟨a_name, ⟨a_table_first, a_table_changes, a_table_rows, a_table_next⟩⟩ ⟨b_name, ⟨b_table_first, b_table_changes, b_table_rows, b_table_next⟩⟩ = false := ?_
         rw [e]; rfl
         clear hi hf hs hc hok hao hac har k5 l1 l2
         simp_all [q_VTab]; done)
      | (refine ⟨i + 1, ⟨hlt, ?_⟩, by omega, wk_to [(102, 102), (103, 103)] rfl rfl rfl ⟨rfl, rfl, congrArg (fun x => Slot.one (.g (.int .i64 x))) (wrap64' (by omega)), trivial⟩ ⟨rfl, ⟨_, rfl, rfl⟩, rfl, ⟨_, rfl, rfl⟩, trivial⟩⟩
         have e : q_VTab ⟨a_name, ⟨a_table_first, a_table_changes, a_table_rows, a_table_next⟩⟩ ⟨b_name, ⟨b_table_first, b_table_changes, b_table_rows, b_table_next⟩⟩ = true := ?_
         rw [hf, hs, e, Bool.true_and]
         clear hi hf hs hc hok hao hac har k5 l1 l2
         simp_all [q_VTab]; done)
  · have hie : i = ac.length := by simp at h2; omega
    subst hie
    rw [leq_end (Nat.le_refl _) (by omega)] at hf
    rw [hf, Bool.true_and] at k5
    (conv => whnf)
    refine VL.loopI hTb (fun i => i ≤ ar.length ∧ leq q_VLink ar br = leq q_VLink (ar.drop i) (br.drop i)) (fun i => ⟨[(2, .one (.ptr 102 0)), (3, .one (.ptr 103 0)), (6, iS i)], [(102, .box (encVBase ⟨ac, ar⟩)), (103, .box (encVBase ⟨bc, br⟩))], []⟩) (fun i => ar.length - i) 0 ⟨Nat.zero_le _, rfl⟩
      (wk_to [(102, 102), (103, 103)] rfl rfl rfl ⟨rfl, rfl, rfl, trivial⟩ ⟨rfl, ⟨_, rfl, rfl⟩, rfl, ⟨_, rfl, rfl⟩, trivial⟩) (fun i hi => ?_)
    obtain ⟨hi, hf⟩ := hi
    (conv => whnf)
    refine And.intro (fun h2 => ?_) (fun h2 => ?_)
    · have hlt : i < ar.length := by simpa using h2
      have hlt2 : i < br.length := by omega
      have hrow := rowVLink hlt
      have hrow2 := rowVLink hlt2
      have hs := leq_step (f := q_VLink) hlt hlt2
      generalize hci : ar[i] = ci at *
      generalize hdi : br[i] = di at *
      obtain ⟨r1, r2, r3, r4⟩ := ci
      obtain ⟨s1, s2, s3, s4⟩ := di
      (conv => whnf); repeat' (first
    | (refine And.intro ?_ ?_ <;> ((try intro h) <;> (try simp only [Bool.not_true, Bool.not_false] at h) <;> first | exact absurd h Bool.false_ne_true | exact absurd h.symm Bool.false_ne_true | conv => whnf))
    | (refine VL.drawS hTb hMix (by kernel_rfl) (by kernel_rfl) (by kernel_rfl) ?_; conv => whnf)
    | (refine Need.mk ?_; kernel_rfl) | (refine Need.mk ⟨rfl, ?_⟩; decide)
    | (refine VR.op hTb rfl rfl (o_index_imm hTb rfl rfl rfl rfl rfl rfl rfl (by omega) (hrow)) rfl ?_; conv => whnf)
    | (refine DT.op hTb rfl (o_index_imm hTb rfl rfl rfl rfl rfl rfl rfl (by omega) (hrow)) rfl ?_; conv => whnf)
    | (refine VR.op hTb rfl rfl (o_index_imm hTb rfl rfl rfl rfl rfl rfl rfl (by omega) (hrow2)) rfl ?_; conv => whnf)
    | (refine DT.op hTb rfl (o_index_imm hTb rfl rfl rfl rfl rfl rfl rfl (by omega) (hrow2)) rfl ?_; conv => whnf))
      · rw [k5, hf, hs]
        have e : q_VLink ⟨r1, r2, r3, r4⟩ ⟨s1, s2, s3, s4⟩ = false := by have e : (!q_VLink ⟨r1, r2, r3, r4⟩ ⟨s1, s2, s3, s4⟩) = true := h; simpa using e
        rw [e]; rfl
      · refine ⟨i + 1, ⟨hlt, ?_⟩, by omega, wk_to [(102, 102), (103, 103)] rfl rfl rfl ⟨rfl, rfl, congrArg (fun x => Slot.one (.g (.int .i64 x))) (wrap64' (by omega)), trivial⟩ ⟨rfl, ⟨_, rfl, rfl⟩, rfl, ⟨_, rfl, rfl⟩, trivial⟩⟩
        have e : q_VLink ⟨r1, r2, r3, r4⟩ ⟨s1, s2, s3, s4⟩ = true := by have e : (!q_VLink ⟨r1, r2, r3, r4⟩ ⟨s1, s2, s3, s4⟩) = false := h; simpa using e
        rw [hf, hs, e, Bool.true_and]
    · have hie : i = ar.length := by simp at h2; omega
      subst hie
      rw [leq_end (Nat.le_refl _) (by omega)] at hf
      (conv => whnf)
      rw [k5, hf]; rfl
end Go.Vl
