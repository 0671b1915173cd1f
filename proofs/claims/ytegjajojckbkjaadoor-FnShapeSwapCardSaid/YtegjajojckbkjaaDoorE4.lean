/- When two things are one; contracts of what asks so. Printed by our own genq.py. -/
import Derived.Test.YtegjajojckbkjaaDoorE0
import Derived.Test.YtegjajojckbkjaaDoorWi
namespace Go.Vl
open Go Go.RowKit Go.Proofs
set_option maxRecDepth 100000
set_option linter.unusedSimpArgs false
set_option linter.unusedVariables false
set_option maxHeartbeats 2000000
def q_Val (a b : Val) : Bool := ((a.k == b.k) && ((a.n == b.n) && ((a.t.toList == b.t.toList) && true)))
def q_Col (a b : Col) : Bool := ((a.name.toList == b.name.toList) && ((a.kind == b.kind) && ((a.need == b.need) && ((a.once == b.once) && ((q_Val a.d b.d) && true)))))
def q_Change (a b : Change) : Bool := ((a.kind == b.kind) && ((a.name.toList == b.name.toList) && ((a.new.toList == b.new.toList) && ((q_Col a.col b.col) && true))))
def q_VLink (a b : VLink) : Bool := ((a.src.toList == b.src.toList) && ((a.col.toList == b.col.toList) && ((a.dst.toList == b.dst.toList) && ((a.how == b.how) && true))))
def q_VRef (a b : VRef) : Bool := ((a.name.toList == b.name.toList) && ((a.id == b.id) && true))
def q_VSet (a b : VSet) : Bool := ((a.name.toList == b.name.toList) && ((q_Val a.val b.val) && true))
def leq {α : Type} (f : α → α → Bool) : List α → List α → Bool
  | a :: us, b :: bs => f a b && leq f us bs
  | [], [] => true
  | _, _ => false
section
variable {α : Type} {f : α → α → Bool} {us bs : List α}
theorem leq_step {i : Nat} (h1 : i < us.length) (h2 : i < bs.length) : leq f (us.drop i) (bs.drop i) = (f us[i] bs[i] && leq f (us.drop (i + 1)) (bs.drop (i + 1))) := by
  rw [List.drop_eq_getElem_cons h1, List.drop_eq_getElem_cons h2, leq]
theorem leq_end {i : Nat} (h1 : us.length ≤ i) (h2 : bs.length ≤ i) : leq f (us.drop i) (bs.drop i) = true := by
  rw [List.drop_of_length_le h1, List.drop_of_length_le h2, leq]
theorem leq_len : ∀ {us bs : List α}, us.length ≠ bs.length → leq f us bs = false
  | [], [], h => absurd rfl h
  | [], _ :: _, _ => rfl
  | _ :: _, [], _ => rfl
  | a :: us, b :: bs, h => by rw [leq, leq_len (by simpa using h), Bool.and_false]
end
def q_VRow (a b : VRow) : Bool := (a.id == b.id) && ((a.ver == b.ver) && leq q_Val a.vals b.vals)
def q_VTable (a b : VTable) : Bool := leq q_Col a.first b.first && (leq q_Change a.changes b.changes && ((a.next == b.next) && leq q_VRow a.rows b.rows))
def q_VTab (a b : VTab) : Bool := (a.name.toList == b.name.toList) && q_VTable a.table b.table
def q_VBase (a b : VBase) : Bool := leq q_VLink a.links b.links && leq q_VTab a.tabs b.tabs
theorem q_EqCols (us bs : List Col) (ha : us.length ≤ maxLen) : CallsV Tryd.prog 61 [colsI us, colsI bs] [] (pureQ (bS (leq q_Col us bs))) := by
  refine pure_walk hTb Tryd.func61 rfl rfl Tryd.ntmps61 (by simp) ?_
  (conv => whnf); repeat' (first | (refine And.intro ?_ ?_ <;> ((try intro h) <;> (try simp only [Bool.not_true, Bool.not_false] at h) <;> first | exact absurd h Bool.false_ne_true | exact absurd h.symm Bool.false_ne_true | conv => whnf)) | (refine Need.mk ?_; kernel_rfl) | (refine Need.mk ⟨rfl, ?_⟩; decide))
  · rw [leq_len (by simp at h; omega)]; rfl
  have hl : us.length = bs.length := by simp at h; omega
  refine VL.loopI hTb (fun i => i ≤ us.length ∧ leq q_Col us bs = leq q_Col (us.drop i) (bs.drop i)) (fun i => ⟨[(0, colsI us), (1, colsI bs), (12, iS ((us.map encCol).length : Nat)), (13, iS i)], [], []⟩) (fun i => us.length - i) 0 ⟨Nat.zero_le _, rfl⟩
    (wk_to [] rfl rfl rfl ⟨rfl, rfl, rfl, rfl, trivial⟩ trivial) (fun i hi => ?_)
  obtain ⟨hi, hf⟩ := hi
  (conv => whnf)
  refine And.intro (fun h2 => ?_) (fun h2 => ?_)
  · have hlt : i < us.length := by simpa using h2
    have hlt2 : i < bs.length := by omega
    have hrow := rowCol hlt
    have hrow2 := rowCol hlt2
    have hs := leq_step (f := q_Col) hlt hlt2
    skip
    generalize hci : us[i] = ci at *
    generalize hdi : bs[i] = di at *
    obtain ⟨a_name, a_kind, a_need, a_once, ⟨a_d_k, a_d_n, a_d_t⟩⟩ := ci
    obtain ⟨b_name, b_kind, b_need, b_once, ⟨b_d_k, b_d_n, b_d_t⟩⟩ := di
    (conv => whnf); repeat' (first
    | (refine And.intro ?_ ?_ <;> ((try intro h) <;> (try simp only [Bool.not_true, Bool.not_false, decide_eq_true_eq, decide_eq_false_iff_not, Int.not_lt, Int.not_le, gt_iff_lt, ge_iff_le] at h) <;> first | exact absurd h Bool.false_ne_true | exact absurd h.symm Bool.false_ne_true | conv => whnf))
    | (refine VL.drawS hTb hMix (by kernel_rfl) (by kernel_rfl) (by kernel_rfl) ?_; conv => whnf)
    | (refine Need.mk ?_; kernel_rfl) | (refine Need.mk ⟨rfl, ?_⟩; decide)
    | (refine VR.op hTb rfl rfl (o_index_imm hTb rfl rfl rfl rfl rfl rfl rfl (by omega) (hrow)) rfl ?_; conv => whnf)
    | (refine DT.op hTb rfl (o_index_imm hTb rfl rfl rfl rfl rfl rfl rfl (by omega) (hrow)) rfl ?_; conv => whnf)
    | (refine VR.op hTb rfl rfl (o_index_imm hTb rfl rfl rfl rfl rfl rfl rfl (by omega) (hrow2)) rfl ?_; conv => whnf)
    | (refine DT.op hTb rfl (o_index_imm hTb rfl rfl rfl rfl rfl rfl rfl (by omega) (hrow2)) rfl ?_; conv => whnf))
    · rw [hf, hs]
      have e : q_Col ⟨a_name, a_kind, a_need, a_once, ⟨a_d_k, a_d_n, a_d_t⟩⟩ ⟨b_name, b_kind, b_need, b_once, ⟨b_d_k, b_d_n, b_d_t⟩⟩ = false := by have e : (!q_Col ⟨a_name, a_kind, a_need, a_once, ⟨a_d_k, a_d_n, a_d_t⟩⟩ ⟨b_name, b_kind, b_need, b_once, ⟨b_d_k, b_d_n, b_d_t⟩⟩) = true := h; simpa using e
      rw [e]; rfl
    · refine ⟨i + 1, ⟨hlt, ?_⟩, by omega, wk_to [] rfl rfl rfl ⟨rfl, rfl, rfl, congrArg (fun x => Slot.one (.g (.int .i64 x))) (wrap64' (by omega)), trivial⟩ trivial⟩
      have e : q_Col ⟨a_name, a_kind, a_need, a_once, ⟨a_d_k, a_d_n, a_d_t⟩⟩ ⟨b_name, b_kind, b_need, b_once, ⟨b_d_k, b_d_n, b_d_t⟩⟩ = true := by have e : (!q_Col ⟨a_name, a_kind, a_need, a_once, ⟨a_d_k, a_d_n, a_d_t⟩⟩ ⟨b_name, b_kind, b_need, b_once, ⟨b_d_k, b_d_n, b_d_t⟩⟩) = false := h; simpa using e
      rw [hf, hs, e, Bool.true_and]
  · (conv => whnf)
    have : i = us.length := by simp at h2; omega
    subst this
    rw [hf, leq_end (Nat.le_refl _) (by omega)]; rfl
end Go.Vl
