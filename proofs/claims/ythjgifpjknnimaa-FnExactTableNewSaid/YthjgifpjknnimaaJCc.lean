/- Contracts: a row behind several changes; plain laws of these. Tables: what a right one is; plain laws of it. Contracts: columns and rows of a table as they are, of both; what must stand once. Contracts: what must stand once, of both. Contracts: rows as they are, all; what stands twice; of the reference. Contracts: whether a table is right, of both. Contracts: whether a table is right, of both (2). Contracts: whether a table is right, of the program. Contracts: how great things are. Printed by our own gends.py. Contracts: things turned, things like themselves. Printed by our own gends.py. -/
import Derived.Test.YthjgifpjknnimaaJCb
import Derived.Test.YthjgifpjknnimaaWj
import Derived.Test.YthjgifpjknnimaaWl
import Derived.Test.YthjgifpjknnimaaJCa
import Derived.Test.YthjgifpjknnimaaWi
set_option linter.unusedSimpArgs false
set_option linter.unusedVariables false

namespace Go.Vl
open Go Go.RowKit Go.Proofs
set_option maxRecDepth 100000
set_option linter.unusedSimpArgs false
set_option linter.unusedVariables false
set_option maxHeartbeats 4000000

def rwGo : List Col → List Change → List Val → List Val
  | _, [], row => row
  | s, c :: cs, row => rwGo (shDo s c).1 cs (rwCh s c row)
def rwAll (s : List Col) (list : List Change) (row : List Val) : List Val := if (shAll s list).2 = true ∧ row.length = s.length then rwGo s list row else []
theorem mdChs.take {l : List Change} (h : mdChs l) (k : Nat) : mdChs (l.take k) := fun c hc => h c (List.mem_of_mem_take hc)
theorem mdChs.drop {l : List Change} (h : mdChs l) (k : Nat) : mdChs (l.drop k) := fun c hc => h c (List.mem_of_mem_drop hc)
end Go.Vl

namespace Go.Vl
open Go Go.RowKit Go.Proofs

def tSh (t : VTable) (v : Nat) : List Col := (shAll t.first (t.changes.take v)).1
def tNow (t : VTable) (r : VRow) : List Val := rwAll (tSh t r.ver.toNat) (t.changes.drop r.ver.toNat) r.vals
def tL (t : VTable) : List Col := (shAll t.first t.changes).1
def rowSt (t : VTable) (r : VRow) : Bool := rowOk (tSh t r.ver.toNat) r.vals && rowOk (tL t) (tNow t r)
def idOk (t : VTable) (last : Int) (r : VRow) : Bool := decide (last + 1 ≤ r.id ∧ r.id ≤ t.next - 1 ∧ 0 ≤ r.ver ∧ r.ver ≤ (t.changes.length : Int))
def stGo (t : VTable) : Int → List VRow → Bool
  | _, [] => true
  | last, r :: rs => idOk t last r && (rowSt t r && stGo t r.id rs)
def dupGo : List Val → List Val → Bool
  | _, [] => false
  | seen, v :: vs => (v.k != 0 && seen.any (q_Val v)) || dupGo (seen ++ [v]) vs
def colVs (N : List (List Val)) (k : Nat) : List Val := N.map fun n => n.getD k zVal
def onceAt (L : List Col) (N : List (List Val)) (k : Nat) : Bool := !((L.getD k (kCol 0)).once && dupGo [] (colVs N k))
def onceB (L : List Col) (N : List (List Val)) : Bool := (List.range L.length).all (onceAt L N)
-- maps
-- what follows from a table that is right
structure TOk (t : VTable) : Prop where
  sh : (shAll t.first t.changes).2 = true
  c8 : t.changes.length ≤ 8
  r8 : t.rows.length ≤ 8
  nx : 1 ≤ t.next ∧ t.next ≤ 60
  st : stGo t 0 t.rows = true
  on : onceB (tL t) (t.rows.map (tNow t)) = true
-- sizes
structure VTable.md (t : VTable) : Prop where
  fc : t.first.length + t.changes.length ≤ 1800000
  fm : mdCols t.first
  cm : mdChs t.changes
  r : t.rows.length ≤ 1048576
  rm : ∀ x ∈ t.rows, x.vals.length ≤ 1048576 ∧ mdVals x.vals
end Go.Vl

namespace Go.Vl
open Go Go.RowKit Go.Proofs
set_option maxRecDepth 100000
set_option linter.unusedSimpArgs false
set_option linter.unusedVariables false
set_option maxHeartbeats 4000000

end Go.Vl

namespace Go.Vl
open Go Go.RowKit Go.Proofs
set_option maxRecDepth 100000
set_option linter.unusedSimpArgs false
set_option linter.unusedVariables false
set_option maxHeartbeats 8000000

end Go.Vl

namespace Go.Vl
open Go Go.RowKit Go.Proofs
set_option maxRecDepth 100000
set_option linter.unusedSimpArgs false
set_option linter.unusedVariables false
set_option maxHeartbeats 8000000

end Go.Vl

namespace Go.Vl
open Go Go.RowKit Go.Proofs
set_option maxRecDepth 100000
set_option linter.unusedSimpArgs false
set_option linter.unusedVariables false
set_option maxHeartbeats 8000000

end Go.Vl

namespace Go.Vl
open Go Go.RowKit Go.Proofs
set_option maxRecDepth 100000
set_option linter.unusedSimpArgs false
set_option linter.unusedVariables false
set_option maxHeartbeats 8000000

end Go.Vl

namespace Go.Vl
open Go Go.RowKit Go.Proofs
set_option maxRecDepth 100000
set_option linter.unusedSimpArgs false
set_option linter.unusedVariables false
set_option maxHeartbeats 8000000

end Go.Vl

namespace Go.Vl
open Go Go.RowKit Go.Proofs
set_option maxRecDepth 100000
set_option linter.unusedSimpArgs false
set_option linter.unusedVariables false
set_option maxHeartbeats 2000000
theorem wsub {n : Int} {s : Nat} (h0 : 0 ≤ n) (h1 : n ≤ 1048576) (hs : s ≤ maxLen) : IntKind.i64.wrap (n - (s : Int)) = n - s := by rw [IntKind.wrap_i64]; unfold maxLen at hs; omega
end Go.Vl

namespace Go.Vl
open Go Go.RowKit Go.Proofs
set_option maxRecDepth 100000
set_option linter.unusedSimpArgs false
set_option linter.unusedVariables false
set_option maxHeartbeats 2000000
def trG {α : Type} (enc : α → List Leaf) (z : List Leaf) (l : List α) (i : Nat) : List (List Leaf) := (l.take i).map enc ++ List.replicate (l.length - i) z
section
variable {α : Type} {enc : α → List Leaf} {z : List Leaf} {l : List α}
theorem trG_get {i : Nat} (hi : i ≤ l.length) (k : Nat) : (trG enc z l i)[k]? = if k < i then (l[k]?).map enc else if k < l.length then some z else none := by
  unfold trG
  rw [List.getElem?_append]
  simp only [List.length_map, List.length_take, Nat.min_eq_left hi]
  by_cases h : k < i
  · rw [if_pos h, if_pos h, List.getElem?_map, List.getElem?_take, if_pos h]
  · rw [if_neg h, if_neg h, List.getElem?_replicate]
    by_cases h2 : k < l.length
    · rw [if_pos (by omega), if_pos h2]
    · rw [if_neg (by omega), if_neg h2]
theorem trG_set {i : Nat} (hi : i < l.length) : (trG enc z l i).set i (enc l[i]) = trG enc z l (i + 1) := by
  refine List.ext_getElem? fun k => ?_
  rw [List.getElem?_set, trG_get (by omega), trG_get (by omega)]
  have hlen : (trG enc z l i).length = l.length := by simp [trG]; omega
  by_cases h : i = k
  · subst h
    rw [if_pos rfl, if_pos (by omega), if_pos (by omega), List.getElem?_eq_getElem hi]; rfl
  · rw [if_neg h]
    by_cases h2 : k < i
    · rw [if_pos h2, if_pos (by omega)]
    · rw [if_neg h2, if_neg (show ¬ k < i + 1 by omega)]
theorem trG_all : trG enc z l l.length = l.map enc := by simp [trG]
theorem trG_zero : trG enc z l 0 = List.replicate l.length z := by simp [trG]
theorem trG_at {i : Nat} (hi : i < l.length) : (trG enc z l i)[0 + ((i : Nat) : Int).toNat]? = some z := by
  rw [Int.toNat_natCast, Nat.zero_add, trG_get (by omega), if_neg (by omega), if_pos hi]
end
theorem t_Val (v : Val) (hv : v.sm) : CallsV Try.prog 68 [.agg (encVal v)] [] (pureQ (.agg (encVal v))) := by
  obtain ⟨k, n, t⟩ := v
  simp only [Val.sm] at hv
  refine pureF_walk hTb Try.func68 rfl rfl Try.ntmps68 (by simp) ?_
  (conv => whnf); repeat' (first | (refine And.intro ?_ ?_ <;> ((try intro h) <;> (try simp only [Bool.not_true, Bool.not_false] at h) <;> first | exact absurd h Bool.false_ne_true | exact absurd h.symm Bool.false_ne_true | conv => whnf)) | (refine Need.mk ?_; kernel_rfl) | (refine Need.mk ⟨rfl, ?_⟩; decide))
  all_goals exact endFz rfl rfl rfl
theorem t_Col (v : Col) (hv : v.sm) : CallsV Try.prog 43 [.agg (encCol v)] [] (pureQ (.agg (encCol v))) := by
  obtain ⟨name, kind, need, once, ⟨d_k, d_n, d_t⟩⟩ := v
  simp only [Col.sm] at hv
  refine pureF_walk hTb Try.func43 rfl rfl Try.ntmps43 (by simp) ?_
  (conv => whnf); repeat' (first
    | (refine And.intro ?_ ?_ <;> ((try intro h) <;> (try simp only [Bool.not_true, Bool.not_false, decide_eq_true_eq, decide_eq_false_iff_not, Int.not_lt, Int.not_le, gt_iff_lt, ge_iff_le] at h) <;> first | exact absurd h Bool.false_ne_true | exact absurd h.symm Bool.false_ne_true | conv => whnf))
    | (refine VL.drawS hTb hMix (by kernel_rfl) (by kernel_rfl) (by kernel_rfl) ?_; conv => whnf)
    | (refine Need.mk ?_; kernel_rfl) | (refine Need.mk ⟨rfl, ?_⟩; decide)
    | (refine VR.pure hTb rfl rfl (o_purF (t_Val ⟨_, _, _⟩ (hv)) rfl rfl rfl ⟨rfl, rfl, rfl, rfl⟩ rfl) ?_; conv => whnf)
    | (refine DT.pure hTb rfl (o_purF (t_Val ⟨_, _, _⟩ (hv)) rfl rfl rfl ⟨rfl, rfl, rfl, rfl⟩ rfl) ?_; conv => whnf))
  all_goals exact endFz rfl rfl rfl
theorem t_Cols (l : List Col) (hv : l.length ≤ 1048576 ∧ ∀ x ∈ l, x.sm) : CallsV Try.prog 12 [colsI l] [] (pureQ (colsI l)) := by
  have hl := hv.1
  refine pureF_walk hTb Try.func12 rfl rfl Try.ntmps12 (by simp) ?_
  (conv => whnf); repeat' (first | (refine And.intro ?_ ?_ <;> ((try intro h) <;> (try simp only [Bool.not_true, Bool.not_false] at h) <;> first | exact absurd h Bool.false_ne_true | exact absurd h.symm Bool.false_ne_true | conv => whnf)) | (refine Need.mk ?_; kernel_rfl) | (refine Need.mk ⟨rfl, ?_⟩; decide))
  refine VR.op hTb rfl rfl (o_make (q := 107) hTb rfl rfl rfl rfl rfl rfl (by decide) (by show 64 * _ ≤ _; simp; omega) (by unfold maxLen; simp; omega) rfl (by omega)) rfl ?_
  (conv => whnf); repeat' (first | (refine And.intro ?_ ?_ <;> ((try intro h) <;> (try simp only [Bool.not_true, Bool.not_false] at h) <;> first | exact absurd h Bool.false_ne_true | exact absurd h.symm Bool.false_ne_true | conv => whnf)) | (refine Need.mk ?_; kernel_rfl) | (refine Need.mk ⟨rfl, ?_⟩; decide))
  refine VL.loopI hTb (fun i => i ≤ l.length) (fun i => ⟨[(0, colsI l), (3, .one (.own 107 0 (l.map encCol).length)), (4, iS i)], [(107, .arr 40 7 (trG encCol [.g (.string ⟨#[]⟩), .g (.int .i64 0), .g (.bool false), .g (.bool false), .g (.int .i64 0), .g (.int .i64 0), .g (.string ⟨#[]⟩)] l i))], []⟩) (fun i => l.length - i) 0 (Nat.zero_le _)
    (wk_to [(107, 107)] rfl rfl rfl ⟨rfl, rfl, rfl, trivial⟩ ⟨rfl, ⟨_, rfl, ?_⟩, trivial⟩) (fun i hi => ?_)
  · rw [trG_zero, ← List.length_map (f := encCol)]; rfl
  (conv => whnf)
  refine And.intro (fun h2 => ?_) (fun h2 => ?_)
  · have hlt : i < l.length := by simpa using h2
    have hrow := rowCol hlt
    have hz := trG_at (enc := encCol) (z := [.g (.string ⟨#[]⟩), .g (.int .i64 0), .g (.bool false), .g (.bool false), .g (.int .i64 0), .g (.int .i64 0), .g (.string ⟨#[]⟩)]) hlt
    have hc := t_Col l[i] (hv.2 _ (List.getElem_mem hlt))
    generalize hci : l[i] = ci at hrow hc
    obtain ⟨name, kind, need, once, ⟨d_k, d_n, d_t⟩⟩ := ci
    (conv => whnf); repeat' (first
    | (refine And.intro ?_ ?_ <;> ((try intro h) <;> (try simp only [Bool.not_true, Bool.not_false, decide_eq_true_eq, decide_eq_false_iff_not, Int.not_lt, Int.not_le, gt_iff_lt, ge_iff_le] at h) <;> first | exact absurd h Bool.false_ne_true | exact absurd h.symm Bool.false_ne_true | conv => whnf))
    | (refine VL.drawS hTb hMix (by kernel_rfl) (by kernel_rfl) (by kernel_rfl) ?_; conv => whnf)
    | (refine Need.mk ?_; kernel_rfl) | (refine Need.mk ⟨rfl, ?_⟩; decide)
    | (refine VR.op hTb rfl rfl (o_index_imm hTb rfl rfl rfl rfl rfl rfl rfl (by omega) (hrow)) rfl ?_; conv => whnf)
    | (refine DT.op hTb rfl (o_index_imm hTb rfl rfl rfl rfl rfl rfl rfl (by omega) (hrow)) rfl ?_; conv => whnf)
    | (refine VR.pure hTb rfl rfl (o_purF (hc) rfl rfl rfl ⟨rfl, rfl, rfl, rfl⟩ rfl) ?_; conv => whnf)
    | (refine DT.pure hTb rfl (o_purF (hc) rfl rfl rfl ⟨rfl, rfl, rfl, rfl⟩ rfl) ?_; conv => whnf)
    | (refine Need.mk ?_; exact ⟨rfl, by omega, by first | (simp; done) | (simp; omega)⟩)
    | (refine VR.op hTb rfl rfl (o_store_elm hTb rfl rfl rfl rfl rfl (hz) rfl rfl rfl ⟨rfl, by decide⟩) rfl ?_; conv => whnf)
    | (refine DT.op hTb rfl (o_store_elm hTb rfl rfl rfl rfl rfl (hz) rfl rfl rfl ⟨rfl, by decide⟩) rfl ?_; conv => whnf))
    refine ⟨i + 1, hlt, by omega, wk_to [(107, 107)] rfl rfl rfl ⟨rfl, rfl, congrArg (fun x => Slot.one (.g (.int .i64 x))) (wrap64' (by unfold maxLen; omega)), trivial⟩ ⟨rfl, ⟨_, rfl, ?_⟩, trivial⟩⟩
    show Ob.arr _ 7 ((trG encCol _ l i).set (0 + ((i : Nat) : Int).toNat) (encCol ⟨name, kind, need, once, ⟨d_k, d_n, d_t⟩⟩)) = _
    rw [Int.toNat_natCast, Nat.zero_add, ← hci, trG_set hlt]
  · (conv => whnf)
    have : i = l.length := by simp at h2; omega
    subst this
    refine endFz rfl rfl ?_
    show Slot.one (.imm 7 (((trG encCol _ l l.length).drop 0).take (l.map encCol).length)) = _
    rw [trG_all, List.drop_zero, List.take_length] <;> rfl
end Go.Vl
