/- Laws of tables: how great a table is; the program's TableOk is the reference's. Contracts: tables in memory of their own: copied, marked, held. How great a table is, summed. The types of what is handed in, as leaves. Printed by our own gends.py. Laws: the columns of a table as they are: the program's are the reference's; what it gives back is its own. -/
import Derived.Test.YtdijjjgplhbkkaaGreatDoorJTh
import Derived.Test.YtdijjjgplhbkkaaGreatDoorJTk
import Derived.Test.YtdijjjgplhbkkaaGreatDoorWj
import Derived.Test.YtdijjjgplhbkkaaGreatDoorWk
import Derived.Test.YtdijjjgplhbkkaaGreatDoorJTa
set_option linter.unusedSimpArgs false
set_option linter.unusedVariables false
set_option linter.unnecessarySimpa false

namespace Go.Vl
open Go Go.RowKit Go.Proofs
set_option maxRecDepth 100000
set_option linter.unusedSimpArgs false
set_option linter.unusedVariables false
set_option linter.unnecessarySimpa false
set_option maxHeartbeats 8000000

end Go.Vl

namespace Go.Vl
open Go Go.RowKit Go.Proofs
set_option maxRecDepth 100000
set_option linter.unusedSimpArgs false
set_option linter.unusedVariables false
set_option linter.unnecessarySimpa false
set_option maxHeartbeats 8000000

def encVRowN : VRow → List Leaf
  | ⟨id, ver, vals⟩ => [.g (.int .i64 id), .g (.int .i64 ver), .nst 37 3 (vals.map encVal)]
theorem unN_Val (v : Val) : unNs (encVal v) = encVal v := by obtain ⟨a, b, c⟩ := v; rfl
theorem unN_VRow (r : VRow) : unNs (encVRowN r) = encVRow r := by
  obtain ⟨id, ver, vals⟩ := r
  show [Leaf.g (.int .i64 id), Leaf.g (.int .i64 ver), Leaf.imm 3 (unNss (vals.map encVal))] = _
  rw [unNss_map, List.map_congr_left fun v _ => unN_Val v]; rfl
theorem unN_VRows (l : List VRow) : unNss (l.map encVRowN) = l.map encVRow := by rw [unNss_map, List.map_congr_left fun v _ => unN_VRow v]
theorem plainVals (l : List Val) : ∀ r ∈ l.map encVal, plain r = true := by
  intro r hr
  obtain ⟨v, _, rfl⟩ := List.mem_map.1 hr
  obtain ⟨a, b, c⟩ := v; rfl
abbrev tabS (t : VTable) : Slot := .agg [.own 0 0 t.first.length, .own 1 0 t.changes.length, .own 2 0 t.rows.length, .g (.int .i64 t.next)]
abbrev tabO (t : VTable) : List Ob := [.arr 39 7 (t.first.map encCol), .arr 105 10 (t.changes.map encChange), .reg 35 3 (t.rows.map encVRowN) []]

section
variable {P : Program} {T : Tab} {S : St} {o : Oper}
/-- A cell of such rows read, that holds rows: they are taken out. -/
theorem o_load_outL (hT : TabOk P T) {t : TypeId} {A : Operand} (ho : o.op = .load t A) {i : TI} (hi : T t = some i) (hg : i.d.isAgg = false) {q r j v E sz : Nat} {rows : List (List Leaf)} {hs : List (Nat × Nat × Leaf)} {row : List Leaf} {E2 sz2 len : Nat} {rows2 : List (List Leaf)} (hA : ev S A = .one (.elm q r j))
    (hq : S.obj q = some (.reg E sz rows hs)) (hrow : rows[r]? = some row) (hl : row[j]? = some (.nst E2 sz2 rows2)) (hlen : rows2.length = len) (hh : holeAt hs r j = none) (hv : S.obj v = none) (hv1 : 100 ≤ v) {ob2 : Ob} (ho2 : ob2 = .reg E2 sz2 rows2 [] ∨ (ob2 = .arr E2 sz2 rows2 ∧ ∀ r ∈ rows2, plain r = true)) :
    OpL P S o { dst := .one (.own v 0 len), reads := [q], sets := [(q, .reg E sz rows ((r, j, .own v 0 len) :: hs)), (v, ob2)] } := by
  subst hlen
  exact o_load_out hT ho hi hg hA hq hrow hl hh hv hv1 ho2
end

end Go.Vl

namespace Go.Vl
open Go Go.RowKit Go.Proofs
set_option maxRecDepth 100000
set_option linter.unusedSimpArgs false
set_option linter.unusedVariables false
set_option linter.unnecessarySimpa false
set_option maxHeartbeats 8000000

end Go.Vl

namespace Go.Vl
open Go Go.RowKit Go.Proofs
set_option maxRecDepth 100000
set_option linter.unusedSimpArgs false
set_option linter.unusedVariables false
set_option linter.unnecessarySimpa false
end Go.Vl

namespace Go.Vl
open Go Go.RowKit Go.Proofs
set_option maxRecDepth 100000
set_option linter.unusedSimpArgs false
set_option linter.unusedVariables false
set_option linter.unnecessarySimpa false
set_option maxHeartbeats 8000000

def tSp (t : VTable) : List Col := if tabOk t then tL t else []
theorem tSp_len (t : VTable) : (tSp t).length ≤ t.first.length + t.changes.length := by
  unfold tSp
  split
  · exact tL_len t
  · simp
theorem tSp_md {t : VTable} (h : t.md) : mdCols (tSp t) := by
  unfold tSp
  split
  · exact tL_md h
  · exact fun x hx => by cases hx
theorem c_tShapeO (t : VTable) (ht : t.md) (hs : (shAll t.first t.changes).2 = true) : CallsV Tryz.prog 50 [.agg (encVTable t)] [] (funQ (.one (.own 0 0 (tL t).length)) [] [.arr 39 7 ((tL t).map encCol)]) := by
  have c1 := c_changes t.first t.changes (by have := ht.fc; omega) ht.fm ht.cm
  rw [chGo_tL hs] at c1
  replace c1 : CallsV _ _ _ _ (funQ (shS (tL t, true)) [] (shN (tL t, true))) := c1
  generalize tL t = L at c1 ⊢
  refine funF_walk hTb Tryz.func50 rfl rfl Tryz.ntmps50 (by simp) (by simp) ?_
  (conv => whnf); repeat' (first
    | (refine And.intro ?_ ?_ <;> ((try intro h) <;> (try simp only [Bool.not_true, Bool.not_false, decide_eq_true_eq, decide_eq_false_iff_not, Int.not_lt, Int.not_le, gt_iff_lt, ge_iff_le] at h) <;> first | exact absurd h Bool.false_ne_true | exact absurd h.symm Bool.false_ne_true | conv => whnf))
    | (refine VL.drawS hTb hMix (by kernel_rfl) (by kernel_rfl) (by kernel_rfl) ?_; conv => whnf)
    | (refine Need.mk ?_; kernel_rfl) | (refine Need.mk ⟨rfl, ?_⟩; decide)
    | (refine VR.fun hTb rfl rfl (o_funN (c1) false [] (fun h => by cases h) (by simp) rfl rfl rfl rfl rfl ⟨rfl, rfl, rfl, rfl⟩ rfl rfl) ?_; conv => whnf)
    | (refine DT.fun hTb rfl (o_funN (c1) false [] (fun h => by cases h) (by simp) rfl rfl rfl rfl rfl ⟨rfl, rfl, rfl, rfl⟩ rfl rfl) rfl ?_; conv => whnf))
  exact endW [1040] rfl rfl rfl rfl rfl (LeS.refl _) rfl rfl
theorem c_implTableShape (t : VTable) (ht : t.md) : CallsV Tryz.prog 13 [.agg (encVTable t)] [] (funQ (.one (.own 0 0 (tSp t).length)) [] [.arr 39 7 ((tSp t).map encCol)]) := by
  have c1 := c_implTableOk t ht
  have c2 := fun h => c_tShapeO t ht h
  have hok := fun h : tabOk t = true => (tabOk_iff.1 h).sh
  unfold tSp
  generalize tabOk t = b at c1 hok ⊢
  refine funF_walk hTb Tryz.func13 rfl rfl Tryz.ntmps13 (by simp) (by simp) ?_
  cases b
  · rw [if_neg (by simp)]
    (conv => whnf); repeat' (first
    | (refine And.intro ?_ ?_ <;> ((try intro h) <;> (try simp only [Bool.not_true, Bool.not_false, decide_eq_true_eq, decide_eq_false_iff_not, Int.not_lt, Int.not_le, gt_iff_lt, ge_iff_le] at h) <;> first | exact absurd h Bool.false_ne_true | exact absurd h.symm Bool.false_ne_true | conv => whnf))
    | (refine VL.drawS hTb hMix (by kernel_rfl) (by kernel_rfl) (by kernel_rfl) ?_; conv => whnf)
    | (refine Need.mk ?_; kernel_rfl) | (refine Need.mk ⟨rfl, ?_⟩; decide)
    | (refine VR.pure hTb rfl rfl (o_purN (c1) rfl rfl rfl ⟨rfl, rfl, rfl, rfl⟩ rfl) ?_; conv => whnf)
    | (refine DT.pure hTb rfl (o_purN (c1) rfl rfl rfl ⟨rfl, rfl, rfl, rfl⟩ rfl) ?_; conv => whnf))
    exact EndV.nil 2 102 7 39 rfl rfl (by decide) (endW [102] rfl rfl rfl rfl rfl (LeS.refl _) rfl rfl)
  · rw [if_pos rfl]
    have c2 := c2 (hok rfl)
    (conv => whnf); repeat' (first
    | (refine And.intro ?_ ?_ <;> ((try intro h) <;> (try simp only [Bool.not_true, Bool.not_false, decide_eq_true_eq, decide_eq_false_iff_not, Int.not_lt, Int.not_le, gt_iff_lt, ge_iff_le] at h) <;> first | exact absurd h Bool.false_ne_true | exact absurd h.symm Bool.false_ne_true | conv => whnf))
    | (refine VL.drawS hTb hMix (by kernel_rfl) (by kernel_rfl) (by kernel_rfl) ?_; conv => whnf)
    | (refine Need.mk ?_; kernel_rfl) | (refine Need.mk ⟨rfl, ?_⟩; decide)
    | (refine VR.pure hTb rfl rfl (o_purN (c1) rfl rfl rfl ⟨rfl, rfl, rfl, rfl⟩ rfl) ?_; conv => whnf)
    | (refine DT.pure hTb rfl (o_purN (c1) rfl rfl rfl ⟨rfl, rfl, rfl, rfl⟩ rfl) ?_; conv => whnf)
    | (refine VR.fun hTb rfl rfl (o_funN (c2) false [] (fun h => by cases h) (by simp) rfl rfl rfl rfl rfl ⟨rfl, rfl, rfl, rfl⟩ rfl rfl) ?_; conv => whnf)
    | (refine DT.fun hTb rfl (o_funN (c2) false [] (fun h => by cases h) (by simp) rfl rfl rfl rfl rfl ⟨rfl, rfl, rfl, rfl⟩ rfl rfl) rfl ?_; conv => whnf))
    exact endW [1028] rfl rfl rfl rfl rfl (LeS.refl _) rfl rfl
theorem c_specTableShape (t : VTable) (ht : t.md) : CallsV Tryz.prog 15 [.agg (encVTable t)] [] (pureQ (colsI (tSp t))) := by
  have c1 := c_specTableOk t ht
  have c2 := c_l3Last t ht
  unfold tSp
  generalize tabOk t = b at c1 ⊢
  refine pureF_walk hTb Tryz.func15 rfl rfl Tryz.ntmps15 (by simp) ?_
  cases b
  · rw [if_neg (by simp)]
    (conv => whnf); repeat' (first
    | (refine And.intro ?_ ?_ <;> ((try intro h) <;> (try simp only [Bool.not_true, Bool.not_false, decide_eq_true_eq, decide_eq_false_iff_not, Int.not_lt, Int.not_le, gt_iff_lt, ge_iff_le] at h) <;> first | exact absurd h Bool.false_ne_true | exact absurd h.symm Bool.false_ne_true | conv => whnf))
    | (refine VL.drawS hTb hMix (by kernel_rfl) (by kernel_rfl) (by kernel_rfl) ?_; conv => whnf)
    | (refine Need.mk ?_; kernel_rfl) | (refine Need.mk ⟨rfl, ?_⟩; decide)
    | (refine VR.pure hTb rfl rfl (o_purN (c1) rfl rfl rfl ⟨rfl, rfl, rfl, rfl⟩ rfl) ?_; conv => whnf)
    | (refine DT.pure hTb rfl (o_purN (c1) rfl rfl rfl ⟨rfl, rfl, rfl, rfl⟩ rfl) ?_; conv => whnf))
    exact endFz rfl rfl rfl
  · rw [if_pos rfl]
    (conv => whnf); repeat' (first
    | (refine And.intro ?_ ?_ <;> ((try intro h) <;> (try simp only [Bool.not_true, Bool.not_false, decide_eq_true_eq, decide_eq_false_iff_not, Int.not_lt, Int.not_le, gt_iff_lt, ge_iff_le] at h) <;> first | exact absurd h Bool.false_ne_true | exact absurd h.symm Bool.false_ne_true | conv => whnf))
    | (refine VL.drawS hTb hMix (by kernel_rfl) (by kernel_rfl) (by kernel_rfl) ?_; conv => whnf)
    | (refine Need.mk ?_; kernel_rfl) | (refine Need.mk ⟨rfl, ?_⟩; decide)
    | (refine VR.pure hTb rfl rfl (o_purN (c1) rfl rfl rfl ⟨rfl, rfl, rfl, rfl⟩ rfl) ?_; conv => whnf)
    | (refine DT.pure hTb rfl (o_purN (c1) rfl rfl rfl ⟨rfl, rfl, rfl, rfl⟩ rfl) ?_; conv => whnf)
    | (refine VR.pure hTb rfl rfl (o_purF (c2) rfl rfl rfl ⟨rfl, rfl, rfl, rfl⟩ rfl) ?_; conv => whnf)
    | (refine DT.pure hTb rfl (o_purF (c2) rfl rfl rfl ⟨rfl, rfl, rfl, rfl⟩ rfl) ?_; conv => whnf))
    exact endFz rfl rfl rfl
end Go.Vl
