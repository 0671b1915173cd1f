/- Laws: the columns of a table as they are: the program's are the reference's; what it gives back is its own. Laws: a row of a table as it is now: the program's is the reference's; what it gives back is its own. Law: a row of a table as it is now. Rows of a table that hold a value, told by their ids: both sides; integers marked, held. -/
import Derived.Test.YtddefkbmiicnbaaGreatDoorJBk
set_option linter.unusedSimpArgs false
set_option linter.unusedVariables false

namespace Go.Vl
open Go Go.RowKit Go.Proofs
set_option maxRecDepth 100000
set_option linter.unusedSimpArgs false
set_option linter.unusedVariables false
set_option maxHeartbeats 8000000

theorem w_IntL {m : Nat} {ls : List Leaf} (h : WT Tryz.prog (m + 1) 3 ls) : ∃ v : Int, ls = [.g (.int .i64 v)] := by
  obtain ⟨v1, e1, _⟩ := wt_int Tryz.underlying3 h
  exact ⟨v1, e1⟩
theorem w_StrL {m : Nat} {ls : List Leaf} (h : WT Tryz.prog (m + 1) 9 ls) : ∃ v : ByteArray, ls = [.g (.string v)] := by
  obtain ⟨v1, e1, _⟩ := wt_string Tryz.underlying9 h
  exact ⟨v1, e1⟩
theorem brwTab (t : VTable) : Slot.agg [.imm 7 (((t.first.map encCol).drop 0).take t.first.length), .imm 10 (((t.changes.map encChange).drop 0).take t.changes.length), .imm 3 (((unNss (t.rows.map encVRowN)).drop 0).take t.rows.length), .g (.int .i64 t.next)] = .agg (encVTable t) := by
  rw [unN_VRows, fzC, fzH, List.drop_zero, List.take_of_length_le (by simp)]; rfl
def tSp (t : VTable) : List Col := if tabOk t then tL t else []
theorem tSp_len (t : VTable) : (tSp t).length ≤ t.first.length + t.changes.length := by
  unfold tSp
  split
  · exact tL_len t
  · simp
theorem tSp_md {t : VTable} (h : t.md) : mdCols (tSp t) := by
  unfold tSp
  split
  · exact tL_md h
  · exact fun x hx => by cases hx
theorem c_tShapeO (t : VTable) (ht : t.md) (hs : (shAll t.first t.changes).2 = true) : CallsV Tryz.prog 86 [.agg (encVTable t)] [] (funQ (.one (.own 0 0 (tL t).length)) [] [.arr 49 7 ((tL t).map encCol)]) := by
  have c1 := c_changes t.first t.changes (by have := ht.fc; omega) ht.fm ht.cm
  rw [chGo_tL hs] at c1
  replace c1 : CallsV _ _ _ _ (funQ (shS (tL t, true)) [] (shN (tL t, true))) := c1
  generalize tL t = L at c1 ⊢
  refine funF_walk hTb Tryz.func86 rfl rfl Tryz.ntmps86 (by simp) (by simp) ?_
  (conv => whnf); repeat' (first
    | (refine And.intro ?_ ?_ <;> ((try intro h) <;> (try simp only [Bool.not_true, Bool.not_false, decide_eq_true_eq, decide_eq_false_iff_not, Int.not_lt, Int.not_le, gt_iff_lt, ge_iff_le] at h) <;> first | exact absurd h Bool.false_ne_true | exact absurd h.symm Bool.false_ne_true | conv => whnf))
    | (refine VL.drawS hTb hMix (by kernel_rfl) (by kernel_rfl) (by kernel_rfl) ?_; conv => whnf)
    | (refine Need.mk ?_; kernel_rfl) | (refine Need.mk ⟨rfl, ?_⟩; decide)
    | (refine VR.fun hTb rfl rfl (o_funN (c1) false [] (fun h => by cases h) (by simp) rfl rfl rfl rfl rfl ⟨rfl, rfl, rfl, rfl⟩ rfl rfl) ?_; conv => whnf)
    | (refine DT.fun hTb rfl (o_funN (c1) false [] (fun h => by cases h) (by simp) rfl rfl rfl rfl rfl ⟨rfl, rfl, rfl, rfl⟩ rfl rfl) rfl ?_; conv => whnf))
  exact endW [1040] rfl rfl rfl rfl rfl (LeS.refl _) rfl rfl
theorem c_implTableShape (t : VTable) (ht : t.md) : CallsV Tryz.prog 20 [.agg (encVTable t)] [] (funQ (.one (.own 0 0 (tSp t).length)) [] [.arr 49 7 ((tSp t).map encCol)]) := by
  have c1 := c_implTableOk t ht
  have c2 := fun h => c_tShapeO t ht h
  have hok := fun h : tabOk t = true => (tabOk_iff.1 h).sh
  unfold tSp
  generalize tabOk t = b at c1 hok ⊢
  refine funF_walk hTb Tryz.func20 rfl rfl Tryz.ntmps20 (by simp) (by simp) ?_
  cases b
  · rw [if_neg (by simp)]
    (conv => whnf); repeat' (first
    | (refine And.intro ?_ ?_ <;> ((try intro h) <;> (try simp only [Bool.not_true, Bool.not_false, decide_eq_true_eq, decide_eq_false_iff_not, Int.not_lt, Int.not_le, gt_iff_lt, ge_iff_le] at h) <;> first | exact absurd h Bool.false_ne_true | exact absurd h.symm Bool.false_ne_true | conv => whnf))
    | (refine VL.drawS hTb hMix (by kernel_rfl) (by kernel_rfl) (by kernel_rfl) ?_; conv => whnf)
    | (refine Need.mk ?_; kernel_rfl) | (refine Need.mk ⟨rfl, ?_⟩; decide)
    | (refine VR.pure hTb rfl rfl (o_purN (c1) rfl rfl rfl ⟨rfl, rfl, rfl, rfl⟩ rfl) ?_; conv => whnf)
    | (refine DT.pure hTb rfl (o_purN (c1) rfl rfl rfl ⟨rfl, rfl, rfl, rfl⟩ rfl) ?_; conv => whnf))
    exact EndV.nil 2 102 7 49 rfl rfl (by decide) (endW [102] rfl rfl rfl rfl rfl (LeS.refl _) rfl rfl)
  · rw [if_pos rfl]
    have c2 := c2 (hok rfl)
    (conv => whnf); repeat' (first
    | (refine And.intro ?_ ?_ <;> ((try intro h) <;> (try simp only [Bool.not_true, Bool.not_false, decide_eq_true_eq, decide_eq_false_iff_not, Int.not_lt, Int.not_le, gt_iff_lt, ge_iff_le] at h) <;> first | exact absurd h Bool.false_ne_true | exact absurd h.symm Bool.false_ne_true | conv => whnf))
    | (refine VL.drawS hTb hMix (by kernel_rfl) (by kernel_rfl) (by kernel_rfl) ?_; conv => whnf)
    | (refine Need.mk ?_; kernel_rfl) | (refine Need.mk ⟨rfl, ?_⟩; decide)
    | (refine VR.pure hTb rfl rfl (o_purN (c1) rfl rfl rfl ⟨rfl, rfl, rfl, rfl⟩ rfl) ?_; conv => whnf)
    | (refine DT.pure hTb rfl (o_purN (c1) rfl rfl rfl ⟨rfl, rfl, rfl, rfl⟩ rfl) ?_; conv => whnf)
    | (refine VR.fun hTb rfl rfl (o_funN (c2) false [] (fun h => by cases h) (by simp) rfl rfl rfl rfl rfl ⟨rfl, rfl, rfl, rfl⟩ rfl rfl) ?_; conv => whnf)
    | (refine DT.fun hTb rfl (o_funN (c2) false [] (fun h => by cases h) (by simp) rfl rfl rfl rfl rfl ⟨rfl, rfl, rfl, rfl⟩ rfl rfl) rfl ?_; conv => whnf))
    exact endW [1028] rfl rfl rfl rfl rfl (LeS.refl _) rfl rfl
theorem c_specTableShape (t : VTable) (ht : t.md) : CallsV Tryz.prog 22 [.agg (encVTable t)] [] (pureQ (colsI (tSp t))) := by
  have c1 := c_specTableOk t ht
  have c2 := c_l3Last t ht
  unfold tSp
  generalize tabOk t = b at c1 ⊢
  refine pureF_walk hTb Tryz.func22 rfl rfl Tryz.ntmps22 (by simp) ?_
  cases b
  · rw [if_neg (by simp)]
    (conv => whnf); repeat' (first
    | (refine And.intro ?_ ?_ <;> ((try intro h) <;> (try simp only [Bool.not_true, Bool.not_false, decide_eq_true_eq, decide_eq_false_iff_not, Int.not_lt, Int.not_le, gt_iff_lt, ge_iff_le] at h) <;> first | exact absurd h Bool.false_ne_true | exact absurd h.symm Bool.false_ne_true | conv => whnf))
    | (refine VL.drawS hTb hMix (by kernel_rfl) (by kernel_rfl) (by kernel_rfl) ?_; conv => whnf)
    | (refine Need.mk ?_; kernel_rfl) | (refine Need.mk ⟨rfl, ?_⟩; decide)
    | (refine VR.pure hTb rfl rfl (o_purN (c1) rfl rfl rfl ⟨rfl, rfl, rfl, rfl⟩ rfl) ?_; conv => whnf)
    | (refine DT.pure hTb rfl (o_purN (c1) rfl rfl rfl ⟨rfl, rfl, rfl, rfl⟩ rfl) ?_; conv => whnf))
    exact endFz rfl rfl rfl
  · rw [if_pos rfl]
    (conv => whnf); repeat' (first
    | (refine And.intro ?_ ?_ <;> ((try intro h) <;> (try simp only [Bool.not_true, Bool.not_false, decide_eq_true_eq, decide_eq_false_iff_not, Int.not_lt, Int.not_le, gt_iff_lt, ge_iff_le] at h) <;> first | exact absurd h Bool.false_ne_true | exact absurd h.symm Bool.false_ne_true | conv => whnf))
    | (refine VL.drawS hTb hMix (by kernel_rfl) (by kernel_rfl) (by kernel_rfl) ?_; conv => whnf)
    | (refine Need.mk ?_; kernel_rfl) | (refine Need.mk ⟨rfl, ?_⟩; decide)
    | (refine VR.pure hTb rfl rfl (o_purN (c1) rfl rfl rfl ⟨rfl, rfl, rfl, rfl⟩ rfl) ?_; conv => whnf)
    | (refine DT.pure hTb rfl (o_purN (c1) rfl rfl rfl ⟨rfl, rfl, rfl, rfl⟩ rfl) ?_; conv => whnf)
    | (refine VR.pure hTb rfl rfl (o_purF (c2) rfl rfl rfl ⟨rfl, rfl, rfl, rfl⟩ rfl) ?_; conv => whnf)
    | (refine DT.pure hTb rfl (o_purF (c2) rfl rfl rfl ⟨rfl, rfl, rfl, rfl⟩ rfl) ?_; conv => whnf))
    exact endFz rfl rfl rfl
theorem tabW_le {t : VTable} (h : t.first.length + t.changes.length ≤ 1048576) (h2 : rowsW (lens t.rows) ≤ 3145728) : 1 + tabW t.first.length t.changes.length (lens t.rows) ≤ 1000000000 := by unfold tabW; omega
theorem c_FnExactTableShape (t : VTable) (hv : t.ok) : CallsV Tryz.prog 8 [.agg (encVTable t)] [] (pureQ (bS true)) := by
  refine pure_walk hTb Tryz.func8 rfl rfl Tryz.ntmps8 (by simp) ?_
  (conv => whnf); repeat' (first
    | (refine And.intro ?_ ?_ <;> ((try intro h) <;> (try simp only [Bool.not_true, Bool.not_false, decide_eq_true_eq, decide_eq_false_iff_not, Int.not_lt, Int.not_le, gt_iff_lt, ge_iff_le] at h) <;> first | exact absurd h Bool.false_ne_true | exact absurd h.symm Bool.false_ne_true | conv => whnf))
    | (refine VL.drawS hTb hMix (by kernel_rfl) (by kernel_rfl) (by kernel_rfl) ?_; conv => whnf)
    | (refine Need.mk ?_; kernel_rfl) | (refine Need.mk ⟨rfl, ?_⟩; decide)
    | (refine VR.rel hTb rfl rfl (o_relN (y_VTableN t hv _ (by omega) (by omega)) false [] (fun _ _ => ⟨by simp, fun h => by cases h⟩) rfl rfl rfl rfl rfl ⟨rfl, rfl, rfl, rfl⟩ rfl rfl) ?_; rintro y1 hy1; (try simp only at hy1); conv => whnf)
    | (refine DT.rel hTb rfl (o_relN (y_VTableN t hv _ (by omega) (by omega)) false [] (fun _ _ => ⟨by simp, fun h => by cases h⟩) rfl rfl rfl rfl rfl ⟨rfl, rfl, rfl, rfl⟩ rfl rfl) [] (by kernel_rfl) (by kernel_rfl) ?_; rintro y1 hy1; (try simp only at hy1); refine And.intro rfl (And.intro rfl ?_); conv => whnf))
  · rfl
  have h1 : 0 ≤ y1 := by first | omega | (simp at h; omega)
  obtain ⟨hm, h2, hw⟩ := hy1.2 h1
  have cT := t_VTable t (md_sm hm h2)
  have uT := u_VTable t hm h2
  have c1 := c_implTableShape t hm
  have c2 := c_specTableShape t hm
  have eT := e_VTable t hv
  have hxl := tSp_len t
  have eX := e_Cols (tSp t) ⟨lmax (by omega), (tSp_md hm).ok⟩
  have mT := c_markTable t 1 (by omega) (by omega) (by have := hm.r; omega) (fun x hx => by have := (hm.rm x hx).1; omega) (by omega) (tabW_le h2 hw)
  have mX := c_markCols (tSp t) 1 (by omega) (by omega) (by omega)
  have hX := c_heldCols (tSp t).length 1 (by omega) (by omega) (by omega)
  generalize tSp t = x at c1 c2 hxl eX mX hX
  have n1 : ¬ (((1 + tabW t.first.length t.changes.length (lens t.rows) : Nat) : Int) < 0) := by omega
  have n2 : ¬ (((1 + 7 * x.length : Nat) : Int) < 0) := by omega
  (conv => whnf); repeat' (first
    | (exact absurd h n1)
    | (exact absurd h n2)
    | (refine absurd h ?_; (simp; done))
    | (refine And.intro ?_ ?_ <;> ((try intro h) <;> (try simp only [Bool.not_true, Bool.not_false, decide_eq_true_eq, decide_eq_false_iff_not, Int.not_lt, Int.not_le, gt_iff_lt, ge_iff_le] at h) <;> first | exact absurd h Bool.false_ne_true | exact absurd h.symm Bool.false_ne_true | conv => whnf))
    | (refine VL.drawS hTb hMix (by kernel_rfl) (by kernel_rfl) (by kernel_rfl) ?_; conv => whnf)
    | (refine Need.mk ?_; kernel_rfl) | (refine Need.mk ⟨rfl, ?_⟩; decide)
    | (refine VR.fun (o := ⟨some 20, _, _, _, _, _⟩) hTb rfl rfl (o_funN uT false [] (fun h => by cases h) (by simp) rfl rfl rfl rfl rfl ⟨rfl, rfl, rfl, rfl⟩ rfl rfl) ?_; conv => whnf)
    | (refine VR.pure hTb rfl rfl (o_purF (cT) rfl rfl rfl ⟨rfl, rfl, rfl, rfl⟩ rfl) ?_; conv => whnf)
    | (refine DT.pure hTb rfl (o_purF (cT) rfl rfl rfl ⟨rfl, rfl, rfl, rfl⟩ rfl) ?_; conv => whnf)
    | (refine VR.pure hTb rfl rfl (o_purF (c2) rfl rfl rfl ⟨rfl, rfl, rfl, rfl⟩ rfl) ?_; conv => whnf)
    | (refine DT.pure hTb rfl (o_purF (c2) rfl rfl rfl ⟨rfl, rfl, rfl, rfl⟩ rfl) ?_; conv => whnf)
    | (refine VR.fun hTb rfl rfl (o_funN (c1) false [] (fun h => by cases h) (by simp) rfl rfl rfl rfl rfl ⟨rfl, rfl, rfl, rfl⟩ rfl rfl) ?_; conv => whnf)
    | (refine DT.fun hTb rfl (o_funN (c1) false [] (fun h => by cases h) (by simp) rfl rfl rfl rfl rfl ⟨rfl, rfl, rfl, rfl⟩ rfl rfl) rfl ?_; conv => whnf)
    | (refine VR.fun hTb rfl rfl (o_funN (c1) true [] (fun _ => grNewCol _ _) (by simp) rfl rfl rfl rfl rfl ⟨rfl, rfl, rfl, rfl⟩ ?_ rfl) ?_; exact congrArg (fun s => [s]) (brwTab t); conv => whnf)
    | (refine DT.fun hTb rfl (o_funN (c1) true [] (fun _ => grNewCol _ _) (by simp) rfl rfl rfl rfl rfl ⟨rfl, rfl, rfl, rfl⟩ ?_ rfl) rfl ?_; exact congrArg (fun s => [s]) (brwTab t); conv => whnf)
    | (refine VR.pure hTb rfl rfl (o_purN (eX) rfl rfl rfl ⟨rfl, rfl, rfl, rfl⟩ (congrArg (fun s => [s, _]) brw)) ?_; conv => whnf)
    | (refine DT.pure hTb rfl (o_purN (eX) rfl rfl rfl ⟨rfl, rfl, rfl, rfl⟩ (congrArg (fun s => [s, _]) brw)) ?_; conv => whnf)
    | (refine VR.pure hTb rfl rfl (o_purN (eX) rfl rfl rfl ⟨rfl, rfl, rfl, rfl⟩ (congrArg (fun s => [s, _]) brw')) ?_; conv => whnf)
    | (refine DT.pure hTb rfl (o_purN (eX) rfl rfl rfl ⟨rfl, rfl, rfl, rfl⟩ (congrArg (fun s => [s, _]) brw')) ?_; conv => whnf)
    | (refine VR.pure hTb rfl rfl (o_purN (eX) rfl rfl rfl ⟨rfl, rfl, rfl, rfl⟩ (congrArg (fun s => [s, _]) (brwG (by simp)))) ?_; conv => whnf)
    | (refine DT.pure hTb rfl (o_purN (eX) rfl rfl rfl ⟨rfl, rfl, rfl, rfl⟩ (congrArg (fun s => [s, _]) (brwG (by simp)))) ?_; conv => whnf)
    | (refine DT.pure hTb rfl (o_purN eT rfl rfl rfl ⟨rfl, rfl, rfl, rfl⟩ ?_) ?_; exact congrArg (fun s => [s, _]) (brwTab t); conv => whnf)
    | (refine VR.pure hTb rfl rfl (o_purN eT rfl rfl rfl ⟨rfl, rfl, rfl, rfl⟩ ?_) ?_; exact congrArg (fun s => [s, _]) (brwTab t); conv => whnf)
    | (refine VR.fun hTb rfl rfl (o_funN (mT) false [1080, 1081, 1082] (fun h => by cases h) (by simp) rfl rfl rfl rfl rfl ⟨rfl, rfl, rfl, rfl⟩ rfl rfl) ?_; conv => whnf)
    | (refine DT.fun hTb rfl (o_funN (mT) false [1080, 1081, 1082] (fun h => by cases h) (by simp) rfl rfl rfl rfl rfl ⟨rfl, rfl, rfl, rfl⟩ rfl rfl) rfl ?_; conv => whnf)
    | (refine VR.fun hTb rfl rfl (o_funN (mX) false [1088] (fun h => by cases h) (by simp) rfl rfl rfl rfl rfl ⟨rfl, rfl, rfl, rfl⟩ rfl rfl) ?_; conv => whnf)
    | (refine DT.fun hTb rfl (o_funN (mX) false [1088] (fun h => by cases h) (by simp) rfl rfl rfl rfl rfl ⟨rfl, rfl, rfl, rfl⟩ rfl rfl) rfl ?_; conv => whnf)
    | (refine VR.pure hTb rfl rfl (o_purN hX rfl rfl rfl ⟨rfl, rfl, rfl, rfl⟩ ?_) ?_; exact two_sl (brwG (by simp [mkCols])) rfl; conv => whnf))
  all_goals first
    | rfl
    | trace_state
end Go.Vl

namespace Go.Vl
open Go Go.RowKit Go.Proofs
set_option maxRecDepth 100000
set_option linter.unusedSimpArgs false
set_option linter.unusedVariables false
set_option maxHeartbeats 8000000

def atId (n : Int) : List VRow → Nat → Int
  | [], _ => -1
  | r :: rs, i => if r.id == n then (i : Int) else atId n rs (i + 1)
def tAt (t : VTable) (n : Int) : Int := atId n t.rows 0
theorem atId_step {rs : List VRow} {n : Int} {i : Nat} (h : i < rs.length) : atId n (rs.drop i) i = if rs[i].id == n then (i : Int) else atId n (rs.drop (i + 1)) (i + 1) := by
  rw [List.drop_eq_getElem_cons h, atId]
theorem atId_end {rs : List VRow} {n : Int} {i : Nat} (h : rs.length ≤ i) : atId n (rs.drop i) i = -1 := by
  rw [List.drop_of_length_le h, atId]
theorem atId_lt (n : Int) : ∀ (rs : List VRow) (i : Nat), -1 ≤ atId n rs i ∧ atId n rs i < (i + rs.length : Nat)
  | [], i => by simp only [atId]; omega
  | r :: rs, i => by
    have h := atId_lt n rs (i + 1)
    rw [atId, List.length_cons]
    split <;> omega
theorem tAt_lt (t : VTable) (n : Int) : -1 ≤ tAt t n ∧ tAt t n < (t.rows.length : Nat) := by
  have h := atId_lt n t.rows 0
  unfold tAt; omega
def zRow : VRow := ⟨0, 0, []⟩
def tRow (t : VTable) (n : Int) : VRow := t.rows.getD (tAt t n).toNat zRow
def tRw (t : VTable) (n : Int) : List Val × Bool := if tabOk t = true ∧ ¬ tAt t n < 0 then (tNow t (tRow t n), true) else ([], false)
abbrev rvS (x : List Val × Bool) : Slot := .tup [(false, [.own 0 0 x.1.length]), (false, [.g (.bool x.2)])]
abbrev rvN (x : List Val × Bool) : List Ob := [.arr 47 3 (x.1.map encVal)]
theorem grRvS (x : List Val × Bool) : GrS (rvS x) ∧ (∀ ob, some ob ∈ ([] : List (Option Ob)) → GrO ob) ∧ ∀ ob ∈ rvN x, GrO ob := by
  refine ⟨?_, fun _ h => by simp at h, fun ob h => by simp at h; subst h; exact grVals _⟩
  intro y hy l hl
  simp at hy
  rcases hy with rfl | rfl <;> simp at hl <;> subst hl <;> rfl
theorem tRow_mem {t : VTable} {n : Int} (h : ¬ tAt t n < 0) : ∃ hi : (tAt t n).toNat < t.rows.length, tRow t n = t.rows[(tAt t n).toNat] := by
  have := tAt_lt t n
  have hi : (tAt t n).toNat < t.rows.length := by omega
  exact ⟨hi, by unfold tRow; simp [hi]⟩
theorem tRow_at {t : VTable} {n : Int} (h : ¬ tAt t n < 0) : (t.rows.map encVRow)[(tAt t n).toNat]? = some (encVRow (tRow t n)) := by
  obtain ⟨hi, e⟩ := tRow_mem h
  rw [e, List.getElem?_map, List.getElem?_eq_getElem hi]; rfl
theorem rowFacts {t : VTable} (h : tabOk t = true) {i : Nat} (hi : i < t.rows.length) : (0 ≤ t.rows[i].ver ∧ t.rows[i].ver ≤ (t.changes.length : Int)) ∧ t.rows[i].vals.length = (tSh t t.rows[i].ver.toNat).length := by
  have hk := tabOk_iff.1 h
  obtain ⟨_, _, h3, h4, _⟩ := stGo_at hk.st i hi
  unfold rowSt at h4
  rw [Bool.and_eq_true] at h4
  exact ⟨h3, rowOk_len h4.1⟩
theorem tRow_facts {t : VTable} {n : Int} (ht : t.md) (hk : tabOk t = true) (h : ¬ tAt t n < 0) : (0 ≤ (tRow t n).ver ∧ (tRow t n).ver ≤ (t.changes.length : Int)) ∧ (tRow t n).vals.length = (tSh t (tRow t n).ver.toNat).length ∧ (tRow t n).vals.length ≤ 1048576 ∧ mdVals (tRow t n).vals := by
  obtain ⟨hi, e⟩ := tRow_mem h
  rw [e]
  exact ⟨(rowFacts hk hi).1, (rowFacts hk hi).2, ht.rm _ (List.getElem_mem hi)⟩
def idBox (n : Int) : Ob := .box [.g (.int .i64 n)]
theorem c_rowAt1 (r : VRow) (n : Int) : CallsV Tryz.prog 162 [.agg (encVRow r), .one (.ptr 0 0)] [idBox n] (funQ (bS (r.id == n)) [some (idBox n)] []) := by
  refine fun_walk hTb Tryz.func162 rfl rfl Tryz.ntmps162 (by simp) (by simp) ?_
  (conv => whnf); repeat' (first | (refine And.intro ?_ ?_ <;> ((try intro h) <;> (try simp only [Bool.not_true, Bool.not_false] at h) <;> first | exact absurd h Bool.false_ne_true | exact absurd h.symm Bool.false_ne_true | conv => whnf)) | (refine Need.mk ?_; kernel_rfl) | (refine Need.mk ⟨rfl, ?_⟩; decide))
  exact endG [] rfl rfl rfl rfl rfl ⟨rfl, rfl, rfl⟩
theorem c_indexRow (rs : List VRow) (n : Int) (hl : rs.length ≤ maxLen) : CallsV Tryz.prog 161 [vrowsI rs, .one (.clo 162 [0])] [idBox n] (funQ (iS (atId n rs 0)) [some (idBox n)] []) := by
  refine fun_walk hTb Tryz.func161 rfl rfl Tryz.ntmps161 (by simp) (by simp) ?_
  (conv => whnf); repeat' (first | (refine And.intro ?_ ?_ <;> ((try intro h) <;> (try simp only [Bool.not_true, Bool.not_false] at h) <;> first | exact absurd h Bool.false_ne_true | exact absurd h.symm Bool.false_ne_true | conv => whnf)) | (refine Need.mk ?_; kernel_rfl) | (refine Need.mk ⟨rfl, ?_⟩; decide))
  refine VL.loopI hTb (fun i => i ≤ rs.length ∧ atId n rs 0 = atId n (rs.drop i) i) (fun i => ⟨[(0, vrowsI rs), (1, .one (.clo 162 [0])), (7, iS ((rs.map encVRow).length : Nat)), (8, iS i)], [(0, idBox n)], []⟩) (fun i => rs.length - i) 0 ⟨Nat.zero_le _, rfl⟩
    (wk_to [(0, 0)] rfl rfl rfl ⟨rfl, rfl, rfl, rfl, trivial⟩ ⟨rfl, ⟨_, rfl, rfl⟩, trivial⟩) (fun i hi => ?_)
  obtain ⟨hi, hf⟩ := hi
  (conv => whnf)
  refine And.intro (fun h2 => ?_) (fun h2 => ?_)
  · have hlt : i < rs.length := by simpa using h2
    have hrow := rowVRow hlt
    have hc := c_rowAt1 rs[i] n
    have hst := atId_step (n := n) hlt
    generalize rs[i] = ri at hrow hc hst
    (conv => whnf); repeat' (first
    | (refine And.intro ?_ ?_ <;> ((try intro h) <;> (try simp only [Bool.not_true, Bool.not_false, decide_eq_true_eq, decide_eq_false_iff_not, Int.not_lt, Int.not_le, gt_iff_lt, ge_iff_le] at h) <;> first | exact absurd h Bool.false_ne_true | exact absurd h.symm Bool.false_ne_true | conv => whnf))
    | (refine VL.drawS hTb hMix (by kernel_rfl) (by kernel_rfl) (by kernel_rfl) ?_; conv => whnf)
    | (refine Need.mk ?_; kernel_rfl) | (refine Need.mk ⟨rfl, ?_⟩; decide)
    | (refine VR.op hTb rfl rfl (o_index_imm hTb rfl rfl rfl rfl rfl rfl rfl (by omega) (hrow)) rfl ?_; conv => whnf)
    | (refine DT.op hTb rfl (o_index_imm hTb rfl rfl rfl rfl rfl rfl rfl (by omega) (hrow)) rfl ?_; conv => whnf)
    | (refine VR.fun hTb rfl rfl (o_funN hc true [0] (fun _ => ⟨rfl, by simp [idBox, GrO, GrL, isMem], by simp⟩) (by simp) rfl rfl rfl rfl rfl ⟨rfl, rfl, rfl, rfl⟩ rfl rfl) ?_; conv => whnf))
    · have h9 := h
      refine endG [] rfl rfl rfl rfl rfl ⟨?_, rfl, rfl⟩
      rw [hf, hst, if_pos h9]; rfl
    · have h9 := h
      refine ⟨i + 1, ⟨hlt, ?_⟩, by omega, wk_to [(0, 0)] rfl rfl rfl ⟨rfl, rfl, rfl, congrArg (fun x => Slot.one (.g (.int .i64 x))) (wrap64' (by omega)), trivial⟩ ⟨rfl, ⟨_, rfl, rfl⟩, trivial⟩⟩
      rw [hf, hst, if_neg (by rw [h9]; simp)]
  · (conv => whnf)
    refine endG [] rfl rfl rfl rfl rfl ⟨?_, rfl, rfl⟩
    rw [hf, atId_end (by simp at h2; omega)]; rfl
theorem c_rowAt (t : VTable) (n : Int) (hl : t.rows.length ≤ maxLen) : CallsV Tryz.prog 88 [.agg (encVTable t), iS n] [] (pureQ (iS (tAt t n))) := by
  have hc := c_indexRow t.rows n hl
  refine pure_walk hTb Tryz.func88 rfl rfl Tryz.ntmps88 (by simp) ?_
  (conv => whnf); repeat' (first
    | (refine And.intro ?_ ?_ <;> ((try intro h) <;> (try simp only [Bool.not_true, Bool.not_false, decide_eq_true_eq, decide_eq_false_iff_not, Int.not_lt, Int.not_le, gt_iff_lt, ge_iff_le] at h) <;> first | exact absurd h Bool.false_ne_true | exact absurd h.symm Bool.false_ne_true | conv => whnf))
    | (refine VL.drawS hTb hMix (by kernel_rfl) (by kernel_rfl) (by kernel_rfl) ?_; conv => whnf)
    | (refine Need.mk ?_; kernel_rfl) | (refine Need.mk ⟨rfl, ?_⟩; decide)
    | (refine VR.fun hTb rfl rfl (o_funN hc true [103] (fun _ => ⟨rfl, by simp [idBox, GrO, GrL, isMem], by simp⟩) (by simp) rfl rfl rfl rfl rfl ⟨rfl, rfl, rfl, rfl⟩ rfl rfl) ?_; conv => whnf))
  rfl
theorem c_l3At (t : VTable) (n : Int) (hl : t.rows.length ≤ maxLen) : CallsV Tryz.prog 98 [.agg (encVTable t), iS n] [] (pureQ (iS (tAt t n))) := by
  refine pure_walk hTb Tryz.func98 rfl rfl Tryz.ntmps98 (by simp) ?_
  (conv => whnf); repeat' (first | (refine And.intro ?_ ?_ <;> ((try intro h) <;> (try simp only [Bool.not_true, Bool.not_false] at h) <;> first | exact absurd h Bool.false_ne_true | exact absurd h.symm Bool.false_ne_true | conv => whnf)) | (refine Need.mk ?_; kernel_rfl) | (refine Need.mk ⟨rfl, ?_⟩; decide))
  refine VL.loopI hTb (fun i => i ≤ t.rows.length ∧ tAt t n = atId n (t.rows.drop i) i) (fun i => ⟨[(2, .one (.ptr 102 0)), (1, iS n), (5, iS i)], [(102, .box (encVTable t))], []⟩) (fun i => t.rows.length - i) 0 ⟨Nat.zero_le _, rfl⟩
    (wk_to [(102, 102)] rfl rfl rfl ⟨rfl, rfl, rfl, trivial⟩ ⟨rfl, ⟨_, rfl, rfl⟩, trivial⟩) (fun i hi => ?_)
  obtain ⟨hi, hf⟩ := hi
  (conv => whnf)
  refine And.intro (fun h2 => ?_) (fun h2 => ?_)
  · have hlt : i < t.rows.length := by simpa using h2
    have hrow := rowVRow hlt
    have hst := atId_step (n := n) hlt
    generalize t.rows[i] = ri at hrow hst
    (conv => whnf); repeat' (first
    | (refine And.intro ?_ ?_ <;> ((try intro h) <;> (try simp only [Bool.not_true, Bool.not_false, decide_eq_true_eq, decide_eq_false_iff_not, Int.not_lt, Int.not_le, gt_iff_lt, ge_iff_le] at h) <;> first | exact absurd h Bool.false_ne_true | exact absurd h.symm Bool.false_ne_true | conv => whnf))
    | (refine VL.drawS hTb hMix (by kernel_rfl) (by kernel_rfl) (by kernel_rfl) ?_; conv => whnf)
    | (refine Need.mk ?_; kernel_rfl) | (refine Need.mk ⟨rfl, ?_⟩; decide)
    | (refine VR.op hTb rfl rfl (o_index_imm hTb rfl rfl rfl rfl rfl rfl rfl (by omega) (hrow)) rfl ?_; conv => whnf)
    | (refine DT.op hTb rfl (o_index_imm hTb rfl rfl rfl rfl rfl rfl rfl (by omega) (hrow)) rfl ?_; conv => whnf))
    · have h9 := h
      rw [hf, hst, if_pos h9]; rfl
    · have h9 := h
      refine ⟨i + 1, ⟨hlt, ?_⟩, by omega, wk_to [(102, 102)] rfl rfl rfl ⟨rfl, rfl, congrArg (fun x => Slot.one (.g (.int .i64 x))) (wrap64' (by omega)), trivial⟩ ⟨rfl, ⟨_, rfl, rfl⟩, trivial⟩⟩
      rw [hf, hst, if_neg (by rw [h9]; simp)]
  · (conv => whnf)
    rw [hf, atId_end (by simp at h2; omega)]; rfl
theorem c_implTableRow (t : VTable) (n : Int) (ht : t.md) : CallsV Tryz.prog 23 [.agg (encVTable t), iS n] [] (funQ (rvS (tRw t n)) [] (rvN (tRw t n))) := by
  have c1 := c_implTableOk t ht
  have cA := c_rowAt t n (by have := ht.r; unfold maxLen; omega)
  have hN := fun (hk : tabOk t = true) (hz : ¬ tAt t n < 0) => c_tNow t (tRow t n) ht (tabOk_iff.1 hk).sh (tRow_facts ht hk hz).1 (tRow_facts ht hk hz).2.1 (tRow_facts ht hk hz).2.2.2
  have hR := fun (hz : ¬ tAt t n < 0) => tRow_at hz
  unfold tRw
  generalize tNow t (tRow t n) = w at hN ⊢
  generalize tRow t n = r at hN hR
  generalize tAt t n = z at hN hR cA ⊢
  generalize tabOk t = b at c1 hN ⊢
  refine funF_walk hTb Tryz.func23 rfl rfl Tryz.ntmps23 (by simp) (by simp) ?_
  cases b
  · rw [if_neg (by simp)]
    (conv => whnf); repeat' (first
    | (refine And.intro ?_ ?_ <;> ((try intro h) <;> (try simp only [Bool.not_true, Bool.not_false, decide_eq_true_eq, decide_eq_false_iff_not, Int.not_lt, Int.not_le, gt_iff_lt, ge_iff_le] at h) <;> first | exact absurd h Bool.false_ne_true | exact absurd h.symm Bool.false_ne_true | conv => whnf))
    | (refine VL.drawS hTb hMix (by kernel_rfl) (by kernel_rfl) (by kernel_rfl) ?_; conv => whnf)
    | (refine Need.mk ?_; kernel_rfl) | (refine Need.mk ⟨rfl, ?_⟩; decide)
    | (refine VR.pure hTb rfl rfl (o_purN (c1) rfl rfl rfl ⟨rfl, rfl, rfl, rfl⟩ rfl) ?_; conv => whnf)
    | (refine DT.pure hTb rfl (o_purN (c1) rfl rfl rfl ⟨rfl, rfl, rfl, rfl⟩ rfl) ?_; conv => whnf)
    | (refine VR.pure hTb rfl rfl (o_purN (cA) rfl rfl rfl ⟨rfl, rfl, rfl, rfl⟩ rfl) ?_; conv => whnf)
    | (refine DT.pure hTb rfl (o_purN (cA) rfl rfl rfl ⟨rfl, rfl, rfl, rfl⟩ rfl) ?_; conv => whnf))
    all_goals exact EndV.nil 4 104 3 47 rfl rfl (by decide) (endW [104] rfl rfl rfl rfl rfl (LeS.refl _) rfl rfl)
  · by_cases hz : z < 0
    · rw [if_neg (by simp [hz])]
      (conv => whnf); repeat' (first
    | (exact absurd hz (by simpa using h))
    | (refine And.intro ?_ ?_ <;> ((try intro h) <;> (try simp only [Bool.not_true, Bool.not_false, decide_eq_true_eq, decide_eq_false_iff_not, Int.not_lt, Int.not_le, gt_iff_lt, ge_iff_le] at h) <;> first | exact absurd h Bool.false_ne_true | exact absurd h.symm Bool.false_ne_true | conv => whnf))
    | (refine VL.drawS hTb hMix (by kernel_rfl) (by kernel_rfl) (by kernel_rfl) ?_; conv => whnf)
    | (refine Need.mk ?_; kernel_rfl) | (refine Need.mk ⟨rfl, ?_⟩; decide)
    | (refine VR.pure hTb rfl rfl (o_purN (c1) rfl rfl rfl ⟨rfl, rfl, rfl, rfl⟩ rfl) ?_; conv => whnf)
    | (refine DT.pure hTb rfl (o_purN (c1) rfl rfl rfl ⟨rfl, rfl, rfl, rfl⟩ rfl) ?_; conv => whnf)
    | (refine VR.pure hTb rfl rfl (o_purN (cA) rfl rfl rfl ⟨rfl, rfl, rfl, rfl⟩ rfl) ?_; conv => whnf)
    | (refine DT.pure hTb rfl (o_purN (cA) rfl rfl rfl ⟨rfl, rfl, rfl, rfl⟩ rfl) ?_; conv => whnf))
      all_goals exact EndV.nil 4 104 3 47 rfl rfl (by decide) (endW [104] rfl rfl rfl rfl rfl (LeS.refl _) rfl rfl)
    · rw [if_pos ⟨rfl, hz⟩]
      have hN := hN rfl hz
      have hR := hR hz
      (conv => whnf); repeat' (first
    | (exact absurd (by simpa using h) hz)
    | (refine And.intro ?_ ?_ <;> ((try intro h) <;> (try simp only [Bool.not_true, Bool.not_false, decide_eq_true_eq, decide_eq_false_iff_not, Int.not_lt, Int.not_le, gt_iff_lt, ge_iff_le] at h) <;> first | exact absurd h Bool.false_ne_true | exact absurd h.symm Bool.false_ne_true | conv => whnf))
    | (refine VL.drawS hTb hMix (by kernel_rfl) (by kernel_rfl) (by kernel_rfl) ?_; conv => whnf)
    | (refine Need.mk ?_; kernel_rfl) | (refine Need.mk ⟨rfl, ?_⟩; decide)
    | (refine VR.pure hTb rfl rfl (o_purN (c1) rfl rfl rfl ⟨rfl, rfl, rfl, rfl⟩ rfl) ?_; conv => whnf)
    | (refine DT.pure hTb rfl (o_purN (c1) rfl rfl rfl ⟨rfl, rfl, rfl, rfl⟩ rfl) ?_; conv => whnf)
    | (refine VR.pure hTb rfl rfl (o_purN (cA) rfl rfl rfl ⟨rfl, rfl, rfl, rfl⟩ rfl) ?_; conv => whnf)
    | (refine DT.pure hTb rfl (o_purN (cA) rfl rfl rfl ⟨rfl, rfl, rfl, rfl⟩ rfl) ?_; conv => whnf)
    | (refine VR.op hTb rfl rfl (o_index_imm hTb rfl rfl rfl rfl rfl rfl rfl (by omega) (hR)) rfl ?_; conv => whnf)
    | (refine DT.op hTb rfl (o_index_imm hTb rfl rfl rfl rfl rfl rfl rfl (by omega) (hR)) rfl ?_; conv => whnf)
    | (refine VR.fun hTb rfl rfl (o_funN (hN) false [] (fun h => by cases h) (by simp) rfl rfl rfl rfl rfl ⟨rfl, rfl, rfl, rfl⟩ rfl rfl) ?_; conv => whnf)
    | (refine DT.fun hTb rfl (o_funN (hN) false [] (fun h => by cases h) (by simp) rfl rfl rfl rfl rfl ⟨rfl, rfl, rfl, rfl⟩ rfl rfl) rfl ?_; conv => whnf))
      exact endW [1092] rfl rfl rfl rfl rfl (LeS.refl _) rfl rfl
theorem c_specTableRow (t : VTable) (n : Int) (ht : t.md) : CallsV Tryz.prog 28 [.agg (encVTable t), iS n] [] (funQ (rvS (tRw t n)) [] (rvN (tRw t n))) := by
  have c1 := c_specTableOk t ht
  have cA := c_l3At t n (by have := ht.r; unfold maxLen; omega)
  have hN := fun (hk : tabOk t = true) (hz : ¬ tAt t n < 0) => c_l3Now t (tRow t n) ht (tRow_facts ht hk hz).1 (by have := (tRow_facts ht hk hz).2.2.1; omega) (tRow_facts ht hk hz).2.2.2
  have hR := fun (hz : ¬ tAt t n < 0) => tRow_at hz
  unfold tRw
  generalize tNow t (tRow t n) = w at hN ⊢
  generalize tRow t n = r at hN hR
  generalize tAt t n = z at hN hR cA ⊢
  generalize tabOk t = b at c1 hN ⊢
  refine funF_walk hTb Tryz.func28 rfl rfl Tryz.ntmps28 (by simp) (by simp) ?_
  cases b
  · rw [if_neg (by simp)]
    (conv => whnf); repeat' (first
    | (refine And.intro ?_ ?_ <;> ((try intro h) <;> (try simp only [Bool.not_true, Bool.not_false, decide_eq_true_eq, decide_eq_false_iff_not, Int.not_lt, Int.not_le, gt_iff_lt, ge_iff_le] at h) <;> first | exact absurd h Bool.false_ne_true | exact absurd h.symm Bool.false_ne_true | conv => whnf))
    | (refine VL.drawS hTb hMix (by kernel_rfl) (by kernel_rfl) (by kernel_rfl) ?_; conv => whnf)
    | (refine Need.mk ?_; kernel_rfl) | (refine Need.mk ⟨rfl, ?_⟩; decide)
    | (refine VR.pure hTb rfl rfl (o_purN (c1) rfl rfl rfl ⟨rfl, rfl, rfl, rfl⟩ rfl) ?_; conv => whnf)
    | (refine DT.pure hTb rfl (o_purN (c1) rfl rfl rfl ⟨rfl, rfl, rfl, rfl⟩ rfl) ?_; conv => whnf)
    | (refine VR.pure hTb rfl rfl (o_purN (cA) rfl rfl rfl ⟨rfl, rfl, rfl, rfl⟩ rfl) ?_; conv => whnf)
    | (refine DT.pure hTb rfl (o_purN (cA) rfl rfl rfl ⟨rfl, rfl, rfl, rfl⟩ rfl) ?_; conv => whnf))
    all_goals exact endW [115] rfl rfl rfl rfl rfl (LeS.refl _) rfl rfl
  · by_cases hz : z < 0
    · rw [if_neg (by simp [hz])]
      (conv => whnf); repeat' (first
    | (exact absurd hz (by simpa using h))
    | (refine And.intro ?_ ?_ <;> ((try intro h) <;> (try simp only [Bool.not_true, Bool.not_false, decide_eq_true_eq, decide_eq_false_iff_not, Int.not_lt, Int.not_le, gt_iff_lt, ge_iff_le] at h) <;> first | exact absurd h Bool.false_ne_true | exact absurd h.symm Bool.false_ne_true | conv => whnf))
    | (refine VL.drawS hTb hMix (by kernel_rfl) (by kernel_rfl) (by kernel_rfl) ?_; conv => whnf)
    | (refine Need.mk ?_; kernel_rfl) | (refine Need.mk ⟨rfl, ?_⟩; decide)
    | (refine VR.pure hTb rfl rfl (o_purN (c1) rfl rfl rfl ⟨rfl, rfl, rfl, rfl⟩ rfl) ?_; conv => whnf)
    | (refine DT.pure hTb rfl (o_purN (c1) rfl rfl rfl ⟨rfl, rfl, rfl, rfl⟩ rfl) ?_; conv => whnf)
    | (refine VR.pure hTb rfl rfl (o_purN (cA) rfl rfl rfl ⟨rfl, rfl, rfl, rfl⟩ rfl) ?_; conv => whnf)
    | (refine DT.pure hTb rfl (o_purN (cA) rfl rfl rfl ⟨rfl, rfl, rfl, rfl⟩ rfl) ?_; conv => whnf))
      all_goals exact endW [115] rfl rfl rfl rfl rfl (LeS.refl _) rfl rfl
    · rw [if_pos ⟨rfl, hz⟩]
      have hN := hN rfl hz
      have hR := hR hz
      (conv => whnf); repeat' (first
    | (exact absurd (by simpa using h) hz)
    | (refine And.intro ?_ ?_ <;> ((try intro h) <;> (try simp only [Bool.not_true, Bool.not_false, decide_eq_true_eq, decide_eq_false_iff_not, Int.not_lt, Int.not_le, gt_iff_lt, ge_iff_le] at h) <;> first | exact absurd h Bool.false_ne_true | exact absurd h.symm Bool.false_ne_true | conv => whnf))
    | (refine VL.drawS hTb hMix (by kernel_rfl) (by kernel_rfl) (by kernel_rfl) ?_; conv => whnf)
    | (refine Need.mk ?_; kernel_rfl) | (refine Need.mk ⟨rfl, ?_⟩; decide)
    | (refine VR.pure hTb rfl rfl (o_purN (c1) rfl rfl rfl ⟨rfl, rfl, rfl, rfl⟩ rfl) ?_; conv => whnf)
    | (refine DT.pure hTb rfl (o_purN (c1) rfl rfl rfl ⟨rfl, rfl, rfl, rfl⟩ rfl) ?_; conv => whnf)
    | (refine VR.pure hTb rfl rfl (o_purN (cA) rfl rfl rfl ⟨rfl, rfl, rfl, rfl⟩ rfl) ?_; conv => whnf)
    | (refine DT.pure hTb rfl (o_purN (cA) rfl rfl rfl ⟨rfl, rfl, rfl, rfl⟩ rfl) ?_; conv => whnf)
    | (refine VR.op hTb rfl rfl (o_index_imm hTb rfl rfl rfl rfl rfl rfl rfl (by omega) (hR)) rfl ?_; conv => whnf)
    | (refine DT.op hTb rfl (o_index_imm hTb rfl rfl rfl rfl rfl rfl rfl (by omega) (hR)) rfl ?_; conv => whnf)
    | (refine VR.fun hTb rfl rfl (o_funN (hN) false [] (fun h => by cases h) (by simp) rfl rfl rfl rfl rfl ⟨rfl, rfl, rfl, rfl⟩ rfl rfl) ?_; conv => whnf)
    | (refine DT.fun hTb rfl (o_funN (hN) false [] (fun h => by cases h) (by simp) rfl rfl rfl rfl rfl ⟨rfl, rfl, rfl, rfl⟩ rfl rfl) rfl ?_; conv => whnf))
      exact endW [1096] rfl rfl rfl rfl rfl (LeS.refl _) rfl rfl
end Go.Vl

namespace Go.Vl
open Go Go.RowKit Go.Proofs
set_option maxRecDepth 100000
set_option linter.unusedSimpArgs false
set_option linter.unusedVariables false
set_option maxHeartbeats 8000000

abbrev rvI (x : List Val × Bool) : Slot := .tup [(false, [.imm 3 (x.1.map encVal)]), (false, [.g (.bool x.2)])]
theorem pureRv (x : List Val × Bool) : vS true (Sr [] (rvN x)) [] (rvS x) = rvI x := by
  show Slot.tup [(false, [.imm 3 (((x.1.map encVal).drop 0).take x.1.length)]), (false, [.g (.bool x.2)])] = _
  rw [fzV]
theorem tNow_len (t : VTable) (r : VRow) : (tNow t r).length ≤ r.vals.length + t.changes.length := by
  have h := rwAll_le (tSh t r.ver.toNat) (t.changes.drop r.ver.toNat) r.vals
  have h2 : (t.changes.drop r.ver.toNat).length ≤ t.changes.length := by simp
  unfold tNow; omega
theorem tRw_md {t : VTable} {n : Int} (h : t.md) : mdVals (tRw t n).1 ∧ (tRw t n).1.length ≤ 3000000 := by
  unfold tRw
  split
  · rename_i hk
    have hf := tRow_facts h hk.1 hk.2
    have hl := tNow_len t (tRow t n)
    have hfc := h.fc
    exact ⟨tNow_md h hf.2.2.2, by show (tNow t (tRow t n)).length ≤ _; omega⟩
  · exact ⟨fun x hx => (by cases hx), (by simp)⟩
theorem c_FnExactTableRow (t : VTable) (n : Int) (hv : t.ok) : CallsV Tryz.prog 6 [.agg (encVTable t), iS n] [] (pureQ (bS true)) := by
  refine pure_walk hTb Tryz.func6 rfl rfl Tryz.ntmps6 (by simp) ?_
  (conv => whnf); repeat' (first
    | (refine And.intro ?_ ?_ <;> ((try intro h) <;> (try simp only [Bool.not_true, Bool.not_false, decide_eq_true_eq, decide_eq_false_iff_not, Int.not_lt, Int.not_le, gt_iff_lt, ge_iff_le] at h) <;> first | exact absurd h Bool.false_ne_true | exact absurd h.symm Bool.false_ne_true | conv => whnf))
    | (refine VL.drawS hTb hMix (by kernel_rfl) (by kernel_rfl) (by kernel_rfl) ?_; conv => whnf)
    | (refine Need.mk ?_; kernel_rfl) | (refine Need.mk ⟨rfl, ?_⟩; decide)
    | (refine VR.rel hTb rfl rfl (o_relN (y_VTableN t hv _ (by omega) (by omega)) false [] (fun _ _ => ⟨by simp, fun h => by cases h⟩) rfl rfl rfl rfl rfl ⟨rfl, rfl, rfl, rfl⟩ rfl rfl) ?_; rintro y1 hy1; (try simp only at hy1); conv => whnf)
    | (refine DT.rel hTb rfl (o_relN (y_VTableN t hv _ (by omega) (by omega)) false [] (fun _ _ => ⟨by simp, fun h => by cases h⟩) rfl rfl rfl rfl rfl ⟨rfl, rfl, rfl, rfl⟩ rfl rfl) [] (by kernel_rfl) (by kernel_rfl) ?_; rintro y1 hy1; (try simp only at hy1); refine And.intro rfl (And.intro rfl ?_); conv => whnf))
  · rfl
  have h1 : 0 ≤ y1 := by first | omega | (simp at h; omega)
  obtain ⟨hm, h2, hw⟩ := hy1.2 h1
  have cT := t_VTable t (md_sm hm h2)
  have uT := u_VTable t hm h2
  have c1 := c_implTableRow t n hm
  have c2 := (c_specTableRow t n hm).pure (pureRv _)
  have eT := e_VTable t hv
  have hxl := tRw_md (n := n) hm
  have mT := c_markTable t 1 (by omega) (by omega) (by have := hm.r; omega) (fun x hx => by have := (hm.rm x hx).1; omega) (by omega) (tabW_le h2 hw)
  generalize tRw t n = y at c1 c2 hxl
  obtain ⟨x, ok⟩ := y
  obtain ⟨hxm, hxl⟩ : mdVals x ∧ x.length ≤ 3000000 := hxl
  have eX := e_Vals x ⟨lmax (by omega), mdv_ok hxm⟩
  have mX := c_markVals x 1 (by omega) (by omega) (by omega)
  have hX := c_heldVals x.length 1 (by omega) (by omega) (by omega)
  have n1 : ¬ (((1 + tabW t.first.length t.changes.length (lens t.rows) : Nat) : Int) < 0) := by omega
  have n2 : ¬ (((1 + 3 * x.length : Nat) : Int) < 0) := by omega
  cases ok <;> (conv => whnf); repeat' (first
    | (exact absurd h n1)
    | (exact absurd h n2)
    | (refine absurd h ?_; (simp; done))
    | (refine And.intro ?_ ?_ <;> ((try intro h) <;> (try simp only [Bool.not_true, Bool.not_false, decide_eq_true_eq, decide_eq_false_iff_not, Int.not_lt, Int.not_le, gt_iff_lt, ge_iff_le] at h) <;> first | exact absurd h Bool.false_ne_true | exact absurd h.symm Bool.false_ne_true | conv => whnf))
    | (refine VL.drawS hTb hMix (by kernel_rfl) (by kernel_rfl) (by kernel_rfl) ?_; conv => whnf)
    | (refine Need.mk ?_; kernel_rfl) | (refine Need.mk ⟨rfl, ?_⟩; decide)
    | (refine VR.fun (o := ⟨some 29, _, _, _, _, _⟩) hTb rfl rfl (o_funN uT false [] (fun h => by cases h) (by simp) rfl rfl rfl rfl rfl ⟨rfl, rfl, rfl, rfl⟩ rfl rfl) ?_; conv => whnf)
    | (refine VR.pure hTb rfl rfl (o_purF (cT) rfl rfl rfl ⟨rfl, rfl, rfl, rfl⟩ rfl) ?_; conv => whnf)
    | (refine DT.pure hTb rfl (o_purF (cT) rfl rfl rfl ⟨rfl, rfl, rfl, rfl⟩ rfl) ?_; conv => whnf)
    | (refine VR.pure hTb rfl rfl (o_purF (c2) rfl rfl rfl ⟨rfl, rfl, rfl, rfl⟩ rfl) ?_; conv => whnf)
    | (refine DT.pure hTb rfl (o_purF (c2) rfl rfl rfl ⟨rfl, rfl, rfl, rfl⟩ rfl) ?_; conv => whnf)
    | (refine VR.fun hTb rfl rfl (o_funN (c1) false [] (fun h => by cases h) (by simp) rfl rfl rfl rfl rfl ⟨rfl, rfl, rfl, rfl⟩ rfl rfl) ?_; conv => whnf)
    | (refine DT.fun hTb rfl (o_funN (c1) false [] (fun h => by cases h) (by simp) rfl rfl rfl rfl rfl ⟨rfl, rfl, rfl, rfl⟩ rfl rfl) rfl ?_; conv => whnf)
    | (refine VR.fun hTb rfl rfl (o_funN (c1) true [] (fun _ => grRvS _) (by simp) rfl rfl rfl rfl rfl ⟨rfl, rfl, rfl, rfl⟩ ?_ rfl) ?_; exact congrArg (fun s => [s, _]) (brwTab t); conv => whnf)
    | (refine DT.fun hTb rfl (o_funN (c1) true [] (fun _ => grRvS _) (by simp) rfl rfl rfl rfl rfl ⟨rfl, rfl, rfl, rfl⟩ ?_ rfl) rfl ?_; exact congrArg (fun s => [s, _]) (brwTab t); conv => whnf)
    | (refine VR.pure hTb rfl rfl (o_purN (eX) rfl rfl rfl ⟨rfl, rfl, rfl, rfl⟩ (congrArg (fun s => [s, _]) brw)) ?_; conv => whnf)
    | (refine DT.pure hTb rfl (o_purN (eX) rfl rfl rfl ⟨rfl, rfl, rfl, rfl⟩ (congrArg (fun s => [s, _]) brw)) ?_; conv => whnf)
    | (refine VR.pure hTb rfl rfl (o_purN (eX) rfl rfl rfl ⟨rfl, rfl, rfl, rfl⟩ (congrArg (fun s => [s, _]) brw')) ?_; conv => whnf)
    | (refine DT.pure hTb rfl (o_purN (eX) rfl rfl rfl ⟨rfl, rfl, rfl, rfl⟩ (congrArg (fun s => [s, _]) brw')) ?_; conv => whnf)
    | (refine VR.pure hTb rfl rfl (o_purN (eX) rfl rfl rfl ⟨rfl, rfl, rfl, rfl⟩ (congrArg (fun s => [s, _]) (brwG (by simp)))) ?_; conv => whnf)
    | (refine DT.pure hTb rfl (o_purN (eX) rfl rfl rfl ⟨rfl, rfl, rfl, rfl⟩ (congrArg (fun s => [s, _]) (brwG (by simp)))) ?_; conv => whnf)
    | (refine DT.pure hTb rfl (o_purN eT rfl rfl rfl ⟨rfl, rfl, rfl, rfl⟩ ?_) ?_; exact congrArg (fun s => [s, _]) (brwTab t); conv => whnf)
    | (refine VR.fun hTb rfl rfl (o_funN (mT) false [1116, 1117, 1118] (fun h => by cases h) (by simp) rfl rfl rfl rfl rfl ⟨rfl, rfl, rfl, rfl⟩ rfl rfl) ?_; conv => whnf)
    | (refine DT.fun hTb rfl (o_funN (mT) false [1116, 1117, 1118] (fun h => by cases h) (by simp) rfl rfl rfl rfl rfl ⟨rfl, rfl, rfl, rfl⟩ rfl rfl) rfl ?_; conv => whnf)
    | (refine VR.fun hTb rfl rfl (o_funN (mX) false [1132] (fun h => by cases h) (by simp) rfl rfl rfl rfl rfl ⟨rfl, rfl, rfl, rfl⟩ rfl rfl) ?_; conv => whnf)
    | (refine DT.fun hTb rfl (o_funN (mX) false [1132] (fun h => by cases h) (by simp) rfl rfl rfl rfl rfl ⟨rfl, rfl, rfl, rfl⟩ rfl rfl) rfl ?_; conv => whnf)
    | (refine VR.pure hTb rfl rfl (o_purN hX rfl rfl rfl ⟨rfl, rfl, rfl, rfl⟩ ?_) ?_; exact two_sl (brwG (by simp [mkVals])) rfl; conv => whnf))
  all_goals first
    | rfl
    | trace_state
end Go.Vl

namespace Go.Vl
open Go Go.RowKit Go.Proofs
set_option maxRecDepth 100000
set_option linter.unusedSimpArgs false
set_option linter.unusedVariables false
set_option maxHeartbeats 8000000

abbrev encI (i : Int) : List Leaf := [.g (.int .i64 i)]
abbrev intsI (l : List Int) : Slot := .one (.imm 1 (l.map encI))
theorem fzI (x : List Int) : ((x.map encI).drop 0).take x.length = x.map encI := by rw [List.drop_zero, List.take_of_length_le (by simp)]
theorem grNewInt (n : Nat) (l : List Int) : GrS (.one (.own 0 0 n)) ∧ (∀ ob, some ob ∈ ([] : List (Option Ob)) → GrO ob) ∧ ∀ ob ∈ [Ob.arr 3 1 (l.map encI)], GrO ob :=
  ⟨rfl, fun _ h => by simp at h, fun ob h => by
    simp at h; subst h
    intro r hr
    obtain ⟨i, _, rfl⟩ := List.mem_map.1 hr
    intro l hl
    simp at hl; subst hl; rfl⟩
theorem pureInts (l : List Int) {E : TypeId} : vS true (Sr [] [.arr E 1 (l.map encI)]) [] (.one (.own 0 0 l.length)) = intsI l := by
  show Slot.one (.imm 1 (((l.map encI).drop 0).take l.length)) = _
  rw [fzI]
theorem rowInt {l : List Int} {i : Nat} (h : i < l.length) : (l.map encI)[((i : Nat) : Int).toNat]? = some [.g (.int .i64 l[i])] := by
  rw [Int.toNat_natCast, List.getElem?_map, List.getElem?_eq_getElem h]; rfl
def mkInts (n k : Nat) : List Int := (List.range n).map fun i => ((k + i : Nat) : Int)
theorem e_Ints (l : List Int) (hl : l.length ≤ maxLen) : CallsV Tryz.prog 46 [intsI l, intsI l] [] (pureQ (bS true)) := by
  refine pure_walk hTb Tryz.func46 rfl rfl Tryz.ntmps46 (by simp) ?_
  (conv => whnf); repeat' (first | (refine And.intro ?_ ?_ <;> ((try intro h) <;> (try simp only [Bool.not_true, Bool.not_false] at h) <;> first | exact absurd h Bool.false_ne_true | exact absurd h.symm Bool.false_ne_true | conv => whnf)) | (refine Need.mk ?_; kernel_rfl) | (refine Need.mk ⟨rfl, ?_⟩; decide))
  · simp at h
  refine VL.loopI hTb (fun i => i ≤ l.length) (fun i => ⟨[(0, intsI l), (1, intsI l), (5, iS i)], [], []⟩) (fun i => l.length - i) 0 (Nat.zero_le _)
    (wk_to [] rfl rfl rfl ⟨rfl, rfl, rfl, trivial⟩ trivial) (fun i hi => ?_)
  (conv => whnf)
  refine And.intro (fun h2 => ?_) (fun h2 => ?_)
  · have hlt : i < l.length := by simpa using h2
    have hrow := rowInt hlt
    generalize l[i] = ci at hrow
    (conv => whnf); repeat' (first
    | (refine absurd h ?_; (simp; done))
    | (refine And.intro ?_ ?_ <;> ((try intro h) <;> (try simp only [Bool.not_true, Bool.not_false, decide_eq_true_eq, decide_eq_false_iff_not, Int.not_lt, Int.not_le, gt_iff_lt, ge_iff_le] at h) <;> first | exact absurd h Bool.false_ne_true | exact absurd h.symm Bool.false_ne_true | conv => whnf))
    | (refine VL.drawS hTb hMix (by kernel_rfl) (by kernel_rfl) (by kernel_rfl) ?_; conv => whnf)
    | (refine Need.mk ?_; kernel_rfl) | (refine Need.mk ⟨rfl, ?_⟩; decide)
    | (refine VR.op hTb rfl rfl (o_index_imm hTb rfl rfl rfl rfl rfl rfl rfl (by omega) (hrow)) rfl ?_; conv => whnf)
    | (refine DT.op hTb rfl (o_index_imm hTb rfl rfl rfl rfl rfl rfl rfl (by omega) (hrow)) rfl ?_; conv => whnf))
    exact ⟨i + 1, hlt, by omega, wk_to [] rfl rfl rfl ⟨rfl, rfl, congrArg (fun x => Slot.one (.g (.int .i64 x))) (wrap64' (by omega)), trivial⟩ trivial⟩
  · (conv => whnf)
    rfl
theorem c_markInts (l : List Int) (k : Nat) (hl : l.length ≤ 3000000) (hk : k ≤ 1000000000) : CallsV Tryz.prog 47 [.one (.own 0 0 l.length), iS k] [.arr 3 1 (l.map encI)]
    (funQ (iS ((k + l.length : Nat) : Int)) [some (.arr 3 1 ((mkInts l.length k).map encI))] []) := by
  refine funF_walk hTb Tryz.func47 rfl rfl Tryz.ntmps47 (by simp) (by simp) ?_
  (conv => whnf); repeat' (first | (refine And.intro ?_ ?_ <;> ((try intro h) <;> (try simp only [Bool.not_true, Bool.not_false] at h) <;> first | exact absurd h Bool.false_ne_true | exact absurd h.symm Bool.false_ne_true | conv => whnf)) | (refine Need.mk ?_; kernel_rfl) | (refine Need.mk ⟨rfl, ?_⟩; decide))
  refine VL.loopI hTb (fun i => i ≤ l.length) (fun i => ⟨[(0, .one (.own 0 0 l.length)), (1, iS ((k + i : Nat) : Int)), (5, iS i)], [(0, .arr 3 1 (((List.range i).map (fun i => ((k + i : Nat) : Int)) ++ l.drop i).map encI))], []⟩) (fun i => l.length - i) 0 (Nat.zero_le _)
    (wk_to [(0, 0)] rfl rfl rfl ⟨rfl, rfl, rfl, trivial⟩ ⟨rfl, ⟨_, rfl, rfl⟩, trivial⟩) (fun i hi => ?_)
  (conv => whnf)
  refine And.intro (fun h2 => ?_) (fun h2 => ?_)
  · have hlt : i < l.length := by simpa using h2
    have hmk := mk_step (fun i => ((k + i : Nat) : Int)) hlt
    have hat := mk_at (fun i => ((k + i : Nat) : Int)) hlt
    have hlen : ((List.range i).map (fun i => ((k + i : Nat) : Int)) ++ l.drop i).length = l.length := by simp; omega
    generalize (List.range i).map (fun i => ((k + i : Nat) : Int)) ++ l.drop i = L at hmk hat hlen
    generalize l[i] = ci at hat
    have w1 : IntKind.i64.wrap (((k + i : Nat) : Int) + 1) = ((k + (i + 1) : Nat) : Int) := by rw [IntKind.wrap_i64]; omega
    have hat : L[0 + ((i : Nat) : Int).toNat]? = some ci := by rw [Int.toNat_natCast, Nat.zero_add]; exact hat
    (conv => whnf); repeat' (first
    | (refine And.intro ?_ ?_ <;> ((try intro h) <;> (try simp only [Bool.not_true, Bool.not_false, decide_eq_true_eq, decide_eq_false_iff_not, Int.not_lt, Int.not_le, gt_iff_lt, ge_iff_le] at h) <;> first | exact absurd h Bool.false_ne_true | exact absurd h.symm Bool.false_ne_true | conv => whnf))
    | (refine VL.drawS hTb hMix (by kernel_rfl) (by kernel_rfl) (by kernel_rfl) ?_; conv => whnf)
    | (refine Need.mk ?_; kernel_rfl) | (refine Need.mk ⟨rfl, ?_⟩; decide)
    | (refine Need.mk ?_; exact ⟨rfl, by omega, by omega⟩)
    | (refine VR.op hTb rfl rfl (o_storeM hTb rfl rfl rfl rfl rfl (hat) rfl rfl rfl ⟨rfl, by decide⟩ (c' := _) rfl) rfl ?_; conv => whnf)
    | (refine DT.op hTb rfl (o_storeM hTb rfl rfl rfl rfl rfl (hat) rfl rfl rfl ⟨rfl, by decide⟩ (c' := _) rfl) rfl ?_; conv => whnf))
    refine ⟨i + 1, hlt, by omega, wk_to [(0, 0)] rfl rfl rfl ⟨rfl, congrArg (fun x => Slot.one (.g (.int .i64 x))) w1, congrArg (fun x => Slot.one (.g (.int .i64 x))) (wrap64' (by unfold maxLen; omega)), trivial⟩ ⟨rfl, ⟨_, rfl, ?_⟩, trivial⟩⟩
    refine congrArg (fun r : List Int => Ob.arr 3 1 (r.map encI)) ?_
    rw [← hmk]
    simp only [Int.toNat_natCast, Nat.zero_add]
  · have hie : i = l.length := by simp at h2; omega
    subst hie
    (conv => whnf)
    exact endW [] rfl rfl rfl rfl rfl (LeS.refl _) (congrArg (fun r : List Int => [some (Ob.arr 3 1 (r.map encI))]) (by simp [mkInts])) rfl
theorem c_heldInts (n k : Nat) (hl : n ≤ 3000000) (hk : k ≤ 1000000000) : CallsV Tryz.prog 48 [intsI (mkInts n k), iS k] [] (pureQ (iS ((k + n : Nat) : Int))) := by
  have hlen : (mkInts n k).length = n := by simp [mkInts]
  refine pure_walk hTb Tryz.func48 rfl rfl Tryz.ntmps48 (by simp) ?_
  (conv => whnf); repeat' (first | (refine And.intro ?_ ?_ <;> ((try intro h) <;> (try simp only [Bool.not_true, Bool.not_false] at h) <;> first | exact absurd h Bool.false_ne_true | exact absurd h.symm Bool.false_ne_true | conv => whnf)) | (refine Need.mk ?_; kernel_rfl) | (refine Need.mk ⟨rfl, ?_⟩; decide))
  refine VL.loopI hTb (fun i => i ≤ n) (fun i => ⟨[(0, intsI (mkInts n k)), (1, iS ((k + i : Nat) : Int)), (5, iS i)], [], []⟩) (fun i => n - i) 0 (Nat.zero_le _)
    (wk_to [] rfl rfl rfl ⟨rfl, rfl, rfl, trivial⟩ trivial) (fun i hi => ?_)
  (conv => whnf)
  refine And.intro (fun h2 => ?_) (fun h2 => ?_)
  · have hlt : i < n := by simp [hlen] at h2; omega
    have w1 : IntKind.i64.wrap (((k + i : Nat) : Int) + 1) = ((k + (i + 1) : Nat) : Int) := by rw [IntKind.wrap_i64]; omega
    have hrow : ((mkInts n k).map encI)[((i : Nat) : Int).toNat]? = some [.g (.int .i64 ((k + i : Nat) : Int))] := by
      rw [Int.toNat_natCast, List.getElem?_map, List.getElem?_eq_getElem (by rw [hlen]; exact hlt)]
      simp [mkInts]
    (conv => whnf); repeat' (first
    | (refine absurd h ?_; (simp; done))
    | (refine And.intro ?_ ?_ <;> ((try intro h) <;> (try simp only [Bool.not_true, Bool.not_false, decide_eq_true_eq, decide_eq_false_iff_not, Int.not_lt, Int.not_le, gt_iff_lt, ge_iff_le] at h) <;> first | exact absurd h Bool.false_ne_true | exact absurd h.symm Bool.false_ne_true | conv => whnf))
    | (refine VL.drawS hTb hMix (by kernel_rfl) (by kernel_rfl) (by kernel_rfl) ?_; conv => whnf)
    | (refine Need.mk ?_; kernel_rfl) | (refine Need.mk ⟨rfl, ?_⟩; decide)
    | (refine VR.op hTb rfl rfl (o_index_imm hTb rfl rfl rfl rfl rfl rfl rfl (by omega) (hrow)) rfl ?_; conv => whnf)
    | (refine DT.op hTb rfl (o_index_imm hTb rfl rfl rfl rfl rfl rfl rfl (by omega) (hrow)) rfl ?_; conv => whnf))
    exact ⟨i + 1, hlt, by omega, wk_to [] rfl rfl rfl ⟨rfl, congrArg (fun x => Slot.one (.g (.int .i64 x))) w1, congrArg (fun x => Slot.one (.g (.int .i64 x))) (wrap64' (by unfold maxLen; omega)), trivial⟩ trivial⟩
  · have hie : i = n := by simp [hlen] at h2; omega
    subst hie
    (conv => whnf)
    rfl
theorem c_clipInt (l : List Int) : CallsV Tryz.prog 90 [.one (.own 0 0 l.length)] [.arr 3 1 (l.map encI)] (funQ (.one (.own 0 0 l.length)) [some (.arr 3 1 (l.map encI))] []) := by
  refine funF_walk hTb Tryz.func90 rfl rfl Tryz.ntmps90 (by simp) (by simp) ?_
  (conv => whnf); repeat' (first
    | (refine And.intro ?_ ?_ <;> ((try intro h) <;> (try simp only [Bool.not_true, Bool.not_false, decide_eq_true_eq, decide_eq_false_iff_not, Int.not_lt, Int.not_le, gt_iff_lt, ge_iff_le] at h) <;> first | exact absurd h Bool.false_ne_true | exact absurd h.symm Bool.false_ne_true | conv => whnf))
    | (refine VL.drawS hTb hMix (by kernel_rfl) (by kernel_rfl) (by kernel_rfl) ?_; conv => whnf)
    | (refine Need.mk ?_; kernel_rfl) | (refine Need.mk ⟨rfl, ?_⟩; decide)
    | (refine VR.op hTb rfl rfl (o_slice3_own (n1 := 0) (n2 := l.length) (n3 := l.length) hTb rfl rfl rfl rfl rfl rfl rfl bnd_none (bnd_some rfl) (bnd_some rfl) (Nat.zero_le _) (Nat.le_refl _) (Nat.le_refl _) (by simp)) rfl ?_; conv => whnf))
  exact endW [] rfl rfl rfl rfl rfl (LeS.refl _) rfl rfl
def fdL (f : VRow → List Val) (k : Nat) (v : Val) (rows : List VRow) : List Int := (rows.filter fun r => q_Val ((f r).getD k zVal) v).map VRow.id
def tFd (t : VTable) (c : ByteArray) (v : Val) : List Int := if tabOk t = true ∧ ¬ nameAt (tL t) c < 0 then fdL (tNow t) (nameAt (tL t) c).toNat v t.rows else []
theorem fdL_yes {f : VRow → List Val} {k : Nat} {v : Val} {rows : List VRow} {i : Nat} (h : i < rows.length) (hq : q_Val ((f rows[i]).getD k zVal) v = true) : fdL f k v (rows.take (i + 1)) = fdL f k v (rows.take i) ++ [rows[i].id] := by
  unfold fdL
  rw [List.take_succ_eq_append_getElem h, List.filter_append, List.map_append, List.filter_cons_of_pos (p := fun r => q_Val ((f r).getD k zVal) v) hq]; rfl
theorem fdL_no {f : VRow → List Val} {k : Nat} {v : Val} {rows : List VRow} {i : Nat} (h : i < rows.length) (hq : q_Val ((f rows[i]).getD k zVal) v = false) : fdL f k v (rows.take (i + 1)) = fdL f k v (rows.take i) := by
  unfold fdL
  rw [List.take_succ_eq_append_getElem h, List.filter_append, List.map_append, List.filter_cons_of_neg (p := fun r => q_Val ((f r).getD k zVal) v) (by rw [hq]; simp)]; simp
theorem fdL_len (f : VRow → List Val) (k : Nat) (v : Val) (rows : List VRow) : (fdL f k v rows).length ≤ rows.length := by
  unfold fdL
  rw [List.length_map]
  exact List.length_filter_le _ _
theorem nameAt_in (s : List Col) (nm : ByteArray) : nameAt s nm < s.length ∧ -1 ≤ nameAt s nm := by
  rcases nameAt_spec s nm with ⟨h, _⟩ | ⟨j, hj, h, _⟩ <;> omega
theorem valAtZ {l : List Val} {z : Int} (h0 : ¬ z < 0) (h : z < l.length) : (l.map encVal)[z.toNat]? = some (encVal (l.getD z.toNat zVal)) := by
  have hz : z.toNat < l.length := by omega
  rw [List.getElem?_map, List.getElem?_eq_getElem hz, List.getD_eq_getElem?_getD, List.getElem?_eq_getElem hz]; rfl
theorem c_implTableFind (t : VTable) (c : ByteArray) (v : Val) (ht : t.md) : CallsV Tryz.prog 24 [.agg (encVTable t), strS c, .agg (encVal v)] [] (funQ (.one (.own 0 0 (tFd t c v).length)) [] [.arr 3 1 ((tFd t c v).map encI)]) := by
  have c1 := c_implTableOk t ht
  have cS := fun (hk : tabOk t = true) => c_tShape t ht (tabOk_iff.1 hk).sh
  have hLl := tL_len t
  have hfc := ht.fc
  have hrl := ht.r
  have cA := c_colAt (tL t) c (by unfold maxLen; omega)
  have hat := nameAt_in (tL t) c
  have cN := fun (hk : tabOk t = true) i (h : i < t.rows.length) => (c_tNow t t.rows[i] ht (tabOk_iff.1 hk).sh (rowFacts hk h).1 (rowFacts hk h).2 (ht.rm _ (List.getElem_mem h)).2).pure (pureVals _)
  have hN := fun (hk : tabOk t = true) i (h : i < t.rows.length) => (tNow_go (tabOk_iff.1 hk).sh (rowFacts hk h).2).2
  unfold tFd
  generalize tabOk t = b at c1 cS cN hN ⊢
  generalize tL t = L at cS cA hat hLl hN ⊢
  generalize nameAt L c = z at cA hat ⊢
  obtain ⟨f, hf⟩ : ∃ f, tNow t = f := ⟨_, rfl⟩
  rw [hf] at cN hN ⊢
  clear hf ht hfc
  refine funF_walk hTb Tryz.func24 rfl rfl Tryz.ntmps24 (by simp) (by simp) ?_
  cases b
  · rw [if_neg (by simp)]
    (conv => whnf); repeat' (first
    | (refine And.intro ?_ ?_ <;> ((try intro h) <;> (try simp only [Bool.not_true, Bool.not_false, decide_eq_true_eq, decide_eq_false_iff_not, Int.not_lt, Int.not_le, gt_iff_lt, ge_iff_le] at h) <;> first | exact absurd h Bool.false_ne_true | exact absurd h.symm Bool.false_ne_true | conv => whnf))
    | (refine VL.drawS hTb hMix (by kernel_rfl) (by kernel_rfl) (by kernel_rfl) ?_; conv => whnf)
    | (refine Need.mk ?_; kernel_rfl) | (refine Need.mk ⟨rfl, ?_⟩; decide)
    | (refine VR.pure hTb rfl rfl (o_purN (c1) rfl rfl rfl ⟨rfl, rfl, rfl, rfl⟩ rfl) ?_; conv => whnf)
    | (refine DT.pure hTb rfl (o_purN (c1) rfl rfl rfl ⟨rfl, rfl, rfl, rfl⟩ rfl) ?_; conv => whnf))
    exact EndV.nil 6 106 1 3 rfl rfl (by decide) (endW [106] rfl rfl rfl rfl rfl (LeS.refl _) rfl rfl)
  have cS := cS rfl
  have cN := cN rfl
  have hN := hN rfl
  by_cases hz : z < 0
  · rw [if_neg (by simp [hz])]
    (conv => whnf); repeat' (first
    | (refine And.intro ?_ ?_ <;> ((try intro h) <;> (try simp only [Bool.not_true, Bool.not_false, decide_eq_true_eq, decide_eq_false_iff_not, Int.not_lt, Int.not_le, gt_iff_lt, ge_iff_le] at h) <;> first | exact absurd h Bool.false_ne_true | exact absurd h.symm Bool.false_ne_true | conv => whnf))
    | (refine VL.drawS hTb hMix (by kernel_rfl) (by kernel_rfl) (by kernel_rfl) ?_; conv => whnf)
    | (refine Need.mk ?_; kernel_rfl) | (refine Need.mk ⟨rfl, ?_⟩; decide)
    | (refine VR.pure hTb rfl rfl (o_purN (c1) rfl rfl rfl ⟨rfl, rfl, rfl, rfl⟩ rfl) ?_; conv => whnf)
    | (refine DT.pure hTb rfl (o_purN (c1) rfl rfl rfl ⟨rfl, rfl, rfl, rfl⟩ rfl) ?_; conv => whnf)
    | (refine VR.pure hTb rfl rfl (o_purF (cS) rfl rfl rfl ⟨rfl, rfl, rfl, rfl⟩ rfl) ?_; conv => whnf)
    | (refine DT.pure hTb rfl (o_purF (cS) rfl rfl rfl ⟨rfl, rfl, rfl, rfl⟩ rfl) ?_; conv => whnf)
    | (refine VR.pure hTb rfl rfl (o_purN (cA) rfl rfl rfl ⟨rfl, rfl, rfl, rfl⟩ rfl) ?_; conv => whnf)
    | (refine DT.pure hTb rfl (o_purN (cA) rfl rfl rfl ⟨rfl, rfl, rfl, rfl⟩ rfl) ?_; conv => whnf))
    refine VL.nil2 8 108 1 3 rfl rfl (by decide) ?_
    refine VL.loopI hTb (fun i => i ≤ t.rows.length) (fun i => ⟨[(3, .one (.ptr 103 0)), (5, .one (.ptr 105 0)), (7, iS z), (8, .one (.own 108 0 ([] : List Int).length)), (19, vrowsI t.rows), (20, iS ((t.rows.map encVRow).length : Nat)), (21, iS i)], [(103, .box (encVTable t)), (105, .box (encVal v)), (108, .arr 3 1 (([] : List Int).map encI))], []⟩) (fun i => t.rows.length - i) 0 (Nat.zero_le _)
      (wk_to [(103, 103), (105, 105), (108, 108)] rfl rfl rfl ⟨rfl, rfl, rfl, rfl, rfl, rfl, rfl, trivial⟩ ⟨rfl, ⟨_, rfl, rfl⟩, rfl, ⟨_, rfl, rfl⟩, rfl, ⟨_, rfl, rfl⟩, trivial⟩) (fun i hi => ?_)
    (conv => whnf)
    refine And.intro (fun h2 => ?_) (fun h2 => ?_)
    · have hil : i < t.rows.length := by simpa using h2
      have hrw := rowVRow hil
      generalize t.rows[i] = ri at hrw
      (conv => whnf); repeat' (first
    | (exact absurd hz (by simpa using h))
    | (refine And.intro ?_ ?_ <;> ((try intro h) <;> (try simp only [Bool.not_true, Bool.not_false, decide_eq_true_eq, decide_eq_false_iff_not, Int.not_lt, Int.not_le, gt_iff_lt, ge_iff_le] at h) <;> first | exact absurd h Bool.false_ne_true | exact absurd h.symm Bool.false_ne_true | conv => whnf))
    | (refine VL.drawS hTb hMix (by kernel_rfl) (by kernel_rfl) (by kernel_rfl) ?_; conv => whnf)
    | (refine Need.mk ?_; kernel_rfl) | (refine Need.mk ⟨rfl, ?_⟩; decide)
    | (refine VR.op hTb rfl rfl (o_index_imm hTb rfl rfl rfl rfl rfl rfl rfl (by omega) (hrw)) rfl ?_; conv => whnf)
    | (refine DT.op hTb rfl (o_index_imm hTb rfl rfl rfl rfl rfl rfl rfl (by omega) (hrw)) rfl ?_; conv => whnf))
      all_goals first
        | exact ⟨i + 1, hil, by omega, wk_to [(103, 103), (105, 105), (108, 108)] rfl rfl rfl ⟨rfl, rfl, rfl, rfl, rfl, rfl, congrArg (fun x => Slot.one (.g (.int .i64 x))) (wrap64' (by unfold maxLen; omega)), trivial⟩ ⟨rfl, ⟨_, rfl, rfl⟩, rfl, ⟨_, rfl, rfl⟩, rfl, ⟨_, rfl, rfl⟩, trivial⟩⟩
        | trace_state
    · (conv => whnf)
      have cC := c_clipInt []
      (conv => whnf); repeat' (first
    | (refine And.intro ?_ ?_ <;> ((try intro h) <;> (try simp only [Bool.not_true, Bool.not_false, decide_eq_true_eq, decide_eq_false_iff_not, Int.not_lt, Int.not_le, gt_iff_lt, ge_iff_le] at h) <;> first | exact absurd h Bool.false_ne_true | exact absurd h.symm Bool.false_ne_true | conv => whnf))
    | (refine VL.drawS hTb hMix (by kernel_rfl) (by kernel_rfl) (by kernel_rfl) ?_; conv => whnf)
    | (refine Need.mk ?_; kernel_rfl) | (refine Need.mk ⟨rfl, ?_⟩; decide)
    | (refine VR.fun hTb rfl rfl (o_funN (cC) false [108] (fun h => by cases h) (by simp) rfl rfl rfl rfl rfl ⟨rfl, rfl, rfl, rfl⟩ rfl rfl) ?_; conv => whnf)
    | (refine DT.fun hTb rfl (o_funN (cC) false [108] (fun h => by cases h) (by simp) rfl rfl rfl rfl rfl ⟨rfl, rfl, rfl, rfl⟩ rfl rfl) rfl ?_; conv => whnf))
      exact endW [108] rfl rfl rfl rfl rfl (LeS.refl _) rfl rfl
  · rw [if_pos ⟨rfl, hz⟩]
    (conv => whnf); repeat' (first
    | (refine And.intro ?_ ?_ <;> ((try intro h) <;> (try simp only [Bool.not_true, Bool.not_false, decide_eq_true_eq, decide_eq_false_iff_not, Int.not_lt, Int.not_le, gt_iff_lt, ge_iff_le] at h) <;> first | exact absurd h Bool.false_ne_true | exact absurd h.symm Bool.false_ne_true | conv => whnf))
    | (refine VL.drawS hTb hMix (by kernel_rfl) (by kernel_rfl) (by kernel_rfl) ?_; conv => whnf)
    | (refine Need.mk ?_; kernel_rfl) | (refine Need.mk ⟨rfl, ?_⟩; decide)
    | (refine VR.pure hTb rfl rfl (o_purN (c1) rfl rfl rfl ⟨rfl, rfl, rfl, rfl⟩ rfl) ?_; conv => whnf)
    | (refine DT.pure hTb rfl (o_purN (c1) rfl rfl rfl ⟨rfl, rfl, rfl, rfl⟩ rfl) ?_; conv => whnf)
    | (refine VR.pure hTb rfl rfl (o_purF (cS) rfl rfl rfl ⟨rfl, rfl, rfl, rfl⟩ rfl) ?_; conv => whnf)
    | (refine DT.pure hTb rfl (o_purF (cS) rfl rfl rfl ⟨rfl, rfl, rfl, rfl⟩ rfl) ?_; conv => whnf)
    | (refine VR.pure hTb rfl rfl (o_purN (cA) rfl rfl rfl ⟨rfl, rfl, rfl, rfl⟩ rfl) ?_; conv => whnf)
    | (refine DT.pure hTb rfl (o_purN (cA) rfl rfl rfl ⟨rfl, rfl, rfl, rfl⟩ rfl) ?_; conv => whnf))
    refine VL.nil2 8 108 1 3 rfl rfl (by decide) ?_
    refine VL.loopI hTb (fun i => i ≤ t.rows.length) (fun i => ⟨[(3, .one (.ptr 103 0)), (5, .one (.ptr 105 0)), (7, iS z), (8, .one (.own 108 0 (fdL f z.toNat v (t.rows.take i)).length)), (19, vrowsI t.rows), (20, iS ((t.rows.map encVRow).length : Nat)), (21, iS i)], [(103, .box (encVTable t)), (105, .box (encVal v)), (108, .arr 3 1 ((fdL f z.toNat v (t.rows.take i)).map encI))], []⟩) (fun i => t.rows.length - i) 0 (Nat.zero_le _)
      (wk_to [(103, 103), (105, 105), (108, 108)] rfl rfl rfl ⟨rfl, rfl, rfl, rfl, rfl, rfl, rfl, trivial⟩ ⟨rfl, ⟨_, rfl, rfl⟩, rfl, ⟨_, rfl, rfl⟩, rfl, ⟨_, rfl, rfl⟩, trivial⟩) (fun i hi => ?_)
    (conv => whnf)
    refine And.intro (fun h2 => ?_) (fun h2 => ?_)
    · have hil : i < t.rows.length := by simpa using h2
      have hrw := rowVRow hil
      have hc := cN i hil
      have hvl := hN i hil
      have hv := valAtZ (l := f t.rows[i]) hz (by omega)
      have hy := fdL_yes (f := f) (k := z.toNat) (v := v) hil
      have hn := fdL_no (f := f) (k := z.toNat) (v := v) hil
      have hml : (fdL f z.toNat v (t.rows.take i)).length ≤ 1048576 := by have := fdL_len f z.toNat v (t.rows.take i); simp at this; omega
      generalize fdL f z.toNat v (t.rows.take i) = M at hy hn hml ⊢
      generalize (f t.rows[i]).getD z.toNat zVal = vi at hv hy hn
      generalize f t.rows[i] = w at hc hv
      generalize t.rows[i] = ri at hrw hc hy
      (conv => whnf); repeat' (first
    | (exact absurd (by simpa using h) hz)
    | (refine And.intro ?_ ?_ <;> ((try intro h) <;> (try simp only [Bool.not_true, Bool.not_false, decide_eq_true_eq, decide_eq_false_iff_not, Int.not_lt, Int.not_le, gt_iff_lt, ge_iff_le] at h) <;> first | exact absurd h Bool.false_ne_true | exact absurd h.symm Bool.false_ne_true | conv => whnf))
    | (refine VL.drawS hTb hMix (by kernel_rfl) (by kernel_rfl) (by kernel_rfl) ?_; conv => whnf)
    | (refine Need.mk ?_; kernel_rfl) | (refine Need.mk ⟨rfl, ?_⟩; decide)
    | (refine VR.op hTb rfl rfl (o_index_imm hTb rfl rfl rfl rfl rfl rfl rfl (by omega) (hrw)) rfl ?_; conv => whnf)
    | (refine DT.op hTb rfl (o_index_imm hTb rfl rfl rfl rfl rfl rfl rfl (by omega) (hrw)) rfl ?_; conv => whnf)
    | (refine VR.op hTb rfl rfl (o_index_imm hTb rfl rfl rfl rfl rfl rfl rfl (by omega) (hv)) rfl ?_; conv => whnf)
    | (refine DT.op hTb rfl (o_index_imm hTb rfl rfl rfl rfl rfl rfl rfl (by omega) (hv)) rfl ?_; conv => whnf)
    | (refine VR.pure hTb rfl rfl (o_purF (hc) rfl rfl rfl ⟨rfl, rfl, rfl, rfl⟩ rfl) ?_; conv => whnf)
    | (refine DT.pure hTb rfl (o_purF (hc) rfl rfl rfl ⟨rfl, rfl, rfl, rfl⟩ rfl) ?_; conv => whnf)
    | (refine VR.opk hTb rfl rfl (o_app1 (q := 141) (a := ri.id) hTb rfl rfl rfl rfl rfl rfl rfl rfl rfl rfl rfl rfl (by omega) (by show _ * 8 ≤ _; omega) (by unfold maxLen; omega)) ?_; conv => whnf)
    | (refine DT.opk hTb rfl (o_app1 (q := 141) (a := ri.id) hTb rfl rfl rfl rfl rfl rfl rfl rfl rfl rfl rfl rfl (by omega) (by show _ * 8 ≤ _; omega) (by unfold maxLen; omega)) ?_; conv => whnf))
      · have e := hy h
        exact ⟨i + 1, hil, by omega, wk_to [(103, 103), (105, 105), (141, 108)] rfl rfl rfl ⟨rfl, rfl, rfl, congrArg (fun n => Slot.one (.own 108 0 n)) (by rw [e]; simp), rfl, rfl, congrArg (fun x => Slot.one (.g (.int .i64 x))) (wrap64' (by unfold maxLen; omega)), trivial⟩ ⟨rfl, ⟨_, rfl, rfl⟩, rfl, ⟨_, rfl, rfl⟩, rfl, ⟨_, rfl, congrArg (fun r : List Int => Ob.arr 3 1 (r.map encI)) e.symm⟩, trivial⟩⟩
      · have e := hn h
        exact ⟨i + 1, hil, by omega, wk_to [(103, 103), (105, 105), (108, 108)] rfl rfl rfl ⟨rfl, rfl, rfl, congrArg (fun r : List Int => Slot.one (.own 108 0 r.length)) e.symm, rfl, rfl, congrArg (fun x => Slot.one (.g (.int .i64 x))) (wrap64' (by unfold maxLen; omega)), trivial⟩ ⟨rfl, ⟨_, rfl, rfl⟩, rfl, ⟨_, rfl, rfl⟩, rfl, ⟨_, rfl, congrArg (fun r : List Int => Ob.arr 3 1 (r.map encI)) e.symm⟩, trivial⟩⟩
    · have hie : i = t.rows.length := by simp at h2; omega
      subst hie
      rw [List.take_length]
      generalize fdL f z.toNat v t.rows = M
      (conv => whnf)
      have cC := c_clipInt M
      (conv => whnf); repeat' (first
    | (refine And.intro ?_ ?_ <;> ((try intro h) <;> (try simp only [Bool.not_true, Bool.not_false, decide_eq_true_eq, decide_eq_false_iff_not, Int.not_lt, Int.not_le, gt_iff_lt, ge_iff_le] at h) <;> first | exact absurd h Bool.false_ne_true | exact absurd h.symm Bool.false_ne_true | conv => whnf))
    | (refine VL.drawS hTb hMix (by kernel_rfl) (by kernel_rfl) (by kernel_rfl) ?_; conv => whnf)
    | (refine Need.mk ?_; kernel_rfl) | (refine Need.mk ⟨rfl, ?_⟩; decide)
    | (refine VR.fun hTb rfl rfl (o_funN (cC) false [108] (fun h => by cases h) (by simp) rfl rfl rfl rfl rfl ⟨rfl, rfl, rfl, rfl⟩ rfl rfl) ?_; conv => whnf)
    | (refine DT.fun hTb rfl (o_funN (cC) false [108] (fun h => by cases h) (by simp) rfl rfl rfl rfl rfl ⟨rfl, rfl, rfl, rfl⟩ rfl rfl) rfl ?_; conv => whnf))
      exact endW [108] rfl rfl rfl rfl rfl (LeS.refl _) rfl rfl
theorem c_specTableFind (t : VTable) (c : ByteArray) (v : Val) (ht : t.md) : CallsV Tryz.prog 26 [.agg (encVTable t), strS c, .agg (encVal v)] [] (funQ (.one (.own 0 0 (tFd t c v).length)) [] [.arr 3 1 ((tFd t c v).map encI)]) := by
  have c1 := c_specTableOk t ht
  have cS := c_l3Last t ht
  have hLl := tL_len t
  have hfc := ht.fc
  have hrl := ht.r
  have cA := c_l2At (tL t) c (by unfold maxLen; omega)
  have hat := nameAt_in (tL t) c
  have cN := fun (hk : tabOk t = true) i (h : i < t.rows.length) => (c_l3Now t t.rows[i] ht (rowFacts hk h).1 (by have := (ht.rm _ (List.getElem_mem h)).1; omega) (ht.rm _ (List.getElem_mem h)).2).pure (pureVals _)
  have hN := fun (hk : tabOk t = true) i (h : i < t.rows.length) => (tNow_go (tabOk_iff.1 hk).sh (rowFacts hk h).2).2
  unfold tFd
  generalize tabOk t = b at c1 cN hN ⊢
  generalize tL t = L at cS cA hat hLl hN ⊢
  generalize nameAt L c = z at cA hat ⊢
  obtain ⟨f, hf⟩ : ∃ f, tNow t = f := ⟨_, rfl⟩
  rw [hf] at cN hN ⊢
  clear hf ht hfc
  refine funF_walk hTb Tryz.func26 rfl rfl Tryz.ntmps26 (by simp) (by simp) ?_
  cases b
  · rw [if_neg (by simp)]
    (conv => whnf); repeat' (first
    | (refine And.intro ?_ ?_ <;> ((try intro h) <;> (try simp only [Bool.not_true, Bool.not_false, decide_eq_true_eq, decide_eq_false_iff_not, Int.not_lt, Int.not_le, gt_iff_lt, ge_iff_le] at h) <;> first | exact absurd h Bool.false_ne_true | exact absurd h.symm Bool.false_ne_true | conv => whnf))
    | (refine VL.drawS hTb hMix (by kernel_rfl) (by kernel_rfl) (by kernel_rfl) ?_; conv => whnf)
    | (refine Need.mk ?_; kernel_rfl) | (refine Need.mk ⟨rfl, ?_⟩; decide)
    | (refine VR.pure hTb rfl rfl (o_purN (c1) rfl rfl rfl ⟨rfl, rfl, rfl, rfl⟩ rfl) ?_; conv => whnf)
    | (refine DT.pure hTb rfl (o_purN (c1) rfl rfl rfl ⟨rfl, rfl, rfl, rfl⟩ rfl) ?_; conv => whnf)
    | (refine VR.pure hTb rfl rfl (o_purF (cS) rfl rfl rfl ⟨rfl, rfl, rfl, rfl⟩ rfl) ?_; conv => whnf)
    | (refine DT.pure hTb rfl (o_purF (cS) rfl rfl rfl ⟨rfl, rfl, rfl, rfl⟩ rfl) ?_; conv => whnf)
    | (refine VR.pure hTb rfl rfl (o_purN (cA) rfl rfl rfl ⟨rfl, rfl, rfl, rfl⟩ rfl) ?_; conv => whnf)
    | (refine DT.pure hTb rfl (o_purN (cA) rfl rfl rfl ⟨rfl, rfl, rfl, rfl⟩ rfl) ?_; conv => whnf))
    all_goals exact endW [110] rfl rfl rfl rfl rfl (LeS.refl _) rfl rfl
  have cN := cN rfl
  have hN := hN rfl
  by_cases hz : z < 0
  · rw [if_neg (by simp [hz])]
    (conv => whnf); repeat' (first
    | (exact absurd hz (by simpa using h))
    | (refine And.intro ?_ ?_ <;> ((try intro h) <;> (try simp only [Bool.not_true, Bool.not_false, decide_eq_true_eq, decide_eq_false_iff_not, Int.not_lt, Int.not_le, gt_iff_lt, ge_iff_le] at h) <;> first | exact absurd h Bool.false_ne_true | exact absurd h.symm Bool.false_ne_true | conv => whnf))
    | (refine VL.drawS hTb hMix (by kernel_rfl) (by kernel_rfl) (by kernel_rfl) ?_; conv => whnf)
    | (refine Need.mk ?_; kernel_rfl) | (refine Need.mk ⟨rfl, ?_⟩; decide)
    | (refine VR.pure hTb rfl rfl (o_purN (c1) rfl rfl rfl ⟨rfl, rfl, rfl, rfl⟩ rfl) ?_; conv => whnf)
    | (refine DT.pure hTb rfl (o_purN (c1) rfl rfl rfl ⟨rfl, rfl, rfl, rfl⟩ rfl) ?_; conv => whnf)
    | (refine VR.pure hTb rfl rfl (o_purF (cS) rfl rfl rfl ⟨rfl, rfl, rfl, rfl⟩ rfl) ?_; conv => whnf)
    | (refine DT.pure hTb rfl (o_purF (cS) rfl rfl rfl ⟨rfl, rfl, rfl, rfl⟩ rfl) ?_; conv => whnf)
    | (refine VR.pure hTb rfl rfl (o_purN (cA) rfl rfl rfl ⟨rfl, rfl, rfl, rfl⟩ rfl) ?_; conv => whnf)
    | (refine DT.pure hTb rfl (o_purN (cA) rfl rfl rfl ⟨rfl, rfl, rfl, rfl⟩ rfl) ?_; conv => whnf))
    all_goals exact endW [110] rfl rfl rfl rfl rfl (LeS.refl _) rfl rfl
  · rw [if_pos ⟨rfl, hz⟩]
    (conv => whnf); repeat' (first
    | (exact absurd (by simpa using h) hz)
    | (refine And.intro ?_ ?_ <;> ((try intro h) <;> (try simp only [Bool.not_true, Bool.not_false, decide_eq_true_eq, decide_eq_false_iff_not, Int.not_lt, Int.not_le, gt_iff_lt, ge_iff_le] at h) <;> first | exact absurd h Bool.false_ne_true | exact absurd h.symm Bool.false_ne_true | conv => whnf))
    | (refine VL.drawS hTb hMix (by kernel_rfl) (by kernel_rfl) (by kernel_rfl) ?_; conv => whnf)
    | (refine Need.mk ?_; kernel_rfl) | (refine Need.mk ⟨rfl, ?_⟩; decide)
    | (refine VR.pure hTb rfl rfl (o_purN (c1) rfl rfl rfl ⟨rfl, rfl, rfl, rfl⟩ rfl) ?_; conv => whnf)
    | (refine DT.pure hTb rfl (o_purN (c1) rfl rfl rfl ⟨rfl, rfl, rfl, rfl⟩ rfl) ?_; conv => whnf)
    | (refine VR.pure hTb rfl rfl (o_purF (cS) rfl rfl rfl ⟨rfl, rfl, rfl, rfl⟩ rfl) ?_; conv => whnf)
    | (refine DT.pure hTb rfl (o_purF (cS) rfl rfl rfl ⟨rfl, rfl, rfl, rfl⟩ rfl) ?_; conv => whnf)
    | (refine VR.pure hTb rfl rfl (o_purN (cA) rfl rfl rfl ⟨rfl, rfl, rfl, rfl⟩ rfl) ?_; conv => whnf)
    | (refine DT.pure hTb rfl (o_purN (cA) rfl rfl rfl ⟨rfl, rfl, rfl, rfl⟩ rfl) ?_; conv => whnf))
    refine VL.loopI hTb (fun i => i ≤ t.rows.length) (fun i => ⟨[(3, .one (.ptr 103 0)), (5, .one (.ptr 105 0)), (7, .one (.own 110 0 (fdL f z.toNat v (t.rows.take i)).length)), (8, iS z), (9, iS i)], [(103, .box (encVTable t)), (105, .box (encVal v)), (110, .arr 3 1 ((fdL f z.toNat v (t.rows.take i)).map encI))], []⟩) (fun i => t.rows.length - i) 0 (Nat.zero_le _)
      (wk_to [(103, 103), (105, 105), (110, 110)] rfl rfl rfl ⟨rfl, rfl, rfl, rfl, rfl, trivial⟩ ⟨rfl, ⟨_, rfl, rfl⟩, rfl, ⟨_, rfl, rfl⟩, rfl, ⟨_, rfl, rfl⟩, trivial⟩) (fun i hi => ?_)
    (conv => whnf)
    refine And.intro (fun h2 => ?_) (fun h2 => ?_)
    · have hil : i < t.rows.length := by simpa using h2
      have hrw := rowVRow hil
      have hc := cN i hil
      have hvl := hN i hil
      have hv := valAtZ (l := f t.rows[i]) hz (by omega)
      have hy := fdL_yes (f := f) (k := z.toNat) (v := v) hil
      have hn := fdL_no (f := f) (k := z.toNat) (v := v) hil
      have hml : (fdL f z.toNat v (t.rows.take i)).length ≤ 1048576 := by have := fdL_len f z.toNat v (t.rows.take i); simp at this; omega
      generalize fdL f z.toNat v (t.rows.take i) = M at hy hn hml ⊢
      generalize (f t.rows[i]).getD z.toNat zVal = vi at hv hy hn
      generalize f t.rows[i] = w at hc hv
      generalize t.rows[i] = ri at hrw hc hy
      (conv => whnf); repeat' (first
    | (refine And.intro ?_ ?_ <;> ((try intro h) <;> (try simp only [Bool.not_true, Bool.not_false, decide_eq_true_eq, decide_eq_false_iff_not, Int.not_lt, Int.not_le, gt_iff_lt, ge_iff_le] at h) <;> first | exact absurd h Bool.false_ne_true | exact absurd h.symm Bool.false_ne_true | conv => whnf))
    | (refine VL.drawS hTb hMix (by kernel_rfl) (by kernel_rfl) (by kernel_rfl) ?_; conv => whnf)
    | (refine Need.mk ?_; kernel_rfl) | (refine Need.mk ⟨rfl, ?_⟩; decide)
    | (refine VR.op hTb rfl rfl (o_index_imm hTb rfl rfl rfl rfl rfl rfl rfl (by omega) (hrw)) rfl ?_; conv => whnf)
    | (refine DT.op hTb rfl (o_index_imm hTb rfl rfl rfl rfl rfl rfl rfl (by omega) (hrw)) rfl ?_; conv => whnf)
    | (refine VR.op hTb rfl rfl (o_index_imm hTb rfl rfl rfl rfl rfl rfl rfl (by omega) (hv)) rfl ?_; conv => whnf)
    | (refine DT.op hTb rfl (o_index_imm hTb rfl rfl rfl rfl rfl rfl rfl (by omega) (hv)) rfl ?_; conv => whnf)
    | (refine VR.pure hTb rfl rfl (o_purF (hc) rfl rfl rfl ⟨rfl, rfl, rfl, rfl⟩ rfl) ?_; conv => whnf)
    | (refine DT.pure hTb rfl (o_purF (hc) rfl rfl rfl ⟨rfl, rfl, rfl, rfl⟩ rfl) ?_; conv => whnf)
    | (refine VR.opk hTb rfl rfl (o_app1 (q := 153) (a := ri.id) hTb rfl rfl rfl rfl rfl rfl rfl rfl rfl rfl rfl rfl (by omega) (by show _ * 8 ≤ _; omega) (by unfold maxLen; omega)) ?_; conv => whnf)
    | (refine DT.opk hTb rfl (o_app1 (q := 153) (a := ri.id) hTb rfl rfl rfl rfl rfl rfl rfl rfl rfl rfl rfl rfl (by omega) (by show _ * 8 ≤ _; omega) (by unfold maxLen; omega)) ?_; conv => whnf))
      · have e := hy h
        exact ⟨i + 1, hil, by omega, wk_to [(103, 103), (105, 105), (153, 110)] rfl rfl rfl ⟨rfl, rfl, congrArg (fun n => Slot.one (.own 110 0 n)) (by rw [e]; simp), rfl, congrArg (fun x => Slot.one (.g (.int .i64 x))) (wrap64' (by unfold maxLen; omega)), trivial⟩ ⟨rfl, ⟨_, rfl, rfl⟩, rfl, ⟨_, rfl, rfl⟩, rfl, ⟨_, rfl, congrArg (fun r : List Int => Ob.arr 3 1 (r.map encI)) e.symm⟩, trivial⟩⟩
      · have e := hn h
        exact ⟨i + 1, hil, by omega, wk_to [(103, 103), (105, 105), (110, 110)] rfl rfl rfl ⟨rfl, rfl, congrArg (fun r : List Int => Slot.one (.own 110 0 r.length)) e.symm, rfl, congrArg (fun x => Slot.one (.g (.int .i64 x))) (wrap64' (by unfold maxLen; omega)), trivial⟩ ⟨rfl, ⟨_, rfl, rfl⟩, rfl, ⟨_, rfl, rfl⟩, rfl, ⟨_, rfl, congrArg (fun r : List Int => Ob.arr 3 1 (r.map encI)) e.symm⟩, trivial⟩⟩
    · have hie : i = t.rows.length := by simp at h2; omega
      subst hie
      rw [List.take_length]
      generalize fdL f z.toNat v t.rows = M
      (conv => whnf)
      exact endW [110] rfl rfl rfl rfl rfl (LeS.refl _) rfl rfl
end Go.Vl
