/- Contracts: a right base: the program's. Contracts: rows of tables drawn: put, turned, taken out: the parts. Contracts: rows of tables drawn: taken out, put, turned. Contracts: tables drawn: a row turned, a change put. -/
import Derived.Test.YtdijjjgplhbkkaaGreatDoorJUn
import Derived.Test.YtdijjjgplhbkkaaGreatDoorJUm
import Derived.Test.YtdijjjgplhbkkaaGreatDoorJUl
set_option linter.unusedSimpArgs false
set_option linter.unusedVariables false
set_option linter.unnecessarySimpa false

namespace Go.Vl
open Go Go.RowKit Go.Proofs
set_option maxRecDepth 100000
set_option linter.unusedSimpArgs false
set_option linter.unusedVariables false
set_option linter.unnecessarySimpa false
set_option maxHeartbeats 8000000

theorem LkOk.of {b : VBase} {l : VLink} (hm : b.md) (ht : ∀ t ∈ b.tabs, tabOk t.table = true) (hf : fitB b l = true) : LkOk b l := by
  have := fitB_iff.1 hf
  exact ⟨hm, ht, this.1, this.2.1, this.2.2.2.1⟩
end Go.Vl

namespace Go.Vl
open Go Go.RowKit Go.Proofs
set_option maxRecDepth 100000
set_option linter.unusedSimpArgs false
set_option linter.unusedVariables false
set_option linter.unnecessarySimpa false
set_option maxHeartbeats 8000000

abbrev tdL (t : VTable) (o : Nat) : List Leaf := [.imm 7 (t.first.map encCol), .imm 10 (t.changes.map encChange), .own o 0 t.rows.length, .g (.int .i64 t.next)]
abbrev tdO (t : VTable) : Ob := .arr 35 3 (t.rows.map encVRow)
theorem brwTD (t : VTable) : Slot.agg [.imm 7 (t.first.map encCol), .imm 10 (t.changes.map encChange), .imm 3 (((t.rows.map encVRow).drop 0).take t.rows.length), .g (.int .i64 t.next)] = .agg (encVTable t) := by
  rw [List.drop_zero, List.take_of_length_le (by simp)]; rfl
def smSets (l : List VSet) : Prop := l.length ≤ 100 ∧ ∀ x ∈ l, x.name.size ≤ 8 ∧ x.val.md
theorem smSets.ok {l : List VSet} (h : smSets l) : ∀ x ∈ l, x.ok := fun x hx => ⟨by have := (h.2 x hx).1; unfold maxLen; omega, by have : x.val.t.size ≤ 1048576 := (h.2 x hx).2; show x.val.t.size ≤ maxLen; unfold maxLen; omega⟩
theorem c_l3Fill (s : List Col) (row : List Val) (sets : List VSet) (hs : s.length ≤ row.length) (hr : row.length ≤ 1000000) (hm : mdVals row) (hS : smSets sets) : CallsV Tryz.prog 186 [colsI s, valsI row, vsetsI sets] []
    (relQ (fun y : List Val × Bool => y.1.length = row.length ∧ mdVals y.1) (fun y => .tup [(false, [.own 0 0 y.1.length]), (false, [.g (.bool y.2)])]) (fun _ => []) (fun y => [.arr 37 3 (y.1.map encVal)])) := by
  have hsl := hS.1
  have cA := fun n => c_l2At s n (lmax (by omega))
  refine funF_walk hTb Tryz.func186 rfl rfl Tryz.ntmps186 (by simp) (by simp) ?_
  (conv => whnf); repeat' (first
    | (refine And.intro ?_ ?_ <;> ((try intro h) <;> (try simp only [Bool.not_true, Bool.not_false, decide_eq_true_eq, decide_eq_false_iff_not, Int.not_lt, Int.not_le, gt_iff_lt, ge_iff_le] at h) <;> first | exact absurd h Bool.false_ne_true | exact absurd h.symm Bool.false_ne_true | conv => whnf))
    | (refine VL.drawS hTb hMix (by kernel_rfl) (by kernel_rfl) (by kernel_rfl) ?_; conv => whnf)
    | (refine Need.mk ?_; kernel_rfl) | (refine Need.mk ⟨rfl, ?_⟩; decide)
    | (refine VR.opk hTb rfl rfl (o_app0 (f := encVal) (m := row) (q := 114) hTb rfl rfl rfl rfl rfl rfl rfl rfl rfl rfl (by omega) (by show _ * 32 ≤ _; omega) (by unfold maxLen; omega)) ?_; conv => whnf)
    | (refine DT.opk hTb rfl (o_app0 (f := encVal) (m := row) (q := 114) hTb rfl rfl rfl rfl rfl rfl rfl rfl rfl rfl (by omega) (by show _ * 32 ≤ _; omega) (by unfold maxLen; omega)) ?_; conv => whnf))
  refine VL.loopI hTb (α := Nat × List Val) (fun x => x.1 ≤ sets.length ∧ x.2.length = row.length ∧ mdVals x.2) (fun x => ⟨[(0, colsI s), (2, vsetsI sets), (8, .one (.own 114 0 x.2.length)), (9, iS x.1)], [(114, .arr 37 3 (x.2.map encVal))], []⟩) (fun x => sets.length - x.1) (0, row) ⟨Nat.zero_le _, rfl, hm⟩
    (wk_to [(114, 114)] rfl rfl rfl ⟨rfl, rfl, rfl, rfl, trivial⟩ ⟨rfl, ⟨_, rfl, rfl⟩, trivial⟩) (fun x hx => ?_)
  obtain ⟨i, M⟩ := x
  obtain ⟨hi, hML, hMm⟩ := hx
  simp only at hi hML hMm
  (conv => whnf)
  refine And.intro (fun h2 => ?_) (fun h2 => ?_)
  · have hlt : i < sets.length := by simpa using h2
    have hrow := rowVSet hlt
    have hx := hS.2 _ (List.getElem_mem hlt)
    have hxo := hS.ok _ (List.getElem_mem hlt)
    have cA := cA sets[i].name
    have cV := c_specValOk sets[i].val hxo.2
    have hN := nameAt_bd s sets[i].name
    have hset : ∀ j, j < i → ∃ xj, (sets.map encVSet)[((j : Nat) : Int).toNat]? = some (encVSet xj) := fun j hj => ⟨_, rowVSet (show j < sets.length by omega)⟩
    generalize nameAt s sets[i].name = z at cA hN
    generalize sets[i] = xi at hrow hx hxo cA cV
    generalize valOk xi.val = bv at cV
    have hcr := fun h0 => rowCZ (s := s) (z := z) h0 hN.1
    generalize s.getD z.toNat (kCol 0) = cc at hcr
    by_cases hz : z < 0
    · (conv => whnf); repeat' (first
    | (exact absurd h (by omega))
    | (refine And.intro ?_ ?_ <;> ((try intro h) <;> (try simp only [Bool.not_true, Bool.not_false, decide_eq_true_eq, decide_eq_false_iff_not, Int.not_lt, Int.not_le, gt_iff_lt, ge_iff_le] at h) <;> first | exact absurd h Bool.false_ne_true | exact absurd h.symm Bool.false_ne_true | conv => whnf))
    | (refine VL.drawS hTb hMix (by kernel_rfl) (by kernel_rfl) (by kernel_rfl) ?_; conv => whnf)
    | (refine Need.mk ?_; kernel_rfl) | (refine Need.mk ⟨rfl, ?_⟩; decide)
    | (refine VR.op hTb rfl rfl (o_index_imm hTb rfl rfl rfl rfl rfl rfl rfl (by omega) (hrow)) rfl ?_; conv => whnf)
    | (refine DT.op hTb rfl (o_index_imm hTb rfl rfl rfl rfl rfl rfl rfl (by omega) (hrow)) rfl ?_; conv => whnf)
    | (refine VR.pure hTb rfl rfl (o_purN (cA) rfl rfl rfl ⟨rfl, rfl, rfl, rfl⟩ rfl) ?_; conv => whnf)
    | (refine DT.pure hTb rfl (o_purN (cA) rfl rfl rfl ⟨rfl, rfl, rfl, rfl⟩ rfl) ?_; conv => whnf))
      all_goals first
        | exact endR [114] (M, false) rfl rfl rfl rfl rfl (LeS.refl _) rfl rfl ⟨hML, hMm⟩
        | trace_state
    have hcr := hcr (by omega)
    have hMz : M[0 + z.toNat]? = some (M[z.toNat]'(by omega)) := by rw [Nat.zero_add]; exact List.getElem?_eq_getElem _
    generalize M[z.toNat]'(by omega) = mz at hMz
    cases bv <;> (conv => whnf); repeat' (first
    | (exact absurd h (by omega))
    | (refine And.intro ?_ ?_ <;> ((try intro h) <;> (try simp only [Bool.not_true, Bool.not_false, decide_eq_true_eq, decide_eq_false_iff_not, Int.not_lt, Int.not_le, gt_iff_lt, ge_iff_le] at h) <;> first | exact absurd h Bool.false_ne_true | exact absurd h.symm Bool.false_ne_true | conv => whnf))
    | (refine VL.drawS hTb hMix (by kernel_rfl) (by kernel_rfl) (by kernel_rfl) ?_; conv => whnf)
    | (refine Need.mk ?_; kernel_rfl) | (refine Need.mk ⟨rfl, ?_⟩; decide)
    | (refine VR.op hTb rfl rfl (o_index_imm hTb rfl rfl rfl rfl rfl rfl rfl (by omega) (hrow)) rfl ?_; conv => whnf)
    | (refine DT.op hTb rfl (o_index_imm hTb rfl rfl rfl rfl rfl rfl rfl (by omega) (hrow)) rfl ?_; conv => whnf)
    | (refine VR.pure hTb rfl rfl (o_purN (cA) rfl rfl rfl ⟨rfl, rfl, rfl, rfl⟩ rfl) ?_; conv => whnf)
    | (refine DT.pure hTb rfl (o_purN (cA) rfl rfl rfl ⟨rfl, rfl, rfl, rfl⟩ rfl) ?_; conv => whnf)
    | (refine VR.pure hTb rfl rfl (o_purN (cV) rfl rfl rfl ⟨rfl, rfl, rfl, rfl⟩ rfl) ?_; conv => whnf)
    | (refine DT.pure hTb rfl (o_purN (cV) rfl rfl rfl ⟨rfl, rfl, rfl, rfl⟩ rfl) ?_; conv => whnf)
    | (refine VR.op hTb rfl rfl (o_index_imm hTb rfl rfl rfl rfl rfl rfl rfl (by omega) (hcr)) rfl ?_; conv => whnf)
    | (refine DT.op hTb rfl (o_index_imm hTb rfl rfl rfl rfl rfl rfl rfl (by omega) (hcr)) rfl ?_; conv => whnf))
    all_goals first
      | exact endR [114] (M, false) rfl rfl rfl rfl rfl (LeS.refl _) rfl rfl ⟨hML, hMm⟩
      | skip
    all_goals
      refine VL.loopI hTb (fun j => j ≤ i) (fun j => ⟨[(0, colsI s), (2, vsetsI sets), (8, .one (.own 114 0 M.length)), (9, iS i), (10, iS z), (11, iS j)], [(114, .arr 37 3 (M.map encVal))], []⟩) (fun j => i - j) 0 (Nat.zero_le _)
        (wk_to [(114, 114)] rfl rfl rfl ⟨rfl, rfl, rfl, rfl, rfl, rfl, trivial⟩ ⟨rfl, ⟨_, rfl, rfl⟩, trivial⟩) (fun j hj => ?_)
      (conv => whnf)
      refine And.intro (fun h3 => ?_) (fun h3 => ?_)
      · have hji : j < i := by have := of_decide_eq_true h3; omega
        obtain ⟨xj, hxj⟩ := hset j hji
        (conv => whnf); repeat' (first
    | (refine And.intro ?_ ?_ <;> ((try intro h) <;> (try simp only [Bool.not_true, Bool.not_false, decide_eq_true_eq, decide_eq_false_iff_not, Int.not_lt, Int.not_le, gt_iff_lt, ge_iff_le] at h) <;> first | exact absurd h Bool.false_ne_true | exact absurd h.symm Bool.false_ne_true | conv => whnf))
    | (refine VL.drawS hTb hMix (by kernel_rfl) (by kernel_rfl) (by kernel_rfl) ?_; conv => whnf)
    | (refine Need.mk ?_; kernel_rfl) | (refine Need.mk ⟨rfl, ?_⟩; decide)
    | (refine VR.op hTb rfl rfl (o_index_imm hTb rfl rfl rfl rfl rfl rfl rfl (by omega) (hxj)) rfl ?_; conv => whnf)
    | (refine DT.op hTb rfl (o_index_imm hTb rfl rfl rfl rfl rfl rfl rfl (by omega) (hxj)) rfl ?_; conv => whnf)
    | (refine VR.op hTb rfl rfl (o_index_imm hTb rfl rfl rfl rfl rfl rfl rfl (by omega) (hrow)) rfl ?_; conv => whnf)
    | (refine DT.op hTb rfl (o_index_imm hTb rfl rfl rfl rfl rfl rfl rfl (by omega) (hrow)) rfl ?_; conv => whnf))
        all_goals first
          | exact endR [114] (M, false) rfl rfl rfl rfl rfl (LeS.refl _) rfl rfl ⟨hML, hMm⟩
          | exact ⟨j + 1, hji, by omega, wk_to [(114, 114)] rfl rfl rfl ⟨rfl, rfl, rfl, rfl, rfl, congrArg (fun x => Slot.one (.g (.int .i64 x))) (wrap64' (by unfold maxLen; omega)), trivial⟩ ⟨rfl, ⟨_, rfl, rfl⟩, trivial⟩⟩
          | trace_state
      · (conv => whnf); repeat' (first
    | (refine And.intro ?_ ?_ <;> ((try intro h) <;> (try simp only [Bool.not_true, Bool.not_false, decide_eq_true_eq, decide_eq_false_iff_not, Int.not_lt, Int.not_le, gt_iff_lt, ge_iff_le] at h) <;> first | exact absurd h Bool.false_ne_true | exact absurd h.symm Bool.false_ne_true | conv => whnf))
    | (refine VL.drawS hTb hMix (by kernel_rfl) (by kernel_rfl) (by kernel_rfl) ?_; conv => whnf)
    | (refine Need.mk ?_; kernel_rfl) | (refine Need.mk ⟨rfl, ?_⟩; decide)
    | (refine VR.op hTb rfl rfl (o_index_imm hTb rfl rfl rfl rfl rfl rfl rfl (by omega) (hrow)) rfl ?_; conv => whnf)
    | (refine DT.op hTb rfl (o_index_imm hTb rfl rfl rfl rfl rfl rfl rfl (by omega) (hrow)) rfl ?_; conv => whnf)
    | (refine Need.mk ?_; exact ⟨rfl, by omega, by omega⟩)
    | (refine VR.op hTb rfl rfl (o_storeM hTb rfl rfl rfl rfl rfl (hMz) rfl rfl rfl ⟨rfl, by decide⟩ (c' := ⟨_, _, _⟩) rfl) rfl ?_; conv => whnf)
    | (refine DT.op hTb rfl (o_storeM hTb rfl rfl rfl rfl rfl (hMz) rfl rfl rfl ⟨rfl, by decide⟩ (c' := ⟨_, _, _⟩) rfl) rfl ?_; conv => whnf))
        all_goals first
          | (refine ⟨(i + 1, M.set (0 + z.toNat) ⟨xi.val.k, xi.val.n, xi.val.t⟩), ⟨hlt, by simp only [List.length_set]; exact hML, fun v hv => ?_⟩, by show sets.length - (i + 1) < sets.length - i; omega, wk_to [(114, 114)] rfl rfl rfl ⟨rfl, rfl, congrArg (fun n => Slot.one (.own 114 0 n)) (by simp), congrArg (fun x => Slot.one (.g (.int .i64 x))) (wrap64' (by unfold maxLen; omega)), trivial⟩ ⟨rfl, ⟨_, rfl, rfl⟩, trivial⟩⟩
             rcases List.mem_or_eq_of_mem_set hv with hv | hv
             · exact hMm v hv
             · subst hv; exact hx.2)
          | trace_state
  · (conv => whnf)
    exact endR [114] (M, true) rfl rfl rfl rfl rfl (LeS.refl _) rfl rfl ⟨hML, hMm⟩
theorem c_l3Defs (s : List Col) (hs : s.length ≤ 1000000) : CallsV Tryz.prog 188 [colsI s] [] (funQ (.one (.own 0 0 s.length)) [] [.arr 37 3 ((s.map Col.d).map encVal)]) := by
  refine funF_walk hTb Tryz.func188 rfl rfl Tryz.ntmps188 (by simp) (by simp) ?_
  (conv => whnf); repeat' (first | (refine And.intro ?_ ?_ <;> ((try intro h) <;> (try simp only [Bool.not_true, Bool.not_false] at h) <;> first | exact absurd h Bool.false_ne_true | exact absurd h.symm Bool.false_ne_true | conv => whnf)) | (refine Need.mk ?_; kernel_rfl) | (refine Need.mk ⟨rfl, ?_⟩; decide))
  refine VL.loopI hTb (fun i => i ≤ s.length) (fun i => ⟨[(0, colsI s), (3, .one (.own 105 0 ((s.take i).map Col.d).length)), (4, iS i)], [(105, .arr 37 3 (((s.take i).map Col.d).map encVal))], []⟩) (fun i => s.length - i) 0 (Nat.zero_le _)
    (wk_to [(105, 105)] rfl rfl rfl ⟨rfl, rfl, rfl, trivial⟩ ⟨rfl, ⟨_, rfl, rfl⟩, trivial⟩) (fun i hi => ?_)
  (conv => whnf)
  refine And.intro (fun h2 => ?_) (fun h2 => ?_)
  · have hlt : i < s.length := by simpa using h2
    have hrow := rowCol hlt
    have htk : (s.take (i + 1)).map Col.d = (s.take i).map Col.d ++ [s[i].d] := by rw [List.take_succ_eq_append_getElem hlt, List.map_append]; rfl
    have hml : ((s.take i).map Col.d).length ≤ 1000000 := by simp; omega
    generalize (s.take i).map Col.d = M at htk hml ⊢
    generalize s[i] = ci at hrow htk
    (conv => whnf); repeat' (first
    | (refine And.intro ?_ ?_ <;> ((try intro h) <;> (try simp only [Bool.not_true, Bool.not_false, decide_eq_true_eq, decide_eq_false_iff_not, Int.not_lt, Int.not_le, gt_iff_lt, ge_iff_le] at h) <;> first | exact absurd h Bool.false_ne_true | exact absurd h.symm Bool.false_ne_true | conv => whnf))
    | (refine VL.drawS hTb hMix (by kernel_rfl) (by kernel_rfl) (by kernel_rfl) ?_; conv => whnf)
    | (refine Need.mk ?_; kernel_rfl) | (refine Need.mk ⟨rfl, ?_⟩; decide)
    | (refine VR.op hTb rfl rfl (o_index_imm hTb rfl rfl rfl rfl rfl rfl rfl (by omega) (hrow)) rfl ?_; conv => whnf)
    | (refine DT.op hTb rfl (o_index_imm hTb rfl rfl rfl rfl rfl rfl rfl (by omega) (hrow)) rfl ?_; conv => whnf)
    | (refine VR.opk hTb rfl rfl (o_app1 (q := 119) (a := ci.d) hTb rfl rfl rfl rfl rfl rfl rfl rfl rfl rfl rfl rfl (by omega) (by show _ * 32 ≤ _; omega) (by unfold maxLen; omega)) ?_; conv => whnf)
    | (refine DT.opk hTb rfl (o_app1 (q := 119) (a := ci.d) hTb rfl rfl rfl rfl rfl rfl rfl rfl rfl rfl rfl rfl (by omega) (by show _ * 32 ≤ _; omega) (by unfold maxLen; omega)) ?_; conv => whnf))
    exact ⟨i + 1, hlt, by omega, wk_to [(119, 105)] rfl rfl rfl ⟨rfl, congrArg (fun n => Slot.one (.own 105 0 n)) (by rw [htk]; simp), congrArg (fun x => Slot.one (.g (.int .i64 x))) (wrap64' (by unfold maxLen; omega)), trivial⟩ ⟨rfl, ⟨_, rfl, congrArg (fun r : List Val => Ob.arr 37 3 (r.map encVal)) htk.symm⟩, trivial⟩⟩
  · have hie : i = s.length := by simp at h2; omega
    subst hie
    rw [List.take_length]
    (conv => whnf)
    exact endW [105] rfl rfl rfl rfl rfl (LeS.of_eq (congrArg (fun n => Slot.one (.own 0 0 n)) (by simp))) rfl rfl
theorem c_l3Code (t : VTable) (row : VRow) (ht : t.dr) (hv : mdVals row.vals) (hl : row.vals.length = (tL t).length) : CallsV Tryz.prog 187 [.agg (encVTable t), .agg (encVRow row)] []
    (relQ (fun c : Int => (c = 0 ∨ c = 2 ∨ c = 3) ∧ (c = 0 → rowOk (tL t) row.vals = true)) iS (fun _ => []) (fun _ => [])) := by
  have hm := ht.md
  have cS := c_l3Last t hm
  have hLl := ht.lenL
  have cR := c_specRowOk (tL t) row.vals (lmax (by omega)) (tL_md hm).ok (mdv_ok' hv)
  have cT := fun N (h1 : N.length ≤ 3000000) (h2 : ∀ i, i < N.length → (N.getD i []).length = (tL t).length) => c_l3Twice (tL t) N (by omega) h1 h2
  have hrl := ht.rl
  have cN := fun i (h : i < t.rows.length) => (c_l3Now t t.rows[i] hm (ht.rw _ (List.getElem_mem h)).1 (by have := (hm.rm _ (List.getElem_mem h)).1; omega) (hm.rm _ (List.getElem_mem h)).2).pure (pureVals _)
  have hN := fun i (h : i < t.rows.length) => ht.now (List.getElem_mem h)
  generalize rowOk (tL t) row.vals = br at cR ⊢
  generalize tL t = L at cS cR cT hl hLl hN
  obtain ⟨f, hf⟩ : ∃ f, tNow t = f := ⟨_, rfl⟩
  rw [hf] at cN hN
  clear hf ht hm
  obtain ⟨rid, rver, rvals⟩ := row
  simp only at hv hl cR
  refine funF_walk hTb Tryz.func187 rfl rfl Tryz.ntmps187 (by simp) (by simp) ?_
  (conv => whnf); repeat' (first
    | (refine And.intro ?_ ?_ <;> ((try intro h) <;> (try simp only [Bool.not_true, Bool.not_false, decide_eq_true_eq, decide_eq_false_iff_not, Int.not_lt, Int.not_le, gt_iff_lt, ge_iff_le] at h) <;> first | exact absurd h Bool.false_ne_true | exact absurd h.symm Bool.false_ne_true | conv => whnf))
    | (refine VL.drawS hTb hMix (by kernel_rfl) (by kernel_rfl) (by kernel_rfl) ?_; conv => whnf)
    | (refine Need.mk ?_; kernel_rfl) | (refine Need.mk ⟨rfl, ?_⟩; decide)
    | (refine VR.pure hTb rfl rfl (o_purF (cS) rfl rfl rfl ⟨rfl, rfl, rfl, rfl⟩ rfl) ?_; conv => whnf)
    | (refine DT.pure hTb rfl (o_purF (cS) rfl rfl rfl ⟨rfl, rfl, rfl, rfl⟩ rfl) ?_; conv => whnf))
  refine VL.loopI hTb (α := Nat × List (List Val)) (fun x => x.1 ≤ t.rows.length ∧ x.2.length ≤ x.1 + 1 ∧ ∀ v ∈ x.2, v.length = L.length) (fun x => ⟨[(2, .one (.ptr 102 0)), (3, .one (.ptr 103 0)), (5, colsI L), (6, .one (.own 112 0 x.2.length)), (7, iS x.1)], [(102, .box (encVTable t)), (103, .box (encVRow ⟨rid, rver, rvals⟩)), (112, .arr 31 1 (x.2.map encN))], []⟩) (fun x => t.rows.length - x.1) (0, [rvals]) ⟨Nat.zero_le _, by simp, fun v hv => by (simp at hv; subst hv; exact hl)⟩
    (wk_to [(102, 102), (103, 103), (112, 112)] rfl rfl rfl ⟨rfl, rfl, rfl, rfl, rfl, trivial⟩ ⟨rfl, ⟨_, rfl, rfl⟩, rfl, ⟨_, rfl, rfl⟩, rfl, ⟨_, rfl, rfl⟩, trivial⟩) (fun x hx => ?_)
  obtain ⟨i, M⟩ := x
  obtain ⟨hi, hMl, hMv⟩ := hx
  simp only at hi hMl hMv
  (conv => whnf)
  refine And.intro (fun h2 => ?_) (fun h2 => ?_)
  · have hlt : i < t.rows.length := by simpa using h2
    have hrow := rowVRow hlt
    have hc := cN i hlt
    have hn := hN i hlt
    generalize f t.rows[i] = w at hc hn
    generalize t.rows[i] = ri at hrow hc
    (conv => whnf); repeat' (first
    | (refine And.intro ?_ ?_ <;> ((try intro h) <;> (try simp only [Bool.not_true, Bool.not_false, decide_eq_true_eq, decide_eq_false_iff_not, Int.not_lt, Int.not_le, gt_iff_lt, ge_iff_le] at h) <;> first | exact absurd h Bool.false_ne_true | exact absurd h.symm Bool.false_ne_true | conv => whnf))
    | (refine VL.drawS hTb hMix (by kernel_rfl) (by kernel_rfl) (by kernel_rfl) ?_; conv => whnf)
    | (refine Need.mk ?_; kernel_rfl) | (refine Need.mk ⟨rfl, ?_⟩; decide)
    | (refine VR.op hTb rfl rfl (o_index_imm hTb rfl rfl rfl rfl rfl rfl rfl (by omega) (hrow)) rfl ?_; conv => whnf)
    | (refine DT.op hTb rfl (o_index_imm hTb rfl rfl rfl rfl rfl rfl rfl (by omega) (hrow)) rfl ?_; conv => whnf)
    | (refine VR.pure hTb rfl rfl (o_purF (hc) rfl rfl rfl ⟨rfl, rfl, rfl, rfl⟩ rfl) ?_; conv => whnf)
    | (refine DT.pure hTb rfl (o_purF (hc) rfl rfl rfl ⟨rfl, rfl, rfl, rfl⟩ rfl) ?_; conv => whnf)
    | (refine VR.opk hTb rfl rfl (o_app1 (q := 138) (l := M) (a := w) hTb rfl rfl rfl rfl rfl rfl rfl rfl rfl rfl rfl rfl (by omega) (by show (M.length + 1) * 24 ≤ _; omega) (by unfold maxLen; omega)) ?_; conv => whnf)
    | (refine DT.opk hTb rfl (o_app1 (q := 138) (l := M) (a := w) hTb rfl rfl rfl rfl rfl rfl rfl rfl rfl rfl rfl rfl (by omega) (by show (M.length + 1) * 24 ≤ _; omega) (by unfold maxLen; omega)) ?_; conv => whnf))
    · exact ⟨(i + 1, M ++ [w]), ⟨hlt, by simp; omega, fun v hv => by (rcases List.mem_append.1 hv with hv | hv; exact hMv v hv; simp at hv; subst hv; exact hn)⟩, by show t.rows.length - (i + 1) < t.rows.length - i; omega, wk_to [(102, 102), (103, 103), (138, 112)] rfl rfl rfl ⟨rfl, rfl, rfl, congrArg (fun n => Slot.one (.own 112 0 n)) (by simp), congrArg (fun x => Slot.one (.g (.int .i64 x))) (wrap64' (by unfold maxLen; omega)), trivial⟩ ⟨rfl, ⟨_, rfl, rfl⟩, rfl, ⟨_, rfl, rfl⟩, rfl, ⟨_, rfl, rfl⟩, trivial⟩⟩
    · exact ⟨(i + 1, M), ⟨hlt, by simp only; omega, hMv⟩, by show t.rows.length - (i + 1) < t.rows.length - i; omega, wk_to [(102, 102), (103, 103), (112, 112)] rfl rfl rfl ⟨rfl, rfl, rfl, rfl, congrArg (fun x => Slot.one (.g (.int .i64 x))) (wrap64' (by unfold maxLen; omega)), trivial⟩ ⟨rfl, ⟨_, rfl, rfl⟩, rfl, ⟨_, rfl, rfl⟩, rfl, ⟨_, rfl, rfl⟩, trivial⟩⟩
  · have cT := cT M (by omega) (fun i hi => by
      have e : M.getD i [] = M[i] := by simp [hi]
      rw [e]; exact hMv _ (List.getElem_mem hi))
    generalize onceB L M = bo at cT
    cases br <;> cases bo <;> (conv => whnf); repeat' (first
    | (refine VL.freeze 112 rfl rfl ?_; conv => whnf; rw [fzN])
    | (refine And.intro ?_ ?_ <;> ((try intro h) <;> (try simp only [Bool.not_true, Bool.not_false, decide_eq_true_eq, decide_eq_false_iff_not, Int.not_lt, Int.not_le, gt_iff_lt, ge_iff_le] at h) <;> first | exact absurd h Bool.false_ne_true | exact absurd h.symm Bool.false_ne_true | conv => whnf))
    | (refine VL.drawS hTb hMix (by kernel_rfl) (by kernel_rfl) (by kernel_rfl) ?_; conv => whnf)
    | (refine Need.mk ?_; kernel_rfl) | (refine Need.mk ⟨rfl, ?_⟩; decide)
    | (refine VR.pure hTb rfl rfl (o_purN (cR) rfl rfl rfl ⟨rfl, rfl, rfl, rfl⟩ rfl) ?_; conv => whnf)
    | (refine DT.pure hTb rfl (o_purN (cR) rfl rfl rfl ⟨rfl, rfl, rfl, rfl⟩ rfl) ?_; conv => whnf)
    | (refine VR.freeze hTb rfl 112 rfl rfl ?_; conv => whnf; rw [fzN])
    | (refine VR.pure hTb rfl rfl (o_purN (cT) rfl rfl rfl ⟨rfl, rfl, rfl, rfl⟩ rfl) ?_; conv => whnf)
    | (refine DT.pure hTb rfl (o_purN (cT) rfl rfl rfl ⟨rfl, rfl, rfl, rfl⟩ rfl) ?_; conv => whnf))
    all_goals first
      | exact endR [] _ rfl rfl rfl rfl rfl (LeS.refl _) rfl rfl ⟨by simp, by simp⟩
      | trace_state
end Go.Vl

namespace Go.Vl
open Go Go.RowKit Go.Proofs
set_option maxRecDepth 100000
set_option linter.unusedSimpArgs false
set_option linter.unusedVariables false
set_option linter.unnecessarySimpa false
set_option maxHeartbeats 8000000

theorem fzRow (x : List VRow) : ((x.map encVRow).drop 0).take x.length = x.map encVRow := by rw [List.drop_zero, List.take_of_length_le (by simp)]
abbrev tdS (y : VTable × Int) : Slot := .tup [(true, tdL y.1 1), (false, [.g (.int .i64 y.2)])]
theorem grI (c : Int) : GrS (iS c) ∧ (∀ ob, some ob ∈ ([] : List (Option Ob)) → GrO ob) ∧ ∀ ob ∈ ([] : List Ob), GrO ob := ⟨rfl, fun _ h => by simp at h, fun _ h => by simp at h⟩
theorem mdD {l : List Col} (h : mdCols l) : mdVals (l.map Col.d) := fun v hv => by
  obtain ⟨c, hc, rfl⟩ := List.mem_map.1 hv
  exact (h c hc).2
theorem pureD (l : List Col) {E : TypeId} : vS true (Sr [] [.arr E 3 ((l.map Col.d).map encVal)]) [] (.one (.own 0 0 l.length)) = valsI (l.map Col.d) := by
  show Slot.one (.imm 3 ((((l.map Col.d).map encVal).drop 0).take l.length)) = _
  rw [List.drop_zero, List.take_of_length_le (by simp)]; rfl
theorem CallsV.drK {P : Program} {f : Nat} {xs : List Slot} {os : List Ob} {t : VTable} {A : VTable × Int → Slot} {B : VTable × Int → List (Option Ob)} {N : VTable × Int → List Ob} (h : CallsV P f xs os (relQ (fun y : VTable × Int => y.1.dr ∧ y.1.first = t.first ∧ y.1.changes = t.changes) A B N)) : CallsV P f xs os (relQ (fun y : VTable × Int => y.1.dr) A B N) :=
  h.mono fun _ _ _ ⟨y, hy, e⟩ => ⟨y, hy.1, e⟩
theorem c_l3ShapeO (t : VTable) (v : Int) (ht : t.md) (hv : 0 ≤ v ∧ v ≤ (t.changes.length : Int)) : CallsV Tryz.prog 120 [.agg (encVTable t), iS v] [] (funQ (.one (.own 0 0 (tSh t v.toNat).length)) [] [.arr 39 7 ((tSh t v.toNat).map encCol)]) := by
  have hfc := ht.fc
  obtain ⟨k, hk⟩ : ∃ k : Nat, v = k := ⟨v.toNat, by omega⟩
  subst hk
  have hk : k ≤ t.changes.length := by omega
  rw [Int.toNat_natCast]
  have c1 := c_specShapeAll t.first (t.changes.take k) (by simp; omega) ht.fm (ht.cm.take _)
  unfold tSh
  obtain ⟨first, changes, rows, next⟩ := t
  simp only at c1 hk ⊢
  generalize shAll first (changes.take k) = x at c1 ⊢
  obtain ⟨x, b⟩ := x
  refine funF_walk hTb Tryz.func120 rfl rfl Tryz.ntmps120 (by simp) (by simp) ?_
  (conv => whnf); repeat' (first
    | (refine And.intro ?_ ?_ <;> ((try intro h) <;> (try simp only [Bool.not_true, Bool.not_false, decide_eq_true_eq, decide_eq_false_iff_not, Int.not_lt, Int.not_le, gt_iff_lt, ge_iff_le] at h) <;> first | exact absurd h Bool.false_ne_true | exact absurd h.symm Bool.false_ne_true | conv => whnf))
    | (refine VL.drawS hTb hMix (by kernel_rfl) (by kernel_rfl) (by kernel_rfl) ?_; conv => whnf)
    | (refine Need.mk ?_; kernel_rfl) | (refine Need.mk ⟨rfl, ?_⟩; decide)
    | (refine DT.op hTb rfl (o_slice_imm (n1 := 0) (n2 := k) (rows' := (changes.take k).map encChange) hTb rfl rfl rfl rfl rfl rfl bnd_none (bnd_some rfl) (Nat.zero_le _) (by simp; omega) (by rw [List.drop_zero, Nat.sub_zero, List.map_take])) rfl ?_; conv => whnf)
    | (refine VR.fun hTb rfl rfl (o_funN (c1) false [] (fun h => by cases h) (by simp) rfl rfl rfl rfl rfl ⟨rfl, rfl, rfl, rfl⟩ rfl rfl) ?_; conv => whnf)
    | (refine DT.fun hTb rfl (o_funN (c1) false [] (fun h => by cases h) (by simp) rfl rfl rfl rfl rfl ⟨rfl, rfl, rfl, rfl⟩ rfl rfl) rfl ?_; conv => whnf))
  first
    | exact endW [1048] rfl rfl rfl rfl rfl (LeS.refl _) rfl rfl
    | exact endW [1052] rfl rfl rfl rfl rfl (LeS.refl _) rfl rfl
    | exact endW [1044] rfl rfl rfl rfl rfl (LeS.refl _) rfl rfl
    | exact endW [1056] rfl rfl rfl rfl rfl (LeS.refl _) rfl rfl
    | exact endW [1040] rfl rfl rfl rfl rfl (LeS.refl _) rfl rfl
    | trace_state
theorem c_l3LastO (t : VTable) (ht : t.md) : CallsV Tryz.prog 52 [.agg (encVTable t)] [] (funQ (.one (.own 0 0 (tL t).length)) [] [.arr 39 7 ((tL t).map encCol)]) := by
  have c1 := c_l3ShapeO t ((t.changes.map encChange).length : Nat) ht ⟨by omega, by simp⟩
  rw [Int.toNat_natCast, tSh_all (by simp)] at c1
  generalize tL t = L at c1 ⊢
  obtain ⟨first, changes, rows, next⟩ := t
  refine funF_walk hTb Tryz.func52 rfl rfl Tryz.ntmps52 (by simp) (by simp) ?_
  (conv => whnf); repeat' (first
    | (refine And.intro ?_ ?_ <;> ((try intro h) <;> (try simp only [Bool.not_true, Bool.not_false, decide_eq_true_eq, decide_eq_false_iff_not, Int.not_lt, Int.not_le, gt_iff_lt, ge_iff_le] at h) <;> first | exact absurd h Bool.false_ne_true | exact absurd h.symm Bool.false_ne_true | conv => whnf))
    | (refine VL.drawS hTb hMix (by kernel_rfl) (by kernel_rfl) (by kernel_rfl) ?_; conv => whnf)
    | (refine Need.mk ?_; kernel_rfl) | (refine Need.mk ⟨rfl, ?_⟩; decide)
    | (refine VR.fun hTb rfl rfl (o_funN (c1) false [] (fun h => by cases h) (by simp) rfl rfl rfl rfl rfl ⟨rfl, rfl, rfl, rfl⟩ rfl rfl) ?_; conv => whnf)
    | (refine DT.fun hTb rfl (o_funN (c1) false [] (fun h => by cases h) (by simp) rfl rfl rfl rfl rfl ⟨rfl, rfl, rfl, rfl⟩ rfl rfl) rfl ?_; conv => whnf))
  first
    | exact endW [1028] rfl rfl rfl rfl rfl (LeS.refl _) rfl rfl
    | exact endW [1032] rfl rfl rfl rfl rfl (LeS.refl _) rfl rfl
    | exact endW [1024] rfl rfl rfl rfl rfl (LeS.refl _) rfl rfl
    | exact endW [1036] rfl rfl rfl rfl rfl (LeS.refl _) rfl rfl
    | trace_state
theorem c_l3OffK (t : VTable) (ht : t.dr) (id : Int) : CallsV Tryz.prog 135 [.agg (tdL t 0), iS id] [tdO t] (relQ (fun y : VTable × Int => y.1.dr ∧ y.1.first = t.first ∧ y.1.changes = t.changes) tdS (fun _ => [none]) (fun y => [tdO y.1])) := by
  have hrl := ht.rl
  have cA := c_l3At t id (by unfold maxLen; omega)
  have hk := tAt_lt t id
  generalize tAt t id = z at cA hk
  refine funC_walk 0 hTb Tryz.func135 rfl rfl Tryz.ntmps135 (by simp) (by simp) (by simp) ?_
  by_cases hz : z < 0
  · (conv => whnf); repeat' (first
    | (exact absurd h (by omega))
    | (refine And.intro ?_ ?_ <;> ((try intro h) <;> (try simp only [Bool.not_true, Bool.not_false, decide_eq_true_eq, decide_eq_false_iff_not, Int.not_lt, Int.not_le, gt_iff_lt, ge_iff_le] at h) <;> first | exact absurd h Bool.false_ne_true | exact absurd h.symm Bool.false_ne_true | conv => whnf))
    | (refine VL.drawS hTb hMix (by kernel_rfl) (by kernel_rfl) (by kernel_rfl) ?_; conv => whnf)
    | (refine Need.mk ?_; kernel_rfl) | (refine Need.mk ⟨rfl, ?_⟩; decide)
    | (refine VR.pure hTb rfl rfl (o_purN cA rfl rfl rfl ⟨rfl, rfl, rfl, rfl⟩ ?_) ?_; exact congrArg (fun s => [s, _]) (brwTD t); conv => whnf))
    exact endCR [0] (t, 5) rfl rfl rfl rfl (LeS.refl _) rfl rfl ⟨ht, rfl, rfl⟩
  · obtain ⟨k, hk2⟩ : ∃ k : Nat, z = k := ⟨z.toNat, by omega⟩
    subst hk2
    have hkl : k < t.rows.length := by omega
    have e1 : (t.rows.take k).length = k := by simp; omega
    have e2 : (t.rows.drop (k + 1)).length = t.rows.length - (k + 1) := by simp
    have ew : IntKind.i64.wrap ((k : Int) + 1) = ((k + 1 : Nat) : Int) := by rw [IntKind.wrap_i64]; omega
    (conv => whnf); repeat' (first
    | (exact absurd h (by omega))
    | (refine VL.freeze 0 rfl rfl ?_; conv => whnf; rw [fzRow])
    | (refine And.intro ?_ ?_ <;> ((try intro h) <;> (try simp only [Bool.not_true, Bool.not_false, decide_eq_true_eq, decide_eq_false_iff_not, Int.not_lt, Int.not_le, gt_iff_lt, ge_iff_le] at h) <;> first | exact absurd h Bool.false_ne_true | exact absurd h.symm Bool.false_ne_true | conv => whnf))
    | (refine VL.drawS hTb hMix (by kernel_rfl) (by kernel_rfl) (by kernel_rfl) ?_; conv => whnf)
    | (refine Need.mk ?_; kernel_rfl) | (refine Need.mk ⟨rfl, ?_⟩; decide)
    | (refine VR.freeze hTb rfl 0 rfl rfl ?_; conv => whnf; rw [fzRow])
    | (refine VR.pure hTb rfl rfl (o_purN (cA) rfl rfl rfl ⟨rfl, rfl, rfl, rfl⟩ rfl) ?_; conv => whnf)
    | (refine DT.pure hTb rfl (o_purN (cA) rfl rfl rfl ⟨rfl, rfl, rfl, rfl⟩ rfl) ?_; conv => whnf)
    | (refine DT.op hTb rfl (o_slice_imm (n1 := 0) (n2 := k) (rows' := (t.rows.take k).map encVRow) hTb rfl rfl rfl rfl rfl rfl bnd_none (bnd_some rfl) (Nat.zero_le _) (by simp; omega) (by rw [List.drop_zero, Nat.sub_zero, List.map_take])) rfl ?_; conv => whnf)
    | (refine DT.op hTb rfl (o_slice_imm (n1 := k + 1) (n2 := (t.rows.map encVRow).length) (rows' := (t.rows.drop (k + 1)).map encVRow) hTb rfl rfl rfl rfl rfl rfl (bnd_wr rfl ew) bnd_none (by simp; omega) (by simp) (by rw [← List.map_drop]; exact List.take_of_length_le (by simp))) rfl ?_; conv => whnf)
    | (refine VR.opk hTb rfl rfl (o_app0 (f := encVRow) (m := (t.rows.take k)) (q := 118) hTb rfl rfl rfl rfl rfl rfl rfl rfl rfl rfl (by omega) (by show _ * 40 ≤ _; omega) (by unfold maxLen; omega)) ?_; conv => whnf)
    | (refine DT.opk hTb rfl (o_app0 (f := encVRow) (m := (t.rows.take k)) (q := 118) hTb rfl rfl rfl rfl rfl rfl rfl rfl rfl rfl (by omega) (by show _ * 40 ≤ _; omega) (by unfold maxLen; omega)) ?_; conv => whnf)
    | (refine DT.opk hTb rfl (o_appN (f := encVRow) (l := t.rows.take k) (m := t.rows.drop (k + 1)) (q := 124) hTb rfl rfl rfl rfl rfl rfl rfl rfl rfl rfl rfl (by omega) (by show _ * 40 ≤ _; omega) (by unfold maxLen; omega)) ?_; conv => whnf))
    have he : t.rows.take k ++ t.rows.drop (k + 1) = t.rows.eraseIdx k := by rw [List.eraseIdx_eq_take_drop_succ]
    exact endCR [124] ((⟨t.first, t.changes, t.rows.eraseIdx k, t.next⟩ : VTable), 0) rfl rfl rfl rfl (LeS.of_eq (congrArg (fun n => Slot.tup [(true, [.imm 7 (t.first.map encCol), .imm 10 (t.changes.map encChange), .own 1 0 n, .g (.int .i64 t.next)]), (false, [.g (.int .i64 0)])]) (by rw [← he, List.length_append]))) rfl (congrArg (fun r : List VRow => [Ob.arr 35 3 (r.map encVRow)]) he) ⟨dr_rows ht (fun r hr => List.mem_of_mem_eraseIdx hr) (by rw [List.length_eraseIdx]; split <;> omega), rfl, rfl⟩
theorem c_l3Off (t : VTable) (ht : t.dr) (id : Int) : CallsV Tryz.prog 135 [.agg (tdL t 0), iS id] [tdO t] (relQ (fun y : VTable × Int => y.1.dr) tdS (fun _ => [none]) (fun y => [tdO y.1])) := (c_l3OffK t ht id).drK
theorem c_l3PutK (t : VTable) (ht : t.dr) (sets : List VSet) (hS : smSets sets) : CallsV Tryz.prog 140 [.agg (tdL t 0), vsetsI sets] [tdO t] (relQ (fun y : VTable × Int => y.1.dr ∧ y.1.first = t.first ∧ y.1.changes = t.changes) tdS (fun _ => [none]) (fun y => [tdO y.1])) := by
  have hm := ht.md
  have hrl := ht.rl
  have hnx := ht.nx
  have hLl := ht.lenL
  have cL := c_l3LastO t hm
  have cD := (c_l3Defs (tL t) (by omega)).pure (pureD (tL t))
  have cF := c_l3Fill (tL t) ((tL t).map Col.d) sets (by simp) (by simp; omega) (mdD (tL_md hm)) hS
  have cC := fun vals h1 h2 => c_l3Code t ⟨t.next, ((t.changes.map encChange).length : Nat), vals⟩ ht h1 h2
  have hput := fun vals h1 h2 h3 h4 => dr_put ht (vals := vals) h1 h2 h3 h4
  have hml : ((tL t).map Col.d).length = (tL t).length := by simp
  have hcl : ((t.changes.map encChange).length : Int) = (t.changes.length : Int) := by simp
  have hw : 0 ≤ t.next → t.next ≤ 60 → IntKind.i64.wrap (t.next + 1) = t.next + 1 := fun h1 h2 => by rw [IntKind.wrap_i64]; omega
  replace hw := hw hnx.1 hnx.2
  generalize tL t = L at cL cD cF cC hput hml hLl
  refine funC_walk 0 hTb Tryz.func140 rfl rfl Tryz.ntmps140 (by simp) (by simp) (by simp) ?_
  (conv => whnf); repeat' (first
    | (refine VL.freeze 1048 rfl rfl ?_; conv => whnf; rw [fzC])
    | (refine VL.freeze 1072 rfl rfl ?_; conv => whnf; rw [fzV])
    | (refine And.intro ?_ ?_ <;> ((try intro h) <;> (try simp only [Bool.not_true, Bool.not_false, decide_eq_true_eq, decide_eq_false_iff_not, Int.not_lt, Int.not_le, gt_iff_lt, ge_iff_le] at h) <;> first | exact absurd h Bool.false_ne_true | exact absurd h.symm Bool.false_ne_true | conv => whnf))
    | (refine VL.drawS hTb hMix (by kernel_rfl) (by kernel_rfl) (by kernel_rfl) ?_; conv => whnf)
    | (refine Need.mk ?_; kernel_rfl) | (refine Need.mk ⟨rfl, ?_⟩; decide)
    | (refine VR.freeze hTb rfl 1048 rfl rfl ?_; conv => whnf; rw [fzC])
    | (refine VR.freeze hTb rfl 1072 rfl rfl ?_; conv => whnf; rw [fzV])
    | (refine VR.fun hTb rfl rfl (o_funN (cL) true [] (fun _ => grNewCol _ _) (by simp) rfl rfl rfl rfl rfl ⟨rfl, rfl, rfl, rfl⟩ ?_ rfl) ?_; exact congrArg (fun s => [s]) (brwTD t); conv => whnf)
    | (refine DT.fun hTb rfl (o_funN (cL) true [] (fun _ => grNewCol _ _) (by simp) rfl rfl rfl rfl rfl ⟨rfl, rfl, rfl, rfl⟩ ?_ rfl) rfl ?_; exact congrArg (fun s => [s]) (brwTD t); conv => whnf)
    | (refine VR.pure hTb rfl rfl (o_purF (cD) rfl rfl rfl ⟨rfl, rfl, rfl, rfl⟩ rfl) ?_; conv => whnf)
    | (refine DT.pure hTb rfl (o_purF (cD) rfl rfl rfl ⟨rfl, rfl, rfl, rfl⟩ rfl) ?_; conv => whnf)
    | (refine VR.rel hTb rfl rfl (o_relN (cF) false [] (fun _ _ => ⟨by simp, fun h => by cases h⟩) rfl rfl rfl rfl rfl ⟨rfl, rfl, rfl, rfl⟩ rfl rfl) ?_; rintro ⟨vals, ok⟩ hv; (try simp only at hv); conv => whnf)
    | (refine DT.rel hTb rfl (o_relN (cF) false [] (fun _ _ => ⟨by simp, fun h => by cases h⟩) rfl rfl rfl rfl rfl ⟨rfl, rfl, rfl, rfl⟩ rfl rfl) [] (by kernel_rfl) (by kernel_rfl) ?_; rintro ⟨vals, ok⟩ hv; (try simp only at hv); refine And.intro rfl (And.intro rfl ?_); conv => whnf)
    | (refine VR.rel hTb rfl rfl (o_relN (cC vals hv.2 (hv.1.trans hml)) true [] (fun _ _ => ⟨by simp, fun _ => grI _⟩) rfl rfl rfl rfl rfl ⟨rfl, rfl, rfl, rfl⟩ ?_ rfl) ?_; exact congrArg (fun s => [s, _]) (brwTD t); rintro cd hcd; (try simp only at hcd); conv => whnf)
    | (refine VR.opk hTb rfl rfl (o_app1 (q := 155) (a := ⟨t.next, ((t.changes.map encChange).length : Int), vals⟩) hTb rfl rfl rfl rfl rfl rfl rfl rfl rfl rfl rfl rfl (by omega) (by show _ * 40 ≤ _; omega) (by unfold maxLen; omega)) ?_; conv => whnf)
    | (refine DT.opk hTb rfl (o_app1 (q := 155) (a := ⟨t.next, ((t.changes.map encChange).length : Int), vals⟩) hTb rfl rfl rfl rfl rfl rfl rfl rfl rfl rfl rfl rfl (by omega) (by show _ * 40 ≤ _; omega) (by unfold maxLen; omega)) ?_; conv => whnf))
  all_goals first
    | exact endCR [0] (t, _) rfl rfl rfl rfl (LeS.refl _) rfl rfl ⟨ht, rfl, rfl⟩
    | (exfalso; simp_all; done)
    | skip
  have hc : cd = 0 := by simpa using h
  refine endCR [155] ((⟨t.first, t.changes, t.rows ++ [⟨t.next, (t.changes.length : Int), vals⟩], t.next + 1⟩ : VTable), cd) rfl rfl rfl rfl (LeS.of_eq ?_) rfl ?_ ⟨hput vals hv.2 (hcd.2 hc) (by omega) (by omega), rfl, rfl⟩
  · show Slot.tup [(true, [.imm 7 (t.first.map encCol), .imm 10 (t.changes.map encChange), .own 1 0 (t.rows.length + 1), .g (.int .i64 (IntKind.i64.wrap (t.next + 1)))]), (false, [.g (.int .i64 cd)])] = _
    rw [hw]
    simp
  · exact (congrArg (fun v : Int => [Ob.arr 35 3 ((t.rows ++ [(⟨t.next, v, vals⟩ : VRow)]).map encVRow)]) hcl)
theorem c_l3Put (t : VTable) (ht : t.dr) (sets : List VSet) (hS : smSets sets) : CallsV Tryz.prog 140 [.agg (tdL t 0), vsetsI sets] [tdO t] (relQ (fun y : VTable × Int => y.1.dr) tdS (fun _ => [none]) (fun y => [tdO y.1])) := (c_l3PutK t ht sets hS).drK
end Go.Vl

namespace Go.Vl
open Go Go.RowKit Go.Proofs
set_option maxRecDepth 100000
set_option linter.unusedSimpArgs false
set_option linter.unusedVariables false
set_option linter.unnecessarySimpa false
set_option maxHeartbeats 8000000

theorem eq3 {a b c a' b' : Slot} (h1 : a = a') (h2 : b = b') : [a, b, c] = [a', b', c] := by subst h1 h2; rfl
theorem c_l3SetK (t : VTable) (ht : t.dr) (id : Int) (sets : List VSet) (hS : smSets sets) : CallsV Tryz.prog 136 [.agg (tdL t 0), iS id, vsetsI sets] [tdO t] (relQ (fun y : VTable × Int => y.1.dr ∧ y.1.first = t.first ∧ y.1.changes = t.changes) tdS (fun _ => [none]) (fun y => [tdO y.1])) := by
  have hm := ht.md
  have hrl := ht.rl
  have hLl := ht.lenL
  have cA := c_l3At t id (by unfold maxLen; omega)
  have hk := tAt_lt t id
  generalize tAt t id = z at cA hk
  by_cases hz : z < 0
  · refine funC_walk 0 hTb Tryz.func136 rfl rfl Tryz.ntmps136 (by simp) (by simp) (by simp) ?_
    (conv => whnf); repeat' (first
    | (exact absurd h (by omega))
    | (refine And.intro ?_ ?_ <;> ((try intro h) <;> (try simp only [Bool.not_true, Bool.not_false, decide_eq_true_eq, decide_eq_false_iff_not, Int.not_lt, Int.not_le, gt_iff_lt, ge_iff_le] at h) <;> first | exact absurd h Bool.false_ne_true | exact absurd h.symm Bool.false_ne_true | conv => whnf))
    | (refine VL.drawS hTb hMix (by kernel_rfl) (by kernel_rfl) (by kernel_rfl) ?_; conv => whnf)
    | (refine Need.mk ?_; kernel_rfl) | (refine Need.mk ⟨rfl, ?_⟩; decide)
    | (refine VR.pure hTb rfl rfl (o_purN cA rfl rfl rfl ⟨rfl, rfl, rfl, rfl⟩ ?_) ?_; exact congrArg (fun s => [s, _]) (brwTD t); conv => whnf))
    exact endCR [0] (t, 5) rfl rfl rfl rfl (LeS.refl _) rfl rfl ⟨ht, rfl, rfl⟩
  · have hzl : z.toNat < t.rows.length := by omega
    have hmem := List.getElem_mem hzl
    have hrow : t.rows[0 + z.toNat]? = some t.rows[z.toNat] := by rw [Nat.zero_add]; exact List.getElem?_eq_getElem _
    have cL := c_l3LastO t hm
    have cN := c_l3Now t t.rows[z.toNat] hm (ht.rw _ hmem).1 (by have := (hm.rm _ hmem).1; omega) (hm.rm _ hmem).2
    have hN := ht.now hmem
    have hNm := tNow_md (r := t.rows[z.toNat]) hm (hm.rm _ hmem).2
    have cF := c_l3Fill (tL t) (tNow t t.rows[z.toNat]) sets (by omega) (by omega) hNm hS
    generalize tNow t t.rows[z.toNat] = w at cN hN cF
    generalize t.rows[z.toNat] = r0 at hrow cN
    have cC := fun vals h1 h2 => c_l3Code t ⟨id, ((t.changes.map encChange).length : Nat), vals⟩ ht h1 h2
    have hset := fun vals h1 h2 => dr_set ht (vals := vals) h1 h2 (0 + z.toNat) id
    have hcl : ((t.changes.map encChange).length : Int) = (t.changes.length : Int) := by simp
    generalize tL t = L at cL cF cC hset hN hLl
    refine funC_walk 0 hTb Tryz.func136 rfl rfl Tryz.ntmps136 (by simp) (by simp) (by simp) ?_
    (conv => whnf); repeat' (first
    | (exact absurd h (by omega))
    | (refine VL.freeze 1120 rfl rfl ?_; conv => whnf; rw [fzV])
    | (refine And.intro ?_ ?_ <;> ((try intro h) <;> (try simp only [Bool.not_true, Bool.not_false, decide_eq_true_eq, decide_eq_false_iff_not, Int.not_lt, Int.not_le, gt_iff_lt, ge_iff_le] at h) <;> first | exact absurd h Bool.false_ne_true | exact absurd h.symm Bool.false_ne_true | conv => whnf))
    | (refine VL.drawS hTb hMix (by kernel_rfl) (by kernel_rfl) (by kernel_rfl) ?_; conv => whnf)
    | (refine Need.mk ?_; kernel_rfl) | (refine Need.mk ⟨rfl, ?_⟩; decide)
    | (refine VR.pure hTb rfl rfl (o_purN cA rfl rfl rfl ⟨rfl, rfl, rfl, rfl⟩ ?_) ?_; exact congrArg (fun s => [s, _]) (brwTD t); conv => whnf)
    | (refine VR.freeze hTb rfl 1120 rfl rfl ?_; conv => whnf; rw [fzV])
    | (refine VR.fun hTb rfl rfl (o_funN (cL) true [] (fun _ => grNewCol _ _) (by simp) rfl rfl rfl rfl rfl ⟨rfl, rfl, rfl, rfl⟩ ?_ rfl) ?_; exact congrArg (fun s => [s]) (brwTD t); conv => whnf)
    | (refine DT.fun hTb rfl (o_funN (cL) true [] (fun _ => grNewCol _ _) (by simp) rfl rfl rfl rfl rfl ⟨rfl, rfl, rfl, rfl⟩ ?_ rfl) rfl ?_; exact congrArg (fun s => [s]) (brwTD t); conv => whnf)
    | (refine VR.fun hTb rfl rfl (o_funN (cN) true [] (fun _ => grNewVal _ _) (by simp) rfl rfl rfl rfl rfl ⟨rfl, rfl, rfl, rfl⟩ ?_ rfl) ?_; exact congrArg (fun s => [s, _]) (brwTD t); conv => whnf)
    | (refine DT.fun hTb rfl (o_funN (cN) true [] (fun _ => grNewVal _ _) (by simp) rfl rfl rfl rfl rfl ⟨rfl, rfl, rfl, rfl⟩ ?_ rfl) rfl ?_; exact congrArg (fun s => [s, _]) (brwTD t); conv => whnf)
    | (refine VR.op hTb rfl rfl (o_loadM hTb rfl rfl rfl rfl (hrow) ⟨by decide, by decide⟩) rfl ?_; conv => whnf)
    | (refine DT.op hTb rfl (o_loadM hTb rfl rfl rfl rfl (hrow) ⟨by decide, by decide⟩) rfl ?_; conv => whnf)
    | (refine DT.rel hTb rfl (o_relN cF true [] (fun y _ => ⟨by simp, fun _ => grRvS y⟩) rfl rfl rfl rfl rfl ⟨rfl, rfl, rfl, rfl⟩ ?_ rfl) [1120] (by kernel_rfl) (by kernel_rfl) ?_; exact eq3 brw brw; rintro ⟨vals, ok⟩ hv; (try simp only at hv); refine And.intro rfl (And.intro rfl ?_); conv => whnf)
    | (refine VR.rel hTb rfl rfl (o_relN (cC vals hv.2 (hv.1.trans hN)) true [] (fun _ _ => ⟨by simp, fun _ => grI _⟩) rfl rfl rfl rfl rfl ⟨rfl, rfl, rfl, rfl⟩ ?_ rfl) ?_; exact congrArg (fun s => [s, _]) (brwTD t); rintro cd hcd; (try simp only at hcd); conv => whnf)
    | (refine Need.mk ?_; exact ⟨rfl, by omega, by omega⟩)
    | (refine VR.op hTb rfl rfl (o_storeM hTb rfl rfl rfl rfl rfl (hrow) rfl rfl rfl ⟨rfl, by decide⟩ (c' := ⟨id, ((t.changes.map encChange).length : Int), vals⟩) rfl) rfl ?_; conv => whnf)
    | (refine DT.op hTb rfl (o_storeM hTb rfl rfl rfl rfl rfl (hrow) rfl rfl rfl ⟨rfl, by decide⟩ (c' := ⟨id, ((t.changes.map encChange).length : Int), vals⟩) rfl) rfl ?_; conv => whnf))
    all_goals first
      | exact endCR [0] (t, _) rfl rfl rfl rfl (LeS.refl _) rfl rfl ⟨ht, rfl, rfl⟩
      | (exfalso; simp_all; done)
      | (have hc : cd = 0 := (by simpa using h)
         exact endCR [0] ((⟨t.first, t.changes, t.rows.set (0 + z.toNat) ⟨id, (t.changes.length : Int), vals⟩, t.next⟩ : VTable), cd) rfl rfl rfl rfl (LeS.of_eq (congrArg (fun n => Slot.tup [(true, [.imm 7 (t.first.map encCol), .imm 10 (t.changes.map encChange), .own 1 0 n, .g (.int .i64 t.next)]), (false, [.g (.int .i64 cd)])]) (by simp))) rfl (congrArg (fun v : Int => [Ob.arr 35 3 ((t.rows.set (0 + z.toNat) (⟨id, v, vals⟩ : VRow)).map encVRow)]) hcl) ⟨hset vals hv.2 (hcd.2 hc), rfl, rfl⟩)
      | trace_state
theorem c_l3Set (t : VTable) (ht : t.dr) (id : Int) (sets : List VSet) (hS : smSets sets) : CallsV Tryz.prog 136 [.agg (tdL t 0), iS id, vsetsI sets] [tdO t] (relQ (fun y : VTable × Int => y.1.dr) tdS (fun _ => [none]) (fun y => [tdO y.1])) := (c_l3SetK t ht id sets hS).drK
theorem c_l3CopyD (t : VTable) (ht : t.md) : CallsV Tryz.prog 69 [.agg (tdL t 0)] [tdO t] (funQ (.agg [.own 1 0 t.first.length, .own 2 0 t.changes.length, .own 3 0 t.rows.length, .g (.int .i64 t.next)]) [some (tdO t)] [.arr 39 7 (t.first.map encCol), .arr 105 10 (t.changes.map encChange), .arr 35 3 (t.rows.map encVRow)]) := by
  have hfc := ht.fc
  have hrl := ht.r
  have hrm := ht.rm
  refine funF_walk hTb Tryz.func69 rfl rfl Tryz.ntmps69 (by simp) (by simp) ?_
  have a1 : t.first.length ≤ 2000000 := by omega
  have a2 : t.changes.length ≤ 2000000 := by omega
  (conv => whnf); repeat' (first
    | (refine And.intro ?_ ?_ <;> ((try intro h) <;> (try simp only [Bool.not_true, Bool.not_false, decide_eq_true_eq, decide_eq_false_iff_not, Int.not_lt, Int.not_le, gt_iff_lt, ge_iff_le] at h) <;> first | exact absurd h Bool.false_ne_true | exact absurd h.symm Bool.false_ne_true | conv => whnf))
    | (refine VL.drawS hTb hMix (by kernel_rfl) (by kernel_rfl) (by kernel_rfl) ?_; conv => whnf)
    | (refine Need.mk ?_; kernel_rfl) | (refine Need.mk ⟨rfl, ?_⟩; decide)
    | (refine Need.mk ?_; rfl))
  refine DT.opk hTb rfl (o_app0 (f := encCol) (m := t.first) (q := 108) hTb rfl rfl rfl rfl rfl rfl rfl rfl rfl rfl (by omega) (by show _ * 64 ≤ _; omega) (by unfold maxLen; omega)) ?_
  conv => whnf
  refine DT.opk hTb rfl (o_app0 (f := encChange) (m := t.changes) (q := 112) hTb rfl rfl rfl rfl rfl rfl rfl rfl rfl rfl (by omega) (by show _ * 104 ≤ _; omega) (by unfold maxLen; omega)) ?_
  (conv => whnf); repeat' (first | (refine And.intro ?_ ?_ <;> ((try intro h) <;> (try simp only [Bool.not_true, Bool.not_false] at h) <;> first | exact absurd h Bool.false_ne_true | exact absurd h.symm Bool.false_ne_true | conv => whnf)) | (refine Need.mk ?_; kernel_rfl) | (refine Need.mk ⟨rfl, ?_⟩; decide))
  refine VL.loopI hTb (fun i => i ≤ t.rows.length) (fun i => ⟨[(1, .one (.ptr 101 0)), (2, .one (.ptr 102 0)), (3, .one (.ptr 103 0)), (4, iS i)], [(0, tdO t), (101, .box (tdL t 0)), (102, .box [.g (.slice none 0 0), .g (.slice none 0 0), .g (.slice none 0 0), .g (.int .i64 0)]), (103, .box [.own 108 0 t.first.length, .own 112 0 t.changes.length, .own 120 0 (t.rows.take i).length, .g (.int .i64 t.next)]), (108, .arr 39 7 (t.first.map encCol)), (112, .arr 105 10 (t.changes.map encChange)), (120, .arr 35 3 ((t.rows.take i).map encVRow))], []⟩) (fun i => t.rows.length - i) 0 (Nat.zero_le _)
    ((wk_nilBox _ (q0 := 103) (j := 2) (q := 120) (sz := 3) (E := 35) rfl rfl rfl (by decide)).trans (wk_to [(0, 0), (101, 101), (102, 102), (103, 103), (108, 108), (112, 112), (120, 120)] rfl rfl rfl ⟨rfl, rfl, rfl, rfl, trivial⟩ ⟨rfl, ⟨_, rfl, rfl⟩, rfl, ⟨_, rfl, rfl⟩, rfl, ⟨_, rfl, rfl⟩, rfl, ⟨_, rfl, rfl⟩, rfl, ⟨_, rfl, rfl⟩, rfl, ⟨_, rfl, rfl⟩, rfl, ⟨_, rfl, rfl⟩, trivial⟩)) (fun i hi => ?_)
  (conv => whnf)
  refine And.intro (fun h2 => ?_) (fun h2 => ?_)
  · have hil : i < t.rows.length := by simpa using h2
    have hrw : t.rows[0 + ((i : Nat) : Int).toNat]? = some t.rows[i] := by rw [Nat.zero_add, Int.toNat_natCast]; exact List.getElem?_eq_getElem _
    have hvl := (hrm _ (List.getElem_mem hil)).1
    have htk := List.take_succ_eq_append_getElem hil
    have hml : (t.rows.take i).length ≤ 1048576 := by simp; omega
    generalize t.rows.take i = M at htk hml ⊢
    generalize t.rows[i] = ri at hrw hvl htk
    (conv => whnf); repeat' (first
    | (refine And.intro ?_ ?_ <;> ((try intro h) <;> (try simp only [Bool.not_true, Bool.not_false, decide_eq_true_eq, decide_eq_false_iff_not, Int.not_lt, Int.not_le, gt_iff_lt, ge_iff_le] at h) <;> first | exact absurd h Bool.false_ne_true | exact absurd h.symm Bool.false_ne_true | conv => whnf))
    | (refine VL.drawS hTb hMix (by kernel_rfl) (by kernel_rfl) (by kernel_rfl) ?_; conv => whnf)
    | (refine Need.mk ?_; kernel_rfl) | (refine Need.mk ⟨rfl, ?_⟩; decide)
    | (refine VR.op hTb rfl rfl (o_loadM hTb rfl rfl rfl rfl (hrw) ⟨by decide, by decide⟩) rfl ?_; conv => whnf)
    | (refine DT.op hTb rfl (o_loadM hTb rfl rfl rfl rfl (hrw) ⟨by decide, by decide⟩) rfl ?_; conv => whnf)
    | (refine Need.mk ?_; exact ⟨rfl, by omega, by omega⟩))
    refine DT.opk hTb rfl (o_appF (q := 144) hTb rfl rfl rfl rfl rfl rfl rfl rfl rfl rfl (by decide) (by show _ * 32 ≤ _; simp; omega) (by unfold maxLen; simp; omega)) ?_
    conv => whnf
    refine DT.opk hTb rfl (o_app1 (q := 147) (a := ri) hTb rfl rfl rfl rfl rfl rfl rfl rfl rfl rfl rfl rfl (by omega) (by show _ * 40 ≤ _; omega) (by unfold maxLen; omega)) ?_
    (conv => whnf); repeat' (first | (refine And.intro ?_ ?_ <;> ((try intro h) <;> (try simp only [Bool.not_true, Bool.not_false] at h) <;> first | exact absurd h Bool.false_ne_true | exact absurd h.symm Bool.false_ne_true | conv => whnf)) | (refine Need.mk ?_; kernel_rfl) | (refine Need.mk ⟨rfl, ?_⟩; decide))
    exact ⟨i + 1, hil, by omega, wk_to [(0, 0), (101, 101), (102, 102), (103, 103), (108, 108), (112, 112), (147, 120)] rfl rfl rfl ⟨rfl, rfl, rfl, congrArg (fun x => Slot.one (.g (.int .i64 x))) (wrap64' (by unfold maxLen; omega)), trivial⟩ ⟨rfl, ⟨_, rfl, rfl⟩, rfl, ⟨_, rfl, rfl⟩, rfl, ⟨_, rfl, rfl⟩, rfl, ⟨_, rfl, congrArg (fun n => Ob.box [.own 108 0 t.first.length, .own 112 0 t.changes.length, .own 120 0 n, .g (.int .i64 t.next)]) (by rw [htk]; simp)⟩, rfl, ⟨_, rfl, rfl⟩, rfl, ⟨_, rfl, rfl⟩, rfl, ⟨_, rfl, congrArg (fun r : List VRow => Ob.arr 35 3 (r.map encVRow)) htk.symm⟩, trivial⟩⟩
  · have hie : i = t.rows.length := by simp at h2; omega
    subst hie
    rw [List.take_length]
    (conv => whnf)
    exact endW [108, 112, 120] rfl rfl rfl rfl rfl (LeS.refl _) rfl rfl
theorem fzH1 (l : List Change) (c : Change) : (((l ++ [c]).map encChange).drop 0).take (l.length + 1) = (l ++ [c]).map encChange := by rw [List.drop_zero, List.take_of_length_le (by simp)]
theorem c_l3ChangeK (t : VTable) (ht : t.dr) (c : Change) (hc : c.sml) : CallsV Tryz.prog 138 [.agg (tdL t 0), .agg (encChange c)] [tdO t] (relQ (fun y : VTable × Int => y.1.dr ∧ (y.2 = 0 → y.1 = ⟨t.first, t.changes ++ [c], t.rows, t.next⟩ ∧ (sdo (tL t) c).2 = true)) tdS (fun _ => [none]) (fun y => [tdO y.1])) := by
  have hm := ht.md
  have hrl := ht.rl
  have hLl := ht.lenL
  have hcl8 := ht.cl
  have cL := c_l3LastO t hm
  have cK := c_l3CopyD t hm
  have cS := c_specShapeDo (tL t) c (by omega) (tL_md hm) hc.md
  have hchg := fun h1 h2 => dr_chg ht hc h1 h2
  generalize sdo (tL t) c = sd at cS hchg ⊢
  obtain ⟨sl, sb⟩ := sd
  simp only at hchg
  have hm2 : VTable.md ⟨t.first, t.changes ++ [c], t.rows, t.next⟩ := ⟨by have := ht.fl; simp; omega, hm.fm, (ht.cs.app hc).md, hm.r, hm.rm⟩
  have cL2 := c_l3LastO ⟨t.first, t.changes ++ [c], t.rows, t.next⟩ hm2
  have hL2 := tL_len ⟨t.first, t.changes ++ [c], t.rows, t.next⟩
  have hok2 := (tL_md hm2).ok
  have hrw2 := fun i (h : i < t.rows.length) => (ht.rw _ (List.getElem_mem h)).1
  have cN := fun i (h : i < t.rows.length) => c_l3Now ⟨t.first, t.changes ++ [c], t.rows, t.next⟩ t.rows[i] hm2 ⟨(hrw2 i h).1, by have := (hrw2 i h).2; simp only [List.length_append, List.length_cons, List.length_nil]; omega⟩ (by have := (hm.rm _ (List.getElem_mem h)).1; omega) (hm.rm _ (List.getElem_mem h)).2
  have hNm := fun i (h : i < t.rows.length) => tNow_md (r := t.rows[i]) hm2 (hm.rm _ (List.getElem_mem h)).2
  have hL2l : (tL ⟨t.first, t.changes ++ [c], t.rows, t.next⟩).length ≤ 20 := by have := ht.fl; simp at hL2; omega
  have cR := fun vs (hv : mdVals vs) => c_specRowOk (tL ⟨t.first, t.changes ++ [c], t.rows, t.next⟩) vs (lmax (by omega)) hok2 (mdv_ok' hv)
  generalize tL ⟨t.first, t.changes ++ [c], t.rows, t.next⟩ = L2 at cL2 cR
  obtain ⟨f, hf⟩ : ∃ f, tNow ⟨t.first, t.changes ++ [c], t.rows, t.next⟩ = f := ⟨_, rfl⟩
  rw [hf] at cN hNm
  clear hf hok2 hm2 hL2
  generalize tL t = L at cL cS hLl
  refine funC_walk 0 hTb Tryz.func138 rfl rfl Tryz.ntmps138 (by simp) (by simp) (by simp) ?_
  obtain ⟨t2, ht2⟩ : ∃ t2 : VTable, t2 = ⟨t.first, t.changes ++ [c], t.rows, t.next⟩ := ⟨_, rfl⟩
  rw [← ht2] at cL2 cN hchg
  have hb2 : Slot.agg [.imm 7 (t.first.map encCol), .imm 10 ((t.changes ++ [c]).map encChange), .imm 3 (((t.rows.map encVRow).drop 0).take t.rows.length), .g (.int .i64 t.next)] = .agg (encVTable t2) := by
    rw [ht2]; exact brwTD ⟨t.first, t.changes ++ [c], t.rows, t.next⟩
  (conv => whnf); repeat' (first
    | (refine VL.freeze 1088 rfl rfl ?_; conv => whnf; rw [fzC])
    | (refine VL.freeze 127 rfl rfl ?_; conv => whnf; rw [fzH1])
    | (refine VL.freeze 1120 rfl rfl ?_; conv => whnf; rw [fzC])
    | (refine And.intro ?_ ?_ <;> ((try intro h) <;> (try simp only [Bool.not_true, Bool.not_false, decide_eq_true_eq, decide_eq_false_iff_not, Int.not_lt, Int.not_le, gt_iff_lt, ge_iff_le] at h) <;> first | exact absurd h Bool.false_ne_true | exact absurd h.symm Bool.false_ne_true | conv => whnf))
    | (refine VL.drawS hTb hMix (by kernel_rfl) (by kernel_rfl) (by kernel_rfl) ?_; conv => whnf)
    | (refine Need.mk ?_; kernel_rfl) | (refine Need.mk ⟨rfl, ?_⟩; decide)
    | (refine VR.fun hTb rfl rfl (o_funN (cL) true [] (fun _ => grNewCol _ _) (by simp) rfl rfl rfl rfl rfl ⟨rfl, rfl, rfl, rfl⟩ ?_ rfl) ?_; exact congrArg (fun s => [s]) (brwTD t); conv => whnf)
    | (refine DT.fun hTb rfl (o_funN (cL) true [] (fun _ => grNewCol _ _) (by simp) rfl rfl rfl rfl rfl ⟨rfl, rfl, rfl, rfl⟩ ?_ rfl) rfl ?_; exact congrArg (fun s => [s]) (brwTD t); conv => whnf)
    | (refine VR.fun hTb rfl rfl (o_funN (cS) true [] (fun _ => grShS _) (by simp) rfl rfl rfl rfl rfl ⟨rfl, rfl, rfl, rfl⟩ ?_ rfl) ?_; exact congrArg (fun s => [s, _]) brw; conv => whnf)
    | (refine DT.fun hTb rfl (o_funN (cS) true [] (fun _ => grShS _) (by simp) rfl rfl rfl rfl rfl ⟨rfl, rfl, rfl, rfl⟩ ?_ rfl) rfl ?_; exact congrArg (fun s => [s, _]) brw; conv => whnf)
    | (refine VR.fun hTb rfl rfl (o_funN (cK) false [0] (fun h => by cases h) (by simp) rfl rfl rfl rfl rfl ⟨rfl, rfl, rfl, rfl⟩ rfl rfl) ?_; conv => whnf)
    | (refine DT.fun hTb rfl (o_funN (cK) false [0] (fun h => by cases h) (by simp) rfl rfl rfl rfl rfl ⟨rfl, rfl, rfl, rfl⟩ rfl rfl) rfl ?_; conv => whnf)
    | (refine VR.opk hTb rfl rfl (o_app1 (q := 127) (a := c) hTb rfl rfl rfl rfl rfl rfl rfl rfl rfl rfl rfl rfl (by omega) (by show _ * 104 ≤ _; omega) (by unfold maxLen; omega)) ?_; conv => whnf)
    | (refine DT.opk hTb rfl (o_app1 (q := 127) (a := c) hTb rfl rfl rfl rfl rfl rfl rfl rfl rfl rfl rfl rfl (by omega) (by show _ * 104 ≤ _; omega) (by unfold maxLen; omega)) ?_; conv => whnf)
    | (refine VR.freeze hTb rfl 1088 rfl rfl ?_; conv => whnf; rw [fzC])
    | (refine VR.freeze hTb rfl 127 rfl rfl ?_; conv => whnf; rw [fzH1])
    | (refine VR.fun hTb rfl rfl (o_funN (cL2) true [] (fun _ => grNewCol _ _) (by simp) rfl rfl rfl rfl rfl ⟨rfl, rfl, rfl, rfl⟩ ?_ rfl) ?_; exact congrArg (fun s => [s]) hb2; conv => whnf)
    | (refine DT.fun hTb rfl (o_funN (cL2) true [] (fun _ => grNewCol _ _) (by simp) rfl rfl rfl rfl rfl ⟨rfl, rfl, rfl, rfl⟩ ?_ rfl) rfl ?_; exact congrArg (fun s => [s]) hb2; conv => whnf)
    | (refine VR.freeze hTb rfl 1120 rfl rfl ?_; conv => whnf; rw [fzC]))
  · exact endCR [0] (t, 1) rfl rfl rfl rfl (LeS.refl _) rfl rfl ⟨ht, fun (h0 : (1 : Int) = 0) => absurd h0 (by decide)⟩
  have hsb : sb = true := by simpa using h
  refine VL.loopI hTb (fun i => i ≤ t.rows.length) (fun i => ⟨[(2, .one (.ptr 102 0)), (4, .one (.ptr 104 0)), (8, .one (.ptr 108 0)), (9, colsI L2), (10, iS i)], [(0, tdO t), (102, .box (tdL t 0)), (104, .box [.g (.slice none 0 0), .g (.slice none 0 0), .g (.slice none 0 0), .g (.int .i64 0)]), (108, .box [.imm 7 (t.first.map encCol), .imm 10 ((t.changes ++ [c]).map encChange), .own 1090 0 t.rows.length, .g (.int .i64 t.next)]), (1090, tdO t)], []⟩) (fun i => t.rows.length - i) 0 (Nat.zero_le _)
    (wk_to [(0, 0), (102, 102), (104, 104), (108, 108), (1090, 1090)] rfl rfl rfl ⟨rfl, rfl, rfl, rfl, rfl, trivial⟩ ⟨rfl, ⟨_, rfl, rfl⟩, rfl, ⟨_, rfl, rfl⟩, rfl, ⟨_, rfl, rfl⟩, rfl, ⟨_, rfl, rfl⟩, rfl, ⟨_, rfl, rfl⟩, trivial⟩) (fun i hi => ?_)
  (conv => whnf)
  refine And.intro (fun h2 => ?_) (fun h2 => ?_)
  · have hil : i < t.rows.length := by simpa using h2
    have hrw : t.rows[0 + ((i : Nat) : Int).toNat]? = some t.rows[i] := by rw [Nat.zero_add, Int.toNat_natCast]; exact List.getElem?_eq_getElem _
    have cN := cN i hil
    have cR := cR _ (hNm i hil)
    generalize f t.rows[i] = w at cN cR
    generalize t.rows[i] = ri at hrw cN
    generalize rowOk L2 w = rb at cR
    (conv => whnf); repeat' (first
    | (refine And.intro ?_ ?_ <;> ((try intro h) <;> (try simp only [Bool.not_true, Bool.not_false, decide_eq_true_eq, decide_eq_false_iff_not, Int.not_lt, Int.not_le, gt_iff_lt, ge_iff_le] at h) <;> first | exact absurd h Bool.false_ne_true | exact absurd h.symm Bool.false_ne_true | conv => whnf))
    | (refine VL.drawS hTb hMix (by kernel_rfl) (by kernel_rfl) (by kernel_rfl) ?_; conv => whnf)
    | (refine Need.mk ?_; kernel_rfl) | (refine Need.mk ⟨rfl, ?_⟩; decide)
    | (refine VR.op hTb rfl rfl (o_loadM hTb rfl rfl rfl rfl (hrw) ⟨by decide, by decide⟩) rfl ?_; conv => whnf)
    | (refine DT.op hTb rfl (o_loadM hTb rfl rfl rfl rfl (hrw) ⟨by decide, by decide⟩) rfl ?_; conv => whnf)
    | (refine Need.mk ?_; exact ⟨rfl, by omega, by omega⟩)
    | (refine VR.fun hTb rfl rfl (o_funN (cN) true [] (fun _ => grNewVal _ _) (by simp) rfl rfl rfl rfl rfl ⟨rfl, rfl, rfl, rfl⟩ ?_ rfl) ?_; exact congrArg (fun s => [s, _]) hb2; conv => whnf)
    | (refine DT.fun hTb rfl (o_funN (cN) true [] (fun _ => grNewVal _ _) (by simp) rfl rfl rfl rfl rfl ⟨rfl, rfl, rfl, rfl⟩ ?_ rfl) rfl ?_; exact congrArg (fun s => [s, _]) hb2; conv => whnf)
    | (refine VR.pure hTb rfl rfl (o_purN (cR) rfl rfl rfl ⟨rfl, rfl, rfl, rfl⟩ (congrArg (fun s => [_, s]) brw)) ?_; conv => whnf)
    | (refine DT.pure hTb rfl (o_purN (cR) rfl rfl rfl ⟨rfl, rfl, rfl, rfl⟩ (congrArg (fun s => [_, s]) brw)) ?_; conv => whnf)
    | (refine VR.pure hTb rfl rfl (o_purN (cR) rfl rfl rfl ⟨rfl, rfl, rfl, rfl⟩ (congrArg (fun s => [_, s]) brw')) ?_; conv => whnf)
    | (refine DT.pure hTb rfl (o_purN (cR) rfl rfl rfl ⟨rfl, rfl, rfl, rfl⟩ (congrArg (fun s => [_, s]) brw')) ?_; conv => whnf)
    | (refine VR.pure hTb rfl rfl (o_purN (cR) rfl rfl rfl ⟨rfl, rfl, rfl, rfl⟩ (congrArg (fun s => [_, s]) (brwG (by simp)))) ?_; conv => whnf)
    | (refine DT.pure hTb rfl (o_purN (cR) rfl rfl rfl ⟨rfl, rfl, rfl, rfl⟩ (congrArg (fun s => [_, s]) (brwG (by simp)))) ?_; conv => whnf))
    all_goals first
      | exact endCR [0] (t, 2) rfl rfl rfl rfl (LeS.refl _) rfl rfl ⟨ht, fun (h0 : (2 : Int) = 0) => absurd h0 (by decide)⟩
      | exact ⟨i + 1, hil, by omega, wk_to [(0, 0), (102, 102), (104, 104), (108, 108), (1090, 1090)] rfl rfl rfl ⟨rfl, rfl, rfl, rfl, congrArg (fun x => Slot.one (.g (.int .i64 x))) (wrap64' (by unfold maxLen; omega)), trivial⟩ ⟨rfl, ⟨_, rfl, rfl⟩, rfl, ⟨_, rfl, rfl⟩, rfl, ⟨_, rfl, rfl⟩, rfl, ⟨_, rfl, rfl⟩, rfl, ⟨_, rfl, rfl⟩, trivial⟩⟩
      | trace_state
  · (conv => whnf); repeat' (first
    | (refine And.intro ?_ ?_ <;> ((try intro h) <;> (try simp only [Bool.not_true, Bool.not_false, decide_eq_true_eq, decide_eq_false_iff_not, Int.not_lt, Int.not_le, gt_iff_lt, ge_iff_le] at h) <;> first | exact absurd h Bool.false_ne_true | exact absurd h.symm Bool.false_ne_true | conv => whnf))
    | (refine VL.drawS hTb hMix (by kernel_rfl) (by kernel_rfl) (by kernel_rfl) ?_; conv => whnf)
    | (refine Need.mk ?_; kernel_rfl) | (refine Need.mk ⟨rfl, ?_⟩; decide)
    | (fail))
    all_goals first
      | exact endCR [0] (t, 4) rfl rfl rfl rfl (LeS.refl _) rfl rfl ⟨ht, fun (h0 : (4 : Int) = 0) => absurd h0 (by decide)⟩
      | (have h8 : t.changes.length < 8 := by (have h9 := h; simp at h9; omega)
         subst ht2
         exact endCR [1090] ((⟨t.first, t.changes ++ [c], t.rows, t.next⟩ : VTable), 0) rfl rfl rfl rfl (LeS.refl _) rfl rfl ⟨hchg hsb h8, fun _ => ⟨rfl, hsb⟩⟩)
      | trace_state
theorem c_l3Change (t : VTable) (ht : t.dr) (c : Change) (hc : c.sml) : CallsV Tryz.prog 138 [.agg (tdL t 0), .agg (encChange c)] [tdO t] (relQ (fun y : VTable × Int => y.1.dr) tdS (fun _ => [none]) (fun y => [tdO y.1])) :=
  (c_l3ChangeK t ht c hc).mono fun _ _ _ ⟨y, hy, e⟩ => ⟨y, hy.1, e⟩
end Go.Vl
