/- Draws of tables: two that may be like. Law: tables that are like, right, new, and bent. -/
import Derived.Test.YtdijjjgplhbkkaaGreatDoorJUq
import Derived.Test.YtdijjjgplhbkkaaGreatDoorJUb
import Derived.Test.YtdijjjgplhbkkaaGreatDoorJUl
set_option linter.unusedSimpArgs false
set_option linter.unusedVariables false
set_option linter.unnecessarySimpa false

namespace Go.Vl
open Go Go.RowKit Go.Proofs
set_option maxRecDepth 100000
set_option linter.unusedSimpArgs false
set_option linter.unusedVariables false
set_option linter.unnecessarySimpa false
set_option maxHeartbeats 16000000

theorem aggTd (t : VTable) : Slot.agg [.imm 7 (((t.first.map encCol).drop 0).take t.first.length), .imm 10 (((t.changes.map encChange).drop 0).take t.changes.length), .own 0 0 t.rows.length, .g (.int .i64 t.next)] = .agg (tdL t 0) := by
  rw [fzC, fzH]
theorem c_l3BentD {bs : List Int} (hb : BOk bs) (p : Nat) (t : VTable) (ht : t.dr) (hp : p ≤ 1099511200000) : CallsV Tryz.prog 70 [rdS, .agg (tdL t 1)] [rdO bs p, tdO t]
    (relQ (fun y : VTable × Nat => y.1.bn ∧ y.2 ≤ p + 60) (fun y => .agg (encVTable y.1)) (fun y => [some (rdO bs y.2), none]) (fun _ => [])) := by
  have hm := ht.md
  have hrl := ht.rl
  have hfl := ht.fl
  have hfs := ht.fs
  have cK := c_l3CopyR t hm
  have hvl := fun i (h : i < t.rows.length) => len18 ht h
  refine funC_walk 1 hTb Tryz.func70 rfl rfl Tryz.ntmps70 (by simp) (by simp) (by simp) ?_
  (conv => whnf); repeat' (first
    | (refine VL.wkR 11 (wk_freezeN (q := 1038) _ rfl (unN_VRows _)) ?_; conv => whnf)
    | (refine VL.wkR 14 (wk_freezeN (q := 1038) _ rfl (unN_VRows _)) ?_; conv => whnf)
    | (refine VL.freeze 1 rfl rfl ?_; conv => whnf; rw [fzRow])
    | (refine VL.freeze 1036 rfl rfl ?_; conv => whnf; rw [fzC])
    | (refine VL.freeze 1037 rfl rfl ?_; conv => whnf; rw [fzH])
    | (refine VL.wkR 23 (wk_putBack _ (q := 1038) (r := 0 + 0) (j := 2) (v := 204) (E := 35) (sz := 3) (hs := []) (hs' := []) (rows' := t.rows.map encVRowN) rfl rfl (.inl rfl) (nAt t.rows (i := 0 + 0) (by omega)) rfl (by simp) (by decide) rfl (setSelf (nAt t.rows (i := 0 + 0) (by omega))) rfl) ?_; conv => whnf)
    | (refine And.intro ?_ ?_ <;> ((try intro h) <;> (try simp only [Bool.not_true, Bool.not_false, decide_eq_true_eq, decide_eq_false_iff_not, Int.not_lt, Int.not_le, gt_iff_lt, ge_iff_le] at h) <;> first | exact absurd h Bool.false_ne_true | exact absurd h.symm Bool.false_ne_true | conv => whnf))
    | (refine VL.drawS hTb hMix (by kernel_rfl) (by kernel_rfl) (by kernel_rfl) ?_; conv => whnf)
    | (refine Need.mk ?_; kernel_rfl) | (refine Need.mk ⟨rfl, ?_⟩; decide)
    | (refine VR.freeze hTb rfl 1 rfl rfl ?_; conv => whnf; rw [fzRow])
    | (refine VR.fun hTb rfl rfl (o_funN (cK) false [] (fun h => by cases h) (by simp) rfl rfl rfl rfl rfl ⟨rfl, rfl, rfl, rfl⟩ rfl rfl) ?_; conv => whnf)
    | (refine DT.fun hTb rfl (o_funN (cK) false [] (fun h => by cases h) (by simp) rfl rfl rfl rfl rfl ⟨rfl, rfl, rfl, rfl⟩ rfl rfl) rfl ?_; conv => whnf)
    | (refine VR.freeze hTb rfl 1036 rfl rfl ?_; conv => whnf; rw [fzC])
    | (refine VR.freeze hTb rfl 1037 rfl rfl ?_; conv => whnf; rw [fzH])
    | (refine VR.rel hTb rfl rfl (o_relN (c_pick hb _ _ (by omega)) false [0] (fun _ _ => ⟨by simp, fun h => by cases h⟩) rfl rfl rfl rfl rfl ⟨rfl, rfl, rfl, rfl⟩ rfl rfl) ?_; rintro w hw; (try simp only at hw); conv => whnf)
    | (refine DT.rel hTb rfl (o_relN (c_pick hb _ _ (by omega)) false [0] (fun _ _ => ⟨by simp, fun h => by cases h⟩) rfl rfl rfl rfl rfl ⟨rfl, rfl, rfl, rfl⟩ rfl rfl) [0] (by kernel_rfl) (by kernel_rfl) ?_; rintro w hw; (try simp only at hw); refine And.intro rfl (And.intro rfl ?_); conv => whnf)
    | (refine VR.rel hTb rfl rfl (o_relN (c_l2Bent hb _ cs hcs.1 (by omega) (by omega)) false [0] (fun _ _ => ⟨by simp, fun h => by cases h⟩) rfl rfl rfl rfl rfl ⟨rfl, rfl, rfl, rfl⟩ rfl rfl) ?_; rintro ⟨cs, q2⟩ hcs; (try simp only at hcs); conv => whnf)
    | (refine DT.rel hTb rfl (o_relN (c_l2Bent hb _ cs hcs.1 (by omega) (by omega)) false [0] (fun _ _ => ⟨by simp, fun h => by cases h⟩) rfl rfl rfl rfl rfl ⟨rfl, rfl, rfl, rfl⟩ rfl rfl) [0] (by kernel_rfl) (by kernel_rfl) ?_; rintro ⟨cs, q2⟩ hcs; (try simp only at hcs); refine And.intro rfl (And.intro rfl ?_); conv => whnf)
    | (refine VR.rel hTb rfl rfl (o_relN (c_l2Bent hb _ t.first hfs (by omega) (by omega)) false [0] (fun _ _ => ⟨by simp, fun h => by cases h⟩) rfl rfl rfl rfl rfl ⟨rfl, rfl, rfl, rfl⟩ rfl rfl) ?_; rintro ⟨cs, q2⟩ hcs; (try simp only at hcs); conv => whnf)
    | (refine DT.rel hTb rfl (o_relN (c_l2Bent hb _ t.first hfs (by omega) (by omega)) false [0] (fun _ _ => ⟨by simp, fun h => by cases h⟩) rfl rfl rfl rfl rfl ⟨rfl, rfl, rfl, rfl⟩ rfl rfl) [0] (by kernel_rfl) (by kernel_rfl) ?_; rintro ⟨cs, q2⟩ hcs; (try simp only at hcs); refine And.intro rfl (And.intro rfl ?_); conv => whnf)
    | (refine VR.op hTb rfl rfl (o_slice_imm (n1 := 1) (n2 := (t.changes.map encChange).length) (rows' := (t.changes.drop 1).map encChange) hTb rfl rfl rfl rfl rfl rfl (bnd_some rfl) bnd_none (by omega) (Nat.le_refl _) (by rw [← List.map_drop]; exact List.take_of_length_le (by simp))) rfl ?_; conv => whnf)
    | (refine VR.rel hTb rfl rfl (o_relN (c_num hb _ _ _ (fun _ => True) (by simp [intRows]) (by simp) (by omega)) false [0, 151] (fun _ _ => ⟨by simp, fun h => by cases h⟩) rfl rfl rfl rfl rfl ⟨rfl, rfl, rfl, rfl⟩ rfl rfl) ?_; rintro v hv; (try simp only at hv); conv => whnf)
    | (refine DT.rel hTb rfl (o_relN (c_num hb _ _ _ (fun _ => True) (by simp [intRows]) (by simp) (by omega)) false [0, 151] (fun _ _ => ⟨by simp, fun h => by cases h⟩) rfl rfl rfl rfl rfl ⟨rfl, rfl, rfl, rfl⟩ rfl rfl) [0, 151] (by kernel_rfl) (by kernel_rfl) ?_; rintro v hv; (try simp only at hv); refine And.intro rfl (And.intro rfl ?_); conv => whnf)
    | (refine VR.rel hTb rfl rfl (o_relN (c_num hb _ _ _ (fun _ => True) (by simp [intRows]) (by simp) (by omega)) false [0, 171] (fun _ _ => ⟨by simp, fun h => by cases h⟩) rfl rfl rfl rfl rfl ⟨rfl, rfl, rfl, rfl⟩ rfl rfl) ?_; rintro v hv; (try simp only at hv); conv => whnf)
    | (refine DT.rel hTb rfl (o_relN (c_num hb _ _ _ (fun _ => True) (by simp [intRows]) (by simp) (by omega)) false [0, 171] (fun _ _ => ⟨by simp, fun h => by cases h⟩) rfl rfl rfl rfl rfl ⟨rfl, rfl, rfl, rfl⟩ rfl rfl) [0, 171] (by kernel_rfl) (by kernel_rfl) ?_; rintro v hv; (try simp only at hv); refine And.intro rfl (And.intro rfl ?_); conv => whnf)
    | (refine Need.mk ?_; exact ⟨rfl, by omega, by omega⟩)
    | (refine VR.op hTb rfl rfl (o_storeM hTb rfl rfl rfl rfl rfl (List.getElem?_eq_getElem (show 0 + w.toNat < t.rows.length by omega)) rfl rfl rfl ⟨rfl, by decide⟩ (c' := ⟨_, v, _⟩) rfl) rfl ?_; conv => whnf)
    | (refine DT.op hTb rfl (o_storeM hTb rfl rfl rfl rfl rfl (List.getElem?_eq_getElem (show 0 + w.toNat < t.rows.length by omega)) rfl rfl rfl ⟨rfl, by decide⟩ (c' := ⟨_, v, _⟩) rfl) rfl ?_; conv => whnf)
    | (refine VR.op hTb rfl rfl (o_loadM hTb rfl rfl rfl rfl (List.getElem?_eq_getElem (show 0 + 0 < t.rows.length by omega)) ⟨by decide, by decide⟩) rfl ?_; conv => whnf)
    | (refine DT.op hTb rfl (o_loadM hTb rfl rfl rfl rfl (List.getElem?_eq_getElem (show 0 + 0 < t.rows.length by omega)) ⟨by decide, by decide⟩) rfl ?_; conv => whnf)
    | (refine VR.opk hTb rfl rfl (o_app1 (q := 166) (a := t.rows[0 + 0]'(by omega)) hTb rfl rfl rfl rfl rfl rfl rfl rfl rfl rfl rfl rfl (by omega) (by show _ * 40 ≤ _; omega) (by unfold maxLen; omega)) ?_; conv => whnf)
    | (refine DT.opk hTb rfl (o_app1 (q := 166) (a := t.rows[0 + 0]'(by omega)) hTb rfl rfl rfl rfl rfl rfl rfl rfl rfl rfl rfl rfl (by omega) (by show _ * 40 ≤ _; omega) (by unfold maxLen; omega)) ?_; conv => whnf)
    | (refine DT.op hTb rfl (o_load_outL (v := 189) (len := (t.rows[0 + w.toNat]'(by omega)).vals.length) hTb rfl rfl rfl rfl rfl (nAt t.rows (i := 0 + w.toNat) (by omega)) rfl (by simp) rfl rfl (by decide) (.inr ⟨rfl, plainVals _⟩)) rfl ?_; conv => whnf)
    | (refine DT.opk hTb rfl (o_app1 (q := 192) (a := ⟨0, 0, ⟨#[]⟩⟩) (l := (t.rows[0 + w.toNat]'(by omega)).vals) hTb rfl rfl rfl rfl rfl rfl rfl rfl rfl rfl rfl rfl (by omega) (by have := hvl (0 + w.toNat) (by omega); show _ * 32 ≤ _; omega) (by have := hvl (0 + w.toNat) (by omega); unfold maxLen; omega)) ?_; conv => whnf)
    | (refine DT.op hTb rfl (o_store_regH hTb rfl rfl rfl rfl rfl (nAt t.rows (i := 0 + w.toNat) (by omega)) rfl rfl ⟨rfl, by decide⟩ (hno1 _ _ _ rfl) rfl (hhs1 _ _ _)) rfl ?_; conv => whnf)
    | (refine VR.op hTb rfl rfl (o_load_outL (v := 204) (len := (t.rows[0 + 0]'(by omega)).vals.length) hTb rfl rfl rfl rfl rfl (nAt t.rows (i := 0 + 0) (by omega)) rfl (by simp) rfl rfl (by decide) (.inr ⟨rfl, plainVals _⟩)) rfl ?_; conv => whnf)
    | (refine DT.op hTb rfl (o_load_outL (v := 212) (len := (t.rows[0 + 0]'(by omega)).vals.length) hTb rfl rfl rfl rfl rfl (nAt t.rows (i := 0 + 0) (by omega)) rfl (by simp) rfl rfl (by decide) (.inr ⟨rfl, plainVals _⟩)) rfl ?_; conv => whnf)
    | (refine VR.rel hTb rfl rfl (o_relN (c_l1Draw hb _ (by omega)) false [0] (fun _ _ => ⟨by simp, fun h => by cases h⟩) rfl rfl rfl rfl rfl ⟨rfl, rfl, rfl, rfl⟩ rfl rfl) ?_; rintro ⟨⟨vk, vn, vt⟩, q2⟩ hv; (try simp only at hv); conv => whnf)
    | (refine DT.rel hTb rfl (o_relN (c_l1Draw hb _ (by omega)) false [0] (fun _ _ => ⟨by simp, fun h => by cases h⟩) rfl rfl rfl rfl rfl ⟨rfl, rfl, rfl, rfl⟩ rfl rfl) [0] (by kernel_rfl) (by kernel_rfl) ?_; rintro ⟨⟨vk, vn, vt⟩, q2⟩ hv; (try simp only at hv); refine And.intro rfl (And.intro rfl ?_); conv => whnf)
    | (refine VR.op hTb rfl rfl (o_storeM hTb rfl rfl rfl rfl rfl (List.getElem?_eq_getElem (show 0 + 0 < (t.rows[0 + 0]'(by omega)).vals.length by omega)) rfl rfl rfl ⟨rfl, by decide⟩ (c' := ⟨vk, vn, vt⟩) rfl) rfl ?_; conv => whnf)
    | (refine DT.op hTb rfl (o_storeM hTb rfl rfl rfl rfl rfl (List.getElem?_eq_getElem (show 0 + 0 < (t.rows[0 + 0]'(by omega)).vals.length by omega)) rfl rfl rfl ⟨rfl, by decide⟩ (c' := ⟨vk, vn, vt⟩) rfl) rfl ?_; conv => whnf))
  all_goals first
    | exact endCR [] (t, _) rfl rfl rfl rfl (LeS.of_eq (aggFz (unN_VRows t.rows) (by simp [unNss_length]))) rfl rfl ⟨bnT ht, by simp only; omega⟩
    | exact endCR [] ((⟨cs, t.changes, t.rows, t.next⟩ : VTable), _) rfl rfl rfl rfl (LeS.of_eq (aggFz (unN_VRows t.rows) (by simp [unNss_length]))) rfl rfl ⟨bnF ht hcs.1 (by omega), by simp only; omega⟩
    | exact endCR [] ((⟨t.first, t.changes.drop 1, t.rows, t.next⟩ : VTable), _) rfl rfl rfl rfl (LeS.of_eq (aggFz (unN_VRows t.rows) (by simp [unNss_length]))) rfl rfl ⟨bnC ht 1, by simp only; omega⟩
    | exact endCR [] ((⟨t.first, t.changes, t.rows, v⟩ : VTable), _) rfl rfl rfl rfl (LeS.of_eq (aggFz (unN_VRows t.rows) (by simp [unNss_length]))) rfl rfl ⟨bnN ht v, by simp only; omega⟩
    | exact endCR [] ((⟨t.first, t.changes, t.rows.set (0 + w.toNat) ⟨_, v, _⟩, t.next⟩ : VTable), _) rfl rfl rfl rfl (LeS.of_eq (aggFz rfl (by simp))) rfl rfl ⟨bnR ht (by simp; omega) (mdRows ht (hm.rm _ (List.getElem_mem (show 0 + w.toNat < t.rows.length by omega))).1 (hm.rm _ (List.getElem_mem (show 0 + w.toNat < t.rows.length by omega))).2), by simp only; omega⟩
    | exact endCR [] ((⟨t.first, t.changes, t.rows ++ [t.rows[0 + 0]'(by omega)], t.next⟩ : VTable), _) rfl rfl rfl rfl (LeS.of_eq (aggFz rfl (by simp))) rfl rfl ⟨bnR ht (by simp; omega) (fun x hx => (by rcases List.mem_append.1 hx with hx | hx; exact hm.rm x hx; simp only [List.mem_singleton] at hx; subst hx; exact hm.rm _ (List.getElem_mem _))), by simp only; omega⟩
    | (refine EndC.wk (fun n => wk_putBack n (q := 1038) (r := 0 + 0) (j := 2) (v := 204) (E := 35) (sz := 3) (hs := []) (hs' := []) (rows' := (t.rows).map encVRowN) rfl rfl (.inl rfl) (nAt t.rows (i := 0 + 0) (by omega)) rfl (by simp) (by decide) rfl (setSelf (nAt t.rows (i := 0 + 0) (by omega))) rfl) ?_
       exact endCR [] (t, _) rfl rfl rfl rfl (LeS.of_eq (aggFz (unN_VRows t.rows) (by simp [unNss_length]))) rfl rfl ⟨bnT ht, by simp only; omega⟩)
    | skip
  · refine EndC.wk (fun n => wk_putBack n (q := 1038) (r := 0 + w.toNat) (j := 2) (v := 192) (E := 35) (sz := 3) (hs := []) (hs' := []) (rows' := (t.rows.set (0 + w.toNat) ⟨(t.rows[0 + w.toNat]'(by omega)).id, (t.rows[0 + w.toNat]'(by omega)).ver, (t.rows[0 + w.toNat]'(by omega)).vals ++ [(⟨0, 0, ⟨#[]⟩⟩ : Val)]⟩).map encVRowN) rfl rfl (.inl rfl) (List.getElem?_set_self (show 0 + w.toNat < (t.rows.map encVRowN).length by rw [List.length_map]; omega)) rfl ?h192 (by decide) rfl (setN t.rows _ _ _ _ _) rfl) ?_
    · simp
    · refine endCR [] ((⟨t.first, t.changes, t.rows.set (0 + w.toNat) ⟨(t.rows[0 + w.toNat]'(by omega)).id, (t.rows[0 + w.toNat]'(by omega)).ver, (t.rows[0 + w.toNat]'(by omega)).vals ++ [(⟨0, 0, ⟨#[]⟩⟩ : Val)]⟩, t.next⟩ : VTable), _) rfl rfl rfl rfl (LeS.of_eq (aggFz (unN_VRows _) ?_)) rfl rfl ⟨bnR ht ?_ (mdRows ht ?_ (mdApp (hm.rm _ (List.getElem_mem (show 0 + w.toNat < t.rows.length by omega))).2 (show (0 : Nat) ≤ 1048576 by omega))), ?_⟩
      · simp [unNss_length]
      · simp; omega
      · have := hvl (0 + w.toNat) (by omega); rw [List.length_append]; show _ + 1 ≤ _; omega
      · simp only; omega
  · refine EndC.wk (fun n => wk_putBack n (q := 1038) (r := 0 + 0) (j := 2) (v := 212) (E := 35) (sz := 3) (hs := []) (hs' := []) (rows' := (t.rows.set (0 + 0) ⟨(t.rows[0 + 0]'(by omega)).id, (t.rows[0 + 0]'(by omega)).ver, (t.rows[0 + 0]'(by omega)).vals.set (0 + 0) ⟨vk, vn, vt⟩⟩).map encVRowN) rfl rfl (.inl rfl) (nAt t.rows (i := 0 + 0) (by omega)) rfl ?h212 (by decide) rfl (setN1 t.rows _ _ _ _) rfl) ?_
    · simp
    · refine endCR [] ((⟨t.first, t.changes, t.rows.set (0 + 0) ⟨(t.rows[0 + 0]'(by omega)).id, (t.rows[0 + 0]'(by omega)).ver, (t.rows[0 + 0]'(by omega)).vals.set (0 + 0) ⟨vk, vn, vt⟩⟩, t.next⟩ : VTable), _) rfl rfl rfl rfl (LeS.of_eq (aggFz (unN_VRows _) ?_)) rfl rfl ⟨bnR ht ?_ (mdRows ht ?_ (mdSet (hm.rm _ (List.getElem_mem (show 0 + 0 < t.rows.length by omega))).2 _ (show vt.size ≤ 1048576 by omega))), ?_⟩
      · simp [unNss_length]
      · simp; omega
      · have := hvl (0 + 0) (by omega); rw [List.length_set]; omega
      · simp only; omega
theorem c_l3CopyT (t : VTable) (ht : t.md) : CallsV Tryz.prog 69 [.agg (encVTable t)] [] (funQ (.agg (tdL t 0)) [] [tdO t]) := by
  have hfc := ht.fc
  have hrl := ht.r
  have hrm := ht.rm
  refine funF_walk hTb Tryz.func69 rfl rfl Tryz.ntmps69 (by simp) (by simp) ?_
  have a1 : t.first.length ≤ 2000000 := by omega
  have a2 : t.changes.length ≤ 2000000 := by omega
  (conv => whnf); repeat' (first
    | (refine And.intro ?_ ?_ <;> ((try intro h) <;> (try simp only [Bool.not_true, Bool.not_false, decide_eq_true_eq, decide_eq_false_iff_not, Int.not_lt, Int.not_le, gt_iff_lt, ge_iff_le] at h) <;> first | exact absurd h Bool.false_ne_true | exact absurd h.symm Bool.false_ne_true | conv => whnf))
    | (refine VL.drawS hTb hMix (by kernel_rfl) (by kernel_rfl) (by kernel_rfl) ?_; conv => whnf)
    | (refine Need.mk ?_; kernel_rfl) | (refine Need.mk ⟨rfl, ?_⟩; decide)
    | (refine Need.mk ?_; rfl))
  refine DT.opk hTb rfl (o_app0 (f := encCol) (m := t.first) (q := 108) hTb rfl rfl rfl rfl rfl rfl rfl rfl rfl rfl (by omega) (by show _ * 64 ≤ _; omega) (by unfold maxLen; omega)) ?_
  conv => whnf
  refine DT.opk hTb rfl (o_app0 (f := encChange) (m := t.changes) (q := 112) hTb rfl rfl rfl rfl rfl rfl rfl rfl rfl rfl (by omega) (by show _ * 104 ≤ _; omega) (by unfold maxLen; omega)) ?_
  (conv => whnf); repeat' (first | (refine And.intro ?_ ?_ <;> ((try intro h) <;> (try simp only [Bool.not_true, Bool.not_false] at h) <;> first | exact absurd h Bool.false_ne_true | exact absurd h.symm Bool.false_ne_true | conv => whnf)) | (refine Need.mk ?_; kernel_rfl) | (refine Need.mk ⟨rfl, ?_⟩; decide))
  refine VL.loopI hTb (fun i => i ≤ t.rows.length) (fun i => ⟨[(1, .one (.ptr 101 0)), (2, .one (.ptr 102 0)), (3, .one (.ptr 103 0)), (4, iS i)], [(101, .box (encVTable t)), (102, .box [.g (.slice none 0 0), .g (.slice none 0 0), .g (.slice none 0 0), .g (.int .i64 0)]), (103, .box [.own 108 0 t.first.length, .own 112 0 t.changes.length, .own 120 0 (t.rows.take i).length, .g (.int .i64 t.next)]), (108, .arr 39 7 (t.first.map encCol)), (112, .arr 105 10 (t.changes.map encChange)), (120, .arr 35 3 ((t.rows.take i).map encVRow))], []⟩) (fun i => t.rows.length - i) 0 (Nat.zero_le _)
    ((wk_nilBox _ (q0 := 103) (j := 2) (q := 120) (sz := 3) (E := 35) rfl rfl rfl (by decide)).trans (wk_to [(101, 101), (102, 102), (103, 103), (108, 108), (112, 112), (120, 120)] rfl rfl rfl ⟨rfl, rfl, rfl, rfl, trivial⟩ ⟨rfl, ⟨_, rfl, rfl⟩, rfl, ⟨_, rfl, rfl⟩, rfl, ⟨_, rfl, rfl⟩, rfl, ⟨_, rfl, rfl⟩, rfl, ⟨_, rfl, rfl⟩, rfl, ⟨_, rfl, rfl⟩, trivial⟩)) (fun i hi => ?_)
  (conv => whnf)
  refine And.intro (fun h2 => ?_) (fun h2 => ?_)
  · have hil : i < t.rows.length := by simpa using h2
    have hrw := rowVRow hil
    have hvl := (hrm _ (List.getElem_mem hil)).1
    have htk := List.take_succ_eq_append_getElem hil
    have hml : (t.rows.take i).length ≤ 1048576 := by simp; omega
    generalize t.rows.take i = M at htk hml ⊢
    generalize t.rows[i] = ri at hrw hvl htk
    (conv => whnf); repeat' (first
    | (refine And.intro ?_ ?_ <;> ((try intro h) <;> (try simp only [Bool.not_true, Bool.not_false, decide_eq_true_eq, decide_eq_false_iff_not, Int.not_lt, Int.not_le, gt_iff_lt, ge_iff_le] at h) <;> first | exact absurd h Bool.false_ne_true | exact absurd h.symm Bool.false_ne_true | conv => whnf))
    | (refine VL.drawS hTb hMix (by kernel_rfl) (by kernel_rfl) (by kernel_rfl) ?_; conv => whnf)
    | (refine Need.mk ?_; kernel_rfl) | (refine Need.mk ⟨rfl, ?_⟩; decide)
    | (refine VR.op hTb rfl rfl (o_index_imm hTb rfl rfl rfl rfl rfl rfl rfl (by omega) (hrw)) rfl ?_; conv => whnf)
    | (refine DT.op hTb rfl (o_index_imm hTb rfl rfl rfl rfl rfl rfl rfl (by omega) (hrw)) rfl ?_; conv => whnf))
    refine DT.opk hTb rfl (o_appF (q := 144) hTb rfl rfl rfl rfl rfl rfl rfl rfl rfl rfl (by decide) (by show _ * 32 ≤ _; simp; omega) (by unfold maxLen; simp; omega)) ?_
    conv => whnf
    refine DT.opk hTb rfl (o_app1 (q := 147) (a := ri) hTb rfl rfl rfl rfl rfl rfl rfl rfl rfl rfl rfl rfl (by omega) (by show _ * 40 ≤ _; omega) (by unfold maxLen; omega)) ?_
    (conv => whnf); repeat' (first | (refine And.intro ?_ ?_ <;> ((try intro h) <;> (try simp only [Bool.not_true, Bool.not_false] at h) <;> first | exact absurd h Bool.false_ne_true | exact absurd h.symm Bool.false_ne_true | conv => whnf)) | (refine Need.mk ?_; kernel_rfl) | (refine Need.mk ⟨rfl, ?_⟩; decide))
    exact ⟨i + 1, hil, by omega, wk_to [(101, 101), (102, 102), (103, 103), (108, 108), (112, 112), (147, 120)] rfl rfl rfl ⟨rfl, rfl, rfl, congrArg (fun x => Slot.one (.g (.int .i64 x))) (wrap64' (by unfold maxLen; omega)), trivial⟩ ⟨rfl, ⟨_, rfl, rfl⟩, rfl, ⟨_, rfl, rfl⟩, rfl, ⟨_, rfl, congrArg (fun n => Ob.box [.own 108 0 t.first.length, .own 112 0 t.changes.length, .own 120 0 n, .g (.int .i64 t.next)]) (by rw [htk]; simp)⟩, rfl, ⟨_, rfl, rfl⟩, rfl, ⟨_, rfl, rfl⟩, rfl, ⟨_, rfl, congrArg (fun r : List VRow => Ob.arr 35 3 (r.map encVRow)) htk.symm⟩, trivial⟩⟩
  · have hie : i = t.rows.length := by simp at h2; omega
    subst hie
    rw [List.take_length]
    (conv => whnf)
    exact endW [120] rfl rfl rfl rfl rfl (LeS.of_eq (aggTd t)) rfl rfl
theorem c_DrawTableSame {bs : List Int} (hl : bs.length ≤ maxLen) (hb : ∀ x ∈ bs, 0 ≤ x ∧ x < 256) : CallsV Tryz.prog 22 [bytesI bs] [] (relQ (fun y : VTable × VTable => y.1.bn ∧ y.2.bn) (fun y => .tup [(true, encVTable y.1), (true, encVTable y.2)]) (fun _ => []) (fun _ => [])) := by
  have hbk := BOk.of hb
  refine funF_walk hTb Tryz.func22 rfl rfl Tryz.ntmps22 (by simp) (by simp) ?_
  (conv => whnf); repeat' (first
    | (refine And.intro ?_ ?_ <;> ((try intro h) <;> (try simp only [Bool.not_true, Bool.not_false, decide_eq_true_eq, decide_eq_false_iff_not, Int.not_lt, Int.not_le, gt_iff_lt, ge_iff_le] at h) <;> first | exact absurd h Bool.false_ne_true | exact absurd h.symm Bool.false_ne_true | conv => whnf))
    | (refine VL.drawS hTb hMix (by kernel_rfl) (by kernel_rfl) (by kernel_rfl) ?_; conv => whnf)
    | (refine Need.mk ?_; kernel_rfl) | (refine Need.mk ⟨rfl, ?_⟩; decide)
    | (refine VR.fun hTb rfl rfl (o_funN (c_l10Open hl) false [] (fun h => by cases h) (by simp) rfl rfl rfl rfl rfl ⟨rfl, rfl, rfl, rfl⟩ rfl rfl) ?_; conv => whnf)
    | (refine DT.fun hTb rfl (o_funN (c_l10Open hl) false [] (fun h => by cases h) (by simp) rfl rfl rfl rfl rfl ⟨rfl, rfl, rfl, rfl⟩ rfl rfl) rfl ?_; conv => whnf)
    | (refine VR.rel hTb rfl rfl (o_relN (c_l3Table hbk _ (by omega)) false [1028] (fun _ _ => ⟨by simp, fun h => by cases h⟩) rfl rfl rfl rfl rfl ⟨rfl, rfl, rfl, rfl⟩ rfl rfl) ?_; rintro ⟨t, q⟩ ht; (try simp only at ht); conv => whnf)
    | (refine DT.rel hTb rfl (o_relN (c_l3Table hbk _ (by omega)) false [1028] (fun _ _ => ⟨by simp, fun h => by cases h⟩) rfl rfl rfl rfl rfl ⟨rfl, rfl, rfl, rfl⟩ rfl rfl) [1028] (by kernel_rfl) (by kernel_rfl) ?_; rintro ⟨t, q⟩ ht; (try simp only at ht); refine And.intro rfl (And.intro rfl ?_); conv => whnf)
    | (refine VR.rel hTb rfl rfl (o_relN (c_pick hbk _ _ (by omega)) false [1028] (fun _ _ => ⟨by simp, fun h => by cases h⟩) rfl rfl rfl rfl rfl ⟨rfl, rfl, rfl, rfl⟩ rfl rfl) ?_; rintro w hw; (try simp only at hw); conv => whnf)
    | (refine DT.rel hTb rfl (o_relN (c_pick hbk _ _ (by omega)) false [1028] (fun _ _ => ⟨by simp, fun h => by cases h⟩) rfl rfl rfl rfl rfl ⟨rfl, rfl, rfl, rfl⟩ rfl rfl) [1028] (by kernel_rfl) (by kernel_rfl) ?_; rintro w hw; (try simp only at hw); refine And.intro rfl (And.intro rfl ?_); conv => whnf))
  · (conv => whnf); repeat' (first
    | (refine And.intro ?_ ?_ <;> ((try intro h) <;> (try simp only [Bool.not_true, Bool.not_false, decide_eq_true_eq, decide_eq_false_iff_not, Int.not_lt, Int.not_le, gt_iff_lt, ge_iff_le] at h) <;> first | exact absurd h Bool.false_ne_true | exact absurd h.symm Bool.false_ne_true | conv => whnf))
    | (refine VL.drawS hTb hMix (by kernel_rfl) (by kernel_rfl) (by kernel_rfl) ?_; conv => whnf)
    | (refine Need.mk ?_; kernel_rfl) | (refine Need.mk ⟨rfl, ?_⟩; decide)
    | (refine VR.pure hTb rfl rfl (o_purF ((c_l3Copy t ht.1.md).pure (s' := .agg (encVTable t)) (by show Slot.agg [.imm 7 (((t.first.map encCol).drop 0).take t.first.length), .imm 10 (((t.changes.map encChange).drop 0).take t.changes.length), .imm 3 (((t.rows.map encVRow).drop 0).take t.rows.length), .g (.int .i64 t.next)] = _; rw [fzC, fzH, fzRow]; rfl)) rfl rfl rfl ⟨rfl, rfl, rfl, rfl⟩ rfl) ?_; conv => whnf)
    | (refine DT.pure hTb rfl (o_purF ((c_l3Copy t ht.1.md).pure (s' := .agg (encVTable t)) (by show Slot.agg [.imm 7 (((t.first.map encCol).drop 0).take t.first.length), .imm 10 (((t.changes.map encChange).drop 0).take t.changes.length), .imm 3 (((t.rows.map encVRow).drop 0).take t.rows.length), .g (.int .i64 t.next)] = _; rw [fzC, fzH, fzRow]; rfl)) rfl rfl rfl ⟨rfl, rfl, rfl, rfl⟩ rfl) ?_; conv => whnf))
    exact endR [] (t, t) rfl rfl rfl rfl rfl (LeS.refl _) rfl rfl ⟨bnT ht.1, bnT ht.1⟩
  · (conv => whnf); repeat' (first
    | (refine And.intro ?_ ?_ <;> ((try intro h) <;> (try simp only [Bool.not_true, Bool.not_false, decide_eq_true_eq, decide_eq_false_iff_not, Int.not_lt, Int.not_le, gt_iff_lt, ge_iff_le] at h) <;> first | exact absurd h Bool.false_ne_true | exact absurd h.symm Bool.false_ne_true | conv => whnf))
    | (refine VL.drawS hTb hMix (by kernel_rfl) (by kernel_rfl) (by kernel_rfl) ?_; conv => whnf)
    | (refine Need.mk ?_; kernel_rfl) | (refine Need.mk ⟨rfl, ?_⟩; decide)
    | (refine VR.fun hTb rfl rfl (o_funN (c_l3CopyT t ht.1.md) false [] (fun h => by cases h) (by simp) rfl rfl rfl rfl rfl ⟨rfl, rfl, rfl, rfl⟩ rfl rfl) ?_; conv => whnf)
    | (refine DT.fun hTb rfl (o_funN (c_l3CopyT t ht.1.md) false [] (fun h => by cases h) (by simp) rfl rfl rfl rfl rfl ⟨rfl, rfl, rfl, rfl⟩ rfl rfl) rfl ?_; conv => whnf)
    | (refine DT.relk hTb rfl (o_relN (c_l3Act hbk _ t ht.1 (by omega)) false [1028, 1080] (fun _ _ => ⟨by simp, fun h => by cases h⟩) rfl rfl rfl rfl rfl ⟨rfl, rfl, rfl, rfl⟩ rfl rfl) [1028, 1084] [1080] (by kernel_rfl) (by kernel_rfl) ?_; rintro ⟨t2, q2⟩ ht2; (try simp only at ht2); refine And.intro rfl (And.intro rfl ?_); conv => whnf)
    | (refine DT.relk hTb rfl (o_relN (c_l3BentD hbk _ t2 ht2.1 (by omega)) false [1028, 1084] (fun _ _ => ⟨by simp, fun h => by cases h⟩) rfl rfl rfl rfl rfl ⟨rfl, rfl, rfl, rfl⟩ rfl rfl) [1028] [1084] (by kernel_rfl) (by kernel_rfl) ?_; rintro ⟨t3, q3⟩ ht3; (try simp only at ht3); refine And.intro rfl (And.intro rfl ?_); conv => whnf))
    exact endR [] (t, t3) rfl rfl rfl rfl rfl (LeS.refl _) rfl rfl ⟨bnT ht.1, ht3.1⟩
end Go.Vl

namespace Go.Vl
open Go Go.RowKit Go.Proofs
set_option maxRecDepth 100000
set_option linter.unusedSimpArgs false
set_option linter.unusedVariables false
set_option linter.unnecessarySimpa false
set_option maxHeartbeats 16000000

theorem brwTDn (t : VTable) {n : Nat} (h : t.rows.length = n) : Slot.agg [.imm 7 (t.first.map encCol), .imm 10 (t.changes.map encChange), .imm 3 (((t.rows.map encVRow).drop 0).take n), .g (.int .i64 t.next)] = .agg (encVTable t) := by
  subst h; exact brwTD t
theorem c_DrawTableNew {bs : List Int} (hl : bs.length ≤ maxLen) (hb : ∀ x ∈ bs, 0 ≤ x ∧ x < 256) : CallsV Tryz.prog 24 [bytesI bs] [] (relQ (fun y : List Col => smlCols y ∧ y.length ≤ 10) (fun y => colsI y) (fun _ => []) (fun _ => [])) := by
  refine funF_walk hTb Tryz.func24 rfl rfl Tryz.ntmps24 (by simp) (by simp) ?_
  (conv => whnf); repeat' (first
    | (refine And.intro ?_ ?_ <;> ((try intro h) <;> (try simp only [Bool.not_true, Bool.not_false, decide_eq_true_eq, decide_eq_false_iff_not, Int.not_lt, Int.not_le, gt_iff_lt, ge_iff_le] at h) <;> first | exact absurd h Bool.false_ne_true | exact absurd h.symm Bool.false_ne_true | conv => whnf))
    | (refine VL.drawS hTb hMix (by kernel_rfl) (by kernel_rfl) (by kernel_rfl) ?_; conv => whnf)
    | (refine Need.mk ?_; kernel_rfl) | (refine Need.mk ⟨rfl, ?_⟩; decide)
    | (refine VR.rel hTb rfl rfl (o_relN (c_DrawShapeOk hl hb) false [] (fun _ _ => ⟨by simp, fun h => by cases h⟩) rfl rfl rfl rfl rfl ⟨rfl, rfl, rfl, rfl⟩ rfl rfl) ?_; rintro cs hcs; (try simp only at hcs); conv => whnf)
    | (refine DT.rel hTb rfl (o_relN (c_DrawShapeOk hl hb) false [] (fun _ _ => ⟨by simp, fun h => by cases h⟩) rfl rfl rfl rfl rfl ⟨rfl, rfl, rfl, rfl⟩ rfl rfl) [] (by kernel_rfl) (by kernel_rfl) ?_; rintro cs hcs; (try simp only at hcs); refine And.intro rfl (And.intro rfl ?_); conv => whnf))
  exact endR [] cs rfl rfl rfl rfl rfl (LeS.refl _) rfl rfl hcs
theorem tabOk_new (cs : List Col) : tabOk ⟨cs, [], [], 1⟩ = shapeOk cs := by
  have h1 : (shAll cs []).2 = shapeOk cs := by
    cases h : shapeOk cs with
    | true => rw [shAll_yes h (show chGo cs [] = some cs from rfl)]
    | false =>
      cases h2 : (shAll cs []).2 with
      | false => rfl
      | true => obtain ⟨ho, _⟩ := shAll_go h2; rw [h] at ho; cases ho
  have h2 : onceB (tL ⟨cs, [], [], 1⟩) [] = true := onceB_all fun k hk => by unfold onceAt; simp [colVs, dupGo]
  unfold tabOk
  simp only [h1, stGo, List.map_nil, h2]
  simp
theorem bad_dup {t : VTable} (h : 0 < t.rows.length) : tabOk ⟨t.first, t.changes, t.rows ++ [t.rows[0]], t.next⟩ = false := by
  cases hk : tabOk ⟨t.first, t.changes, t.rows ++ [t.rows[0]], t.next⟩ with
  | false => rfl
  | true =>
    have h1 := (stGo_at (tabOk_iff.1 hk).st t.rows.length (by simp)).2.2.2.2 0 h
    simp [List.getElem_append, h] at h1
theorem bad_ver {t : VTable} (h : 0 < t.rows.length) (i : Int) (vs : List Val) : tabOk ⟨t.first, t.changes, t.rows.set 0 ⟨i, (t.changes.length : Int) + 1, vs⟩, t.next⟩ = false := by
  cases hk : tabOk ⟨t.first, t.changes, t.rows.set 0 ⟨i, (t.changes.length : Int) + 1, vs⟩, t.next⟩ with
  | false => rfl
  | true =>
    have h1 := (stGo_at (tabOk_iff.1 hk).st 0 (by simpa using h)).2.2.1.2
    simp only [List.getElem_set_self] at h1
    omega
theorem bad_next {t : VTable} (h : 0 < t.rows.length) : tabOk ⟨t.first, t.changes, t.rows, (t.rows[t.rows.length - 1]'(by omega)).id⟩ = false := by
  cases hk : tabOk ⟨t.first, t.changes, t.rows, (t.rows[t.rows.length - 1]'(by omega)).id⟩ with
  | false => rfl
  | true =>
    have h1 := (stGo_at (tabOk_iff.1 hk).st (t.rows.length - 1) (by simp only; omega)).2.1
    simp only at h1
    omega
theorem dif_rows {t : VTable} (r : VRow) : q_VTable t ⟨t.first, t.changes, t.rows ++ [r], t.next⟩ = false := by
  unfold q_VTable
  rw [leq_len (us := t.rows) (bs := t.rows ++ [r]) (by simp)]
  simp
theorem dif_next {t : VTable} {n : Int} (h : t.next ≠ n) : q_VTable t ⟨t.first, t.changes, t.rows, n⟩ = false := by
  unfold q_VTable
  simp [h]
theorem last_lt {t : VTable} (hk : tabOk t = true) (h : 0 < t.rows.length) : t.next ≠ (t.rows[t.rows.length - 1]'(by omega)).id := by
  have h1 := (stGo_at (tabOk_iff.1 hk).st (t.rows.length - 1) (by omega)).2.1
  omega
theorem qH_comm (a b : Change) : q_Change a b = q_Change b a := by
  unfold q_Change
  rw [q_Col_comm a.col, BEq.comm (a := a.kind), BEq.comm (a := a.name.toList), BEq.comm (a := a.new.toList)]
theorem qH_refl (a : Change) : q_Change a a = true := by simp [q_Change, q_Col_refl]
theorem qR_comm (a b : VRow) : q_VRow a b = q_VRow b a := by
  unfold q_VRow
  rw [leq_comm qV_comm a.vals, BEq.comm (a := a.id), BEq.comm (a := a.ver)]
theorem qR_refl (a : VRow) : q_VRow a a = true := by simp [q_VRow, leq_refl qV_refl]
theorem qT_comm (a b : VTable) : q_VTable a b = q_VTable b a := by
  unfold q_VTable
  rw [leq_comm q_Col_comm a.first, leq_comm qH_comm a.changes, leq_comm qR_comm a.rows, BEq.comm (a := a.next)]
theorem qT_refl (a : VTable) : q_VTable a a = true := by
  unfold q_VTable
  rw [leq_refl q_Col_refl, leq_refl qH_refl, leq_refl qR_refl]; simp
theorem c_FnTableBent {bs : List Int} (hl : bs.length ≤ maxLen) (hb : ∀ x ∈ bs, 0 ≤ x ∧ x < 256) : CallsV Tryz.prog 5 [bytesI bs] [] (pureQ (bS true)) := by
  refine pure_walk hTb Tryz.func5 rfl rfl Tryz.ntmps5 (by simp) ?_
  (conv => whnf); repeat' (first
    | (refine And.intro ?_ ?_ <;> ((try intro h) <;> (try simp only [Bool.not_true, Bool.not_false, decide_eq_true_eq, decide_eq_false_iff_not, Int.not_lt, Int.not_le, gt_iff_lt, ge_iff_le] at h) <;> first | exact absurd h Bool.false_ne_true | exact absurd h.symm Bool.false_ne_true | conv => whnf))
    | (refine VL.drawS hTb hMix (by kernel_rfl) (by kernel_rfl) (by kernel_rfl) ?_; conv => whnf)
    | (refine Need.mk ?_; kernel_rfl) | (refine Need.mk ⟨rfl, ?_⟩; decide)
    | (refine VR.rel hTb rfl rfl (o_relN (c_DrawTableSame hl hb) false [] (fun _ _ => ⟨by simp, fun h => by cases h⟩) rfl rfl rfl rfl rfl ⟨rfl, rfl, rfl, rfl⟩ rfl rfl) ?_; rintro ⟨t, u⟩ htu; (try simp only at htu); conv => whnf)
    | (refine DT.rel hTb rfl (o_relN (c_DrawTableSame hl hb) false [] (fun _ _ => ⟨by simp, fun h => by cases h⟩) rfl rfl rfl rfl rfl ⟨rfl, rfl, rfl, rfl⟩ rfl rfl) [] (by kernel_rfl) (by kernel_rfl) ?_; rintro ⟨t, u⟩ htu; (try simp only at htu); refine And.intro rfl (And.intro rfl ?_); conv => whnf)
    | (refine VR.rel hTb rfl rfl (o_relN (c_DrawTableOk hl hb) false [] (fun _ _ => ⟨by simp, fun h => by cases h⟩) rfl rfl rfl rfl rfl ⟨rfl, rfl, rfl, rfl⟩ rfl rfl) ?_; rintro p hp; (try simp only at hp); conv => whnf)
    | (refine DT.rel hTb rfl (o_relN (c_DrawTableOk hl hb) false [] (fun _ _ => ⟨by simp, fun h => by cases h⟩) rfl rfl rfl rfl rfl ⟨rfl, rfl, rfl, rfl⟩ rfl rfl) [] (by kernel_rfl) (by kernel_rfl) ?_; rintro p hp; (try simp only at hp); refine And.intro rfl (And.intro rfl ?_); conv => whnf)
    | (refine VR.rel hTb rfl rfl (o_relN (c_DrawTableNew hl hb) false [] (fun _ _ => ⟨by simp, fun h => by cases h⟩) rfl rfl rfl rfl rfl ⟨rfl, rfl, rfl, rfl⟩ rfl rfl) ?_; rintro cs hcs; (try simp only at hcs); conv => whnf)
    | (refine DT.rel hTb rfl (o_relN (c_DrawTableNew hl hb) false [] (fun _ _ => ⟨by simp, fun h => by cases h⟩) rfl rfl rfl rfl rfl ⟨rfl, rfl, rfl, rfl⟩ rfl rfl) [] (by kernel_rfl) (by kernel_rfl) ?_; rintro cs hcs; (try simp only at hcs); refine And.intro rfl (And.intro rfl ?_); conv => whnf))
  · rfl
  have ot := md_ok htu.1.md
  have ou := md_ok htu.2.md
  have op := md_ok hp.md
  have c1 := q_implTableSame t u ot
  have c2 := q_specTableSame t u ot
  have c3 := q_implTableSame u t ou
  rw [qT_comm u t] at c3
  have c4 := q_implTableSame p p op
  rw [qT_refl] at c4
  have c5 := c_implTableOk p hp.md
  have c6 := c_specTableOk p hp.md
  have c7 := CallsV.le (args' := [nilTab]) (c_implTableOk zTab dr_zero.md) ⟨⟨.inr ⟨7, rfl, rfl⟩, .inr ⟨10, rfl, rfl⟩, .inr ⟨3, rfl, rfl⟩, .inl rfl, trivial⟩, trivial⟩
  rw [show tabOk zTab = false from by decide] at c7
  generalize q_VTable t u = b1 at c1 c2 c3
  cases hk : tabOk p <;> rw [hk] at c5 c6 <;> cases b1 <;> (conv => whnf); repeat' (first
    | (refine absurd h ?_; (simp; done))
    | (refine And.intro ?_ ?_ <;> ((try intro h) <;> (try simp only [Bool.not_true, Bool.not_false, decide_eq_true_eq, decide_eq_false_iff_not, Int.not_lt, Int.not_le, gt_iff_lt, ge_iff_le] at h) <;> first | exact absurd h Bool.false_ne_true | exact absurd h.symm Bool.false_ne_true | conv => whnf))
    | (refine VL.drawS hTb hMix (by kernel_rfl) (by kernel_rfl) (by kernel_rfl) ?_; conv => whnf)
    | (refine Need.mk ?_; kernel_rfl) | (refine Need.mk ⟨rfl, ?_⟩; decide)
    | (refine VR.pure hTb rfl rfl (o_purN (c1) rfl rfl rfl ⟨rfl, rfl, rfl, rfl⟩ rfl) ?_; conv => whnf)
    | (refine DT.pure hTb rfl (o_purN (c1) rfl rfl rfl ⟨rfl, rfl, rfl, rfl⟩ rfl) ?_; conv => whnf)
    | (refine VR.pure hTb rfl rfl (o_purN (c2) rfl rfl rfl ⟨rfl, rfl, rfl, rfl⟩ rfl) ?_; conv => whnf)
    | (refine DT.pure hTb rfl (o_purN (c2) rfl rfl rfl ⟨rfl, rfl, rfl, rfl⟩ rfl) ?_; conv => whnf)
    | (refine VR.pure hTb rfl rfl (o_purN (c3) rfl rfl rfl ⟨rfl, rfl, rfl, rfl⟩ rfl) ?_; conv => whnf)
    | (refine DT.pure hTb rfl (o_purN (c3) rfl rfl rfl ⟨rfl, rfl, rfl, rfl⟩ rfl) ?_; conv => whnf)
    | (refine VR.pure hTb rfl rfl (o_purN (c4) rfl rfl rfl ⟨rfl, rfl, rfl, rfl⟩ rfl) ?_; conv => whnf)
    | (refine DT.pure hTb rfl (o_purN (c4) rfl rfl rfl ⟨rfl, rfl, rfl, rfl⟩ rfl) ?_; conv => whnf)
    | (refine VR.pure hTb rfl rfl (o_purN (c5) rfl rfl rfl ⟨rfl, rfl, rfl, rfl⟩ rfl) ?_; conv => whnf)
    | (refine DT.pure hTb rfl (o_purN (c5) rfl rfl rfl ⟨rfl, rfl, rfl, rfl⟩ rfl) ?_; conv => whnf)
    | (refine VR.pure hTb rfl rfl (o_purN (c6) rfl rfl rfl ⟨rfl, rfl, rfl, rfl⟩ rfl) ?_; conv => whnf)
    | (refine DT.pure hTb rfl (o_purN (c6) rfl rfl rfl ⟨rfl, rfl, rfl, rfl⟩ rfl) ?_; conv => whnf)
    | (refine VR.pure hTb rfl rfl (o_purN (c7) rfl rfl rfl ⟨rfl, rfl, rfl, rfl⟩ rfl) ?_; conv => whnf)
    | (refine DT.pure hTb rfl (o_purN (c7) rfl rfl rfl ⟨rfl, rfl, rfl, rfl⟩ rfl) ?_; conv => whnf))
  all_goals
    have hml : cs.length ≤ maxLen := by unfold maxLen; omega
    have hco := hcs.1.md.ok
    have d2 := c_specTabNew cs (by omega) hco
    have d5 := c_implShapeOk cs hml hco
    unfold tNewT at d2
    cases hk2 : shapeOk cs <;> rw [hk2] at d2 d5
  all_goals first
    | (rw [if_neg (by simp)] at d2
       have d1 := c_implTabNewNo cs hml hco hk2
       have d3 := CallsV.le (args' := [nilTab, .agg (encVTable zTab)]) (q_implTableSame zTab zTab (md_ok dr_zero.md)) ⟨⟨.inr ⟨7, rfl, rfl⟩, .inr ⟨10, rfl, rfl⟩, .inr ⟨3, rfl, rfl⟩, .inl rfl, trivial⟩, LeS.refl _, trivial⟩
       rw [qT_refl] at d3
       (conv => whnf); repeat' (first
    | (refine absurd h ?_; (simp; done))
    | (refine And.intro ?_ ?_ <;> ((try intro h) <;> (try simp only [Bool.not_true, Bool.not_false, decide_eq_true_eq, decide_eq_false_iff_not, Int.not_lt, Int.not_le, gt_iff_lt, ge_iff_le] at h) <;> first | exact absurd h Bool.false_ne_true | exact absurd h.symm Bool.false_ne_true | conv => whnf))
    | (refine VL.drawS hTb hMix (by kernel_rfl) (by kernel_rfl) (by kernel_rfl) ?_; conv => whnf)
    | (refine Need.mk ?_; kernel_rfl) | (refine Need.mk ⟨rfl, ?_⟩; decide)
    | (refine VR.pure hTb rfl rfl (o_purN (d1) rfl rfl rfl ⟨rfl, rfl, rfl, rfl⟩ rfl) ?_; conv => whnf)
    | (refine DT.pure hTb rfl (o_purN (d1) rfl rfl rfl ⟨rfl, rfl, rfl, rfl⟩ rfl) ?_; conv => whnf)
    | (refine VR.pure hTb rfl rfl (o_purF (d2) rfl rfl rfl ⟨rfl, rfl, rfl, rfl⟩ rfl) ?_; conv => whnf)
    | (refine DT.pure hTb rfl (o_purF (d2) rfl rfl rfl ⟨rfl, rfl, rfl, rfl⟩ rfl) ?_; conv => whnf)
    | (refine VR.pure hTb rfl rfl (o_purN (d3) rfl rfl rfl ⟨rfl, rfl, rfl, rfl⟩ rfl) ?_; conv => whnf)
    | (refine DT.pure hTb rfl (o_purN (d3) rfl rfl rfl ⟨rfl, rfl, rfl, rfl⟩ rfl) ?_; conv => whnf)
    | (refine VR.pure hTb rfl rfl (o_purN (c7) rfl rfl rfl ⟨rfl, rfl, rfl, rfl⟩ rfl) ?_; conv => whnf)
    | (refine DT.pure hTb rfl (o_purN (c7) rfl rfl rfl ⟨rfl, rfl, rfl, rfl⟩ rfl) ?_; conv => whnf)
    | (refine VR.pure hTb rfl rfl (o_purN (d5) rfl rfl rfl ⟨rfl, rfl, rfl, rfl⟩ rfl) ?_; conv => whnf)
    | (refine DT.pure hTb rfl (o_purN (d5) rfl rfl rfl ⟨rfl, rfl, rfl, rfl⟩ rfl) ?_; conv => whnf)
    | (refine VR.pure hTb rfl rfl (o_purN (c6) rfl rfl rfl ⟨rfl, rfl, rfl, rfl⟩ rfl) ?_; conv => whnf)
    | (refine DT.pure hTb rfl (o_purN (c6) rfl rfl rfl ⟨rfl, rfl, rfl, rfl⟩ rfl) ?_; conv => whnf)))
    | (rw [if_pos rfl] at d2
       have d1 := c_implTabNewYes cs (by omega) hco hk2
       have hTd : VTable.dr ⟨cs, [], [], 1⟩ := dr_nil hcs.1 hcs.2
       have d3 := CallsV.le (args' := [.agg [.imm 7 (cs.map encCol), nilG, nilG, .g (.int .i64 1)], .agg (encVTable ⟨cs, [], [], 1⟩)]) (q_implTableSame ⟨cs, [], [], 1⟩ ⟨cs, [], [], 1⟩ (md_ok hTd.md)) ⟨⟨.inl rfl, .inr ⟨10, rfl, rfl⟩, .inr ⟨3, rfl, rfl⟩, .inl rfl, trivial⟩, LeS.refl _, trivial⟩
       rw [qT_refl] at d3
       have d4 := CallsV.le (args' := [.agg [.imm 7 (cs.map encCol), nilG, nilG, .g (.int .i64 1)]]) (c_implTableOk ⟨cs, [], [], 1⟩ hTd.md) ⟨⟨.inl rfl, .inr ⟨10, rfl, rfl⟩, .inr ⟨3, rfl, rfl⟩, .inl rfl, trivial⟩, trivial⟩
       rw [tabOk_new, hk2] at d4
       (conv => whnf); repeat' (first
    | (refine absurd h ?_; (simp; done))
    | (refine VL.freeze 1228 rfl rfl ?_; conv => whnf; rw [fzC])
    | (refine And.intro ?_ ?_ <;> ((try intro h) <;> (try simp only [Bool.not_true, Bool.not_false, decide_eq_true_eq, decide_eq_false_iff_not, Int.not_lt, Int.not_le, gt_iff_lt, ge_iff_le] at h) <;> first | exact absurd h Bool.false_ne_true | exact absurd h.symm Bool.false_ne_true | conv => whnf))
    | (refine VL.drawS hTb hMix (by kernel_rfl) (by kernel_rfl) (by kernel_rfl) ?_; conv => whnf)
    | (refine Need.mk ?_; kernel_rfl) | (refine Need.mk ⟨rfl, ?_⟩; decide)
    | (refine VR.fun hTb rfl rfl (o_funN (d1) false [] (fun h => by cases h) (by simp) rfl rfl rfl rfl rfl ⟨rfl, rfl, rfl, rfl⟩ rfl rfl) ?_; conv => whnf)
    | (refine DT.fun hTb rfl (o_funN (d1) false [] (fun h => by cases h) (by simp) rfl rfl rfl rfl rfl ⟨rfl, rfl, rfl, rfl⟩ rfl rfl) rfl ?_; conv => whnf)
    | (refine VR.freeze hTb rfl 1228 rfl rfl ?_; conv => whnf; rw [fzC])
    | (refine VR.pure hTb rfl rfl (o_purF (d2) rfl rfl rfl ⟨rfl, rfl, rfl, rfl⟩ rfl) ?_; conv => whnf)
    | (refine DT.pure hTb rfl (o_purF (d2) rfl rfl rfl ⟨rfl, rfl, rfl, rfl⟩ rfl) ?_; conv => whnf)
    | (refine VR.pure hTb rfl rfl (o_purN (d3) rfl rfl rfl ⟨rfl, rfl, rfl, rfl⟩ rfl) ?_; conv => whnf)
    | (refine DT.pure hTb rfl (o_purN (d3) rfl rfl rfl ⟨rfl, rfl, rfl, rfl⟩ rfl) ?_; conv => whnf)
    | (refine VR.pure hTb rfl rfl (o_purN (d4) rfl rfl rfl ⟨rfl, rfl, rfl, rfl⟩ rfl) ?_; conv => whnf)
    | (refine DT.pure hTb rfl (o_purN (d4) rfl rfl rfl ⟨rfl, rfl, rfl, rfl⟩ rfl) ?_; conv => whnf)
    | (refine VR.pure hTb rfl rfl (o_purN (d5) rfl rfl rfl ⟨rfl, rfl, rfl, rfl⟩ rfl) ?_; conv => whnf)
    | (refine DT.pure hTb rfl (o_purN (d5) rfl rfl rfl ⟨rfl, rfl, rfl, rfl⟩ rfl) ?_; conv => whnf)
    | (refine VR.pure hTb rfl rfl (o_purN (c6) rfl rfl rfl ⟨rfl, rfl, rfl, rfl⟩ rfl) ?_; conv => whnf)
    | (refine DT.pure hTb rfl (o_purN (c6) rfl rfl rfl ⟨rfl, rfl, rfl, rfl⟩ rfl) ?_; conv => whnf)))
  all_goals first
    | rfl
    | skip
  all_goals
    have hr : 0 < p.rows.length := by
      rcases Nat.eq_zero_or_pos p.rows.length with e | e
      · rw [List.length_map, e] at h; exact absurd h (by decide)
      · exact e
    have hpr := hp.rl
    have hpc := hp.md.fc
    have hr0 := rowRZ (l := p.rows) (z := 0) hr
    have hw1 : IntKind.i64.wrap (((p.changes.map encChange).length : Int) + 1) = (p.changes.length : Int) + 1 := by rw [List.length_map, IntKind.wrap_i64]; omega
    have hw2 : IntKind.i64.wrap (((p.rows.map encVRow).length : Int) - 1) = ((p.rows.length - 1 : Nat) : Int) := by rw [List.length_map, IntKind.wrap_i64]; omega
    have hl0 : 0 ≤ IntKind.i64.wrap (((p.rows.map encVRow).length : Int) - 1) := by rw [hw2]; omega
    have hlr : (p.rows.map encVRow)[(IntKind.i64.wrap (((p.rows.map encVRow).length : Int) - 1)).toNat]? = some (encVRow (p.rows[p.rows.length - 1]'(by omega))) := by
      rw [hw2, Int.toNat_natCast, List.getElem?_map, List.getElem?_eq_getElem (by omega)]; rfl
    have m0 := hp.md.rm _ (List.getElem_mem hr)
    have cD := c_implTableOk ⟨p.first, p.changes, p.rows ++ [p.rows[0]], p.next⟩ ⟨hp.md.fc, hp.md.fm, hp.md.cm, by simp; omega, fun x hx => by rcases List.mem_append.1 hx with hx | hx; exact hp.md.rm x hx; simp only [List.mem_singleton] at hx; subst hx; exact m0⟩
    rw [bad_dup hr] at cD
    have cL := c_implTableOk ⟨p.first, p.changes, p.rows.set 0 ⟨p.rows[0].id, IntKind.i64.wrap (((p.changes.map encChange).length : Int) + 1), p.rows[0].vals⟩, p.next⟩ ⟨hp.md.fc, hp.md.fm, hp.md.cm, by simp only [List.length_set]; omega, fun x hx => by rcases List.mem_or_eq_of_mem_set hx with hx | rfl; exact hp.md.rm x hx; exact m0⟩
    rw [show tabOk ⟨p.first, p.changes, p.rows.set 0 ⟨p.rows[0].id, IntKind.i64.wrap (((p.changes.map encChange).length : Int) + 1), p.rows[0].vals⟩, p.next⟩ = false by rw [hw1]; exact bad_ver hr _ _] at cL
    have cF := c_implTableOk ⟨p.first, p.changes, p.rows, (p.rows[p.rows.length - 1]'(by omega)).id⟩ ⟨hp.md.fc, hp.md.fm, hp.md.cm, hp.md.r, hp.md.rm⟩
    rw [bad_next hr] at cF
    have sD := q_implTableSame p ⟨p.first, p.changes, p.rows ++ [p.rows[0]], p.next⟩ op
    rw [dif_rows] at sD
    have sF := q_implTableSame p ⟨p.first, p.changes, p.rows, (p.rows[p.rows.length - 1]'(by omega)).id⟩ op
    rw [dif_next (last_lt hk hr)] at sF
    (conv => whnf); repeat' (first
    | (refine absurd h ?_; (simp; done))
    | (refine And.intro ?_ ?_ <;> ((try intro h) <;> (try simp only [Bool.not_true, Bool.not_false, decide_eq_true_eq, decide_eq_false_iff_not, Int.not_lt, Int.not_le, gt_iff_lt, ge_iff_le] at h) <;> first | exact absurd h Bool.false_ne_true | exact absurd h.symm Bool.false_ne_true | conv => whnf))
    | (refine VL.drawS hTb hMix (by kernel_rfl) (by kernel_rfl) (by kernel_rfl) ?_; conv => whnf)
    | (refine Need.mk ?_; kernel_rfl) | (refine Need.mk ⟨rfl, ?_⟩; decide)
    | (refine VR.opk hTb rfl rfl (o_app0 (f := encVRow) (m := p.rows) (q := 183) hTb rfl rfl rfl rfl rfl rfl rfl rfl rfl rfl (by omega) (by show _ * 40 ≤ _; omega) (by unfold maxLen; omega)) ?_; conv => whnf)
    | (refine DT.opk hTb rfl (o_app0 (f := encVRow) (m := p.rows) (q := 183) hTb rfl rfl rfl rfl rfl rfl rfl rfl rfl rfl (by omega) (by show _ * 40 ≤ _; omega) (by unfold maxLen; omega)) ?_; conv => whnf)
    | (refine VR.op hTb rfl rfl (o_index_imm hTb rfl rfl rfl rfl rfl rfl rfl (by omega) (hr0)) rfl ?_; conv => whnf)
    | (refine DT.op hTb rfl (o_index_imm hTb rfl rfl rfl rfl rfl rfl rfl (by omega) (hr0)) rfl ?_; conv => whnf)
    | (refine VR.opk hTb rfl rfl (o_app1 (q := 189) (a := p.rows[0]) hTb rfl rfl rfl rfl rfl rfl rfl rfl rfl rfl rfl rfl (by omega) (by show _ * 40 ≤ _; omega) (by unfold maxLen; omega)) ?_; conv => whnf)
    | (refine DT.opk hTb rfl (o_app1 (q := 189) (a := p.rows[0]) hTb rfl rfl rfl rfl rfl rfl rfl rfl rfl rfl rfl rfl (by omega) (by show _ * 40 ≤ _; omega) (by unfold maxLen; omega)) ?_; conv => whnf)
    | (refine VR.opk hTb rfl rfl (o_app0 (f := encVRow) (m := p.rows) (q := 195) hTb rfl rfl rfl rfl rfl rfl rfl rfl rfl rfl (by omega) (by show _ * 40 ≤ _; omega) (by unfold maxLen; omega)) ?_; conv => whnf)
    | (refine DT.opk hTb rfl (o_app0 (f := encVRow) (m := p.rows) (q := 195) hTb rfl rfl rfl rfl rfl rfl rfl rfl rfl rfl (by omega) (by show _ * 40 ≤ _; omega) (by unfold maxLen; omega)) ?_; conv => whnf)
    | (refine Need.mk ?_; exact ⟨rfl, by omega, by omega⟩)
    | (refine VR.op hTb rfl rfl (o_storeM hTb rfl rfl rfl rfl rfl (List.getElem?_eq_getElem (show 0 + 0 < p.rows.length by omega)) rfl rfl rfl ⟨rfl, by decide⟩ (c' := ⟨_, _, _⟩) rfl) rfl ?_; conv => whnf)
    | (refine DT.op hTb rfl (o_storeM hTb rfl rfl rfl rfl rfl (List.getElem?_eq_getElem (show 0 + 0 < p.rows.length by omega)) rfl rfl rfl ⟨rfl, by decide⟩ (c' := ⟨_, _, _⟩) rfl) rfl ?_; conv => whnf)
    | (refine VR.op hTb rfl rfl (o_index_imm hTb rfl rfl rfl rfl rfl rfl rfl hl0 hlr) rfl ?_; conv => whnf)
    | (refine VR.pure hTb rfl rfl (o_purN cD rfl rfl rfl ⟨rfl, rfl, rfl, rfl⟩ ?_) ?_; exact congrArg (fun s => [s]) (brwTDn ⟨p.first, p.changes, p.rows ++ [p.rows[0]], p.next⟩ (by simp)); conv => whnf)
    | (refine VR.pure hTb rfl rfl (o_purN cL rfl rfl rfl ⟨rfl, rfl, rfl, rfl⟩ ?_) ?_; exact congrArg (fun s => [s]) (brwTDn ⟨p.first, p.changes, p.rows.set 0 ⟨p.rows[0].id, IntKind.i64.wrap (((p.changes.map encChange).length : Int) + 1), p.rows[0].vals⟩, p.next⟩ (by simp)); conv => whnf)
    | (refine VR.pure hTb rfl rfl (o_purN (cF) rfl rfl rfl ⟨rfl, rfl, rfl, rfl⟩ rfl) ?_; conv => whnf)
    | (refine DT.pure hTb rfl (o_purN (cF) rfl rfl rfl ⟨rfl, rfl, rfl, rfl⟩ rfl) ?_; conv => whnf)
    | (refine VR.pure hTb rfl rfl (o_purN (sF) rfl rfl rfl ⟨rfl, rfl, rfl, rfl⟩ rfl) ?_; conv => whnf)
    | (refine DT.pure hTb rfl (o_purN (sF) rfl rfl rfl ⟨rfl, rfl, rfl, rfl⟩ rfl) ?_; conv => whnf)
    | (refine VR.pure hTb rfl rfl (o_purN sD rfl rfl rfl ⟨rfl, rfl, rfl, rfl⟩ ?_) ?_; exact congrArg (fun s => [_, s]) (brwTDn ⟨p.first, p.changes, p.rows ++ [p.rows[0]], p.next⟩ (by simp)); conv => whnf))
  all_goals first
    | rfl
    | trace_state
end Go.Vl
