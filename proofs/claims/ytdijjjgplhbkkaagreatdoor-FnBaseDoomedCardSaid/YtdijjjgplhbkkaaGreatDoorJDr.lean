/- Laws: what goes with what goes; fewer links. Law: cascades reach the rows that refer, and no others. -/
import Derived.Test.YtdijjjgplhbkkaaGreatDoorJDa
import Derived.Test.YtdijjjgplhbkkaaGreatDoorJDq
import Derived.Test.YtdijjjgplhbkkaaGreatDoorJDl
import Derived.Test.YtdijjjgplhbkkaaGreatDoorJDi
import Derived.Test.YtdijjjgplhbkkaaGreatDoorJDb
set_option linter.unusedSimpArgs false
set_option linter.unusedVariables false
set_option linter.unnecessarySimpa false
set_option maxRecDepth 100000
set_option maxHeartbeats 16000000

namespace Go.Vl
open Go Go.RowKit Go.Proofs
theorem c_wpIn (K : List VRef) (nm : ByteArray) (id : Int) (hl : K.length ≤ maxLen) : CallsV Tryz.prog 43 [vrefsI K, strS nm, iS id] [] (pureQ (bS (inL K ⟨nm, id⟩))) := by
  rw [inL_any]
  refine pure_walk hTb Tryz.func43 rfl rfl Tryz.ntmps43 (by simp) ?_
  (conv => whnf)
  refine VL.loopI hTb (fun i => i ≤ K.length ∧ K.any (isRef nm id) = (K.drop i).any (isRef nm id)) (fun i => ⟨[(0, vrefsI K), (1, strS nm), (2, iS id), (7, iS i)], [], []⟩) (fun i => K.length - i) 0 ⟨Nat.zero_le _, rfl⟩
    (wk_to [] rfl rfl rfl ⟨rfl, rfl, rfl, rfl, trivial⟩ trivial) (fun i hi => ?_)
  obtain ⟨hi, hd⟩ := hi
  (conv => whnf)
  refine And.intro (fun h2 => ?_) (fun h2 => ?_)
  · have hlt : i < K.length := by simpa using h2
    have hrow := rowVRef hlt
    have hs : (K.drop i).any (isRef nm id) = (isRef nm id K[i] || (K.drop (i + 1)).any (isRef nm id)) := by rw [List.drop_eq_getElem_cons hlt, List.any_cons]
    generalize K[i] = k at hrow hs
    (conv => whnf); repeat' ((first | (refine And.intro ?_ ?_ <;> ((try intro h) <;> (try simp only [gS] at h) <;> first | exact absurd h gF | exact absurd h.symm gF | conv => whnf)) | (refine VR.op hTb rfl rfl (o_index_imm hTb rfl rfl rfl rfl rfl rfl rfl (by omega) (hrow)) rfl ?_)) <;> conv => whnf)
    all_goals first
      | (rw [hd, hs]
         unfold isRef
         rw [‹(k.name.toList == nm.toList) = true›, ‹(k.id == id) = true›]; rfl)
      | (refine ⟨i + 1, ⟨hlt, ?_⟩, by omega, wk_to [] rfl rfl rfl ⟨rfl, rfl, rfl, congrArg (fun x => Slot.one (.g (.int .i64 x))) (wrap64' (by omega)), trivial⟩ trivial⟩
         rw [hd, hs]
         have e : isRef nm id k = false := by
           unfold isRef
           first
             | (rw [‹(k.name.toList == nm.toList) = false›]; rfl)
             | (rw [‹(k.id == id) = false›, Bool.and_false])
         rw [e, Bool.false_or])
  · (conv => whnf)
    rw [hd, List.drop_of_length_le (by simp at h2; omega)]; rfl
theorem DmR.len {b : VBase} {s : VRef} {R : List VRef} (h : DmR b s R) : R.length ≤ 24 := by
  rcases h with ⟨h1, _, K, _, rfl⟩ | ⟨_, rfl⟩
  · have := flatS_len (baseOk_iff.1 h1)
    unfold goL
    rw [List.length_map]
    exact Nat.le_trans (List.length_filter_le _ _) this
  · exact Nat.zero_le _
theorem c_FnBaseDoomedOf {bs : List Int} (hl : bs.length ≤ maxLen) (hb : ∀ x ∈ bs, 0 ≤ x ∧ x < 256) : CallsV Tryz.prog 10 [bytesI bs] [] (pureQ (bS true)) := by
  refine pure_walk hTb Tryz.func10 rfl rfl Tryz.ntmps10 (by simp) ?_
  (conv => whnf); repeat' ((first | (refine And.intro ?_ ?_ <;> ((try intro h) <;> (try simp only [gS] at h) <;> first | exact absurd h gF | exact absurd h.symm gF | conv => whnf)) | (refine VR.rel hTb rfl rfl (o_relN (c_DrawBaseDoomed hl hb) false [] (fun _ _ => ⟨by simp, gN⟩) rfl rfl rfl rfl rfl gQ rfl rfl) ?_; rintro ⟨b, nm, id⟩ hm; (try simp only at hm)) | (refine VR.rel hTb rfl rfl (o_relN (c_implBaseDoomed b ⟨nm, id⟩ hm) false [] (fun _ _ => ⟨by simp, gN⟩) rfl rfl rfl rfl rfl gQ rfl rfl) ?_; rintro R hR; (try simp only at hR))) <;> conv => whnf)
  · rfl
  have c2 : CallsV _ _ _ _ (funQ (.one (.own 0 0 R.length)) [] [.arr 75 2 (R.map encVRef)]) := (c_specBaseDoomed b ⟨nm, id⟩ hm).mono (fun s o n ⟨y, hy, e1, e2, e3⟩ => by have e := hy.eq hR; subst e; exact ⟨e1, e2, e3⟩)
  have hl24 := hR.len
  have cW := fun nm id => c_wpIn R nm id (by unfold maxLen; omega)
  (conv => whnf); repeat' ((first | (refine absurd h ?_; (simp; done)) | (refine VL.freeze 1112 rfl rfl ?_; conv => whnf; rw [fzRf]) | (refine And.intro ?_ ?_ <;> ((try intro h) <;> (try simp only [gS] at h) <;> first | exact absurd h gF | exact absurd h.symm gF | conv => whnf)) | (refine VR.freeze hTb rfl 1088 rfl rfl ?_; conv => whnf; rw [fzRf]) | (refine VR.fun hTb rfl rfl (o_funN (c2) false [] gN (by simp) rfl rfl rfl rfl rfl gQ rfl rfl) ?_)) <;> conv => whnf)
  refine VL.loopI hTb (fun i => i ≤ R.length) (fun i => ⟨[(3, .one (.ptr 103 0)), (6, vrefsI R), (7, iS i)], [(103, .box (encVBase b))], []⟩) (fun i => R.length - i) 0 (Nat.zero_le _)
    (wk_to [(103, 103)] rfl rfl rfl ⟨rfl, rfl, rfl, trivial⟩ ⟨rfl, ⟨_, rfl, rfl⟩, trivial⟩) (fun i hi => ?_)
  clear c2
  (conv => whnf)
  refine And.intro (fun h2 => ?_) (fun h2 => ?_)
  · have hlt : i < R.length := by simpa using h2
    have hrf := rowVRef hlt
    have hri := List.getElem_mem hlt
    obtain ⟨hB, _, hmem⟩ := hR.pos (by omega)
    generalize R[i] = ri at hrf hri
    obtain ⟨rn, rid⟩ := ri
    (conv => whnf); repeat' ((first | (refine VL.freeze 1192 rfl rfl ?_; conv => whnf; rw [fzRf]) | (refine And.intro ?_ ?_ <;> ((try intro h) <;> (try simp only [gS] at h) <;> first | exact absurd h gF | exact absurd h.symm gF | conv => whnf)) | (refine VL.drawS hTb hMix (by kernel_rfl) (by kernel_rfl) (by kernel_rfl) ?_) | (refine Need.mk ?_; kernel_rfl) | (refine DT.op hTb rfl (o_index_imm hTb rfl rfl rfl rfl rfl rfl rfl (by omega) (hrf)) rfl ?_) | (refine DT.rel hTb rfl (o_relN (c_implBaseDoomed b ⟨rn, rid⟩ hm) false [] (fun _ _ => ⟨by simp, gN⟩) rfl rfl rfl rfl rfl gQ rfl rfl) [1192] (by kernel_rfl) (by kernel_rfl) ?_; rintro M hM; refine And.intro rfl (And.intro rfl ?_))) <;> conv => whnf)
    have hMl := hM.len
    obtain ⟨hx, hsub⟩ := dm_of hmem hB hri hM
    have cX := c_wpIn M rn rid (by unfold maxLen; omega)
    rw [inL_iff.2 hx] at cX
    refine VL.loopI hTb (fun j => j ≤ M.length) (fun j => ⟨[(3, .one (.ptr 103 0)), (6, vrefsI R), (7, iS i), (8, vrefsI M), (9, iS j)], [(103, .box (encVBase b))], []⟩) (fun j => M.length - j) 0 (Nat.zero_le _)
      (wk_to [(103, 103)] rfl rfl rfl ⟨rfl, rfl, rfl, rfl, rfl, trivial⟩ ⟨rfl, ⟨_, rfl, rfl⟩, trivial⟩) (fun j hj => ?_)
    (conv => whnf)
    refine And.intro (fun h3 => ?_) (fun h3 => ?_)
    · have hjl : j < M.length := by simpa using h3
      have hmf := rowVRef hjl
      have hmj := hsub _ (List.getElem_mem hjl)
      generalize M[j] = mj at hmf hmj
      obtain ⟨mn, mid⟩ := mj
      have cW := cW mn mid
      rw [inL_iff.2 hmj] at cW
      (conv => whnf); repeat' ((first | (refine And.intro ?_ ?_ <;> ((try intro h) <;> (try simp only [gS] at h) <;> first | exact absurd h gF | exact absurd h.symm gF | conv => whnf)) | (refine VL.drawS hTb hMix (by kernel_rfl) (by kernel_rfl) (by kernel_rfl) ?_) | (refine Need.mk ?_; kernel_rfl) | (refine DT.op hTb rfl (o_index_imm hTb rfl rfl rfl rfl rfl rfl rfl (by omega) (hmf)) rfl ?_) | (refine DT.pure hTb rfl (o_purN (cW) rfl rfl rfl gQ rfl) ?_)) <;> conv => whnf)
      exact ⟨j + 1, hjl, by omega, wk_to [(103, 103)] rfl rfl rfl ⟨rfl, rfl, rfl, rfl, gW (by unfold maxLen; omega), trivial⟩ ⟨rfl, ⟨_, rfl, rfl⟩, trivial⟩⟩
    · (conv => whnf); repeat' ((first | (refine And.intro ?_ ?_ <;> ((try intro h) <;> (try simp only [gS] at h) <;> first | exact absurd h gF | exact absurd h.symm gF | conv => whnf)) | (refine VL.drawS hTb hMix (by kernel_rfl) (by kernel_rfl) (by kernel_rfl) ?_) | (refine Need.mk ?_; kernel_rfl) | (refine DT.op hTb rfl (o_index_imm hTb rfl rfl rfl rfl rfl rfl rfl (by omega) (hrf)) rfl ?_) | (refine DT.pure hTb rfl (o_purN (cX) rfl rfl rfl gQ rfl) ?_)) <;> conv => whnf)
      exact ⟨i + 1, hlt, by omega, wk_to [(103, 103)] rfl rfl rfl ⟨rfl, rfl, gW (by unfold maxLen; omega), trivial⟩ ⟨rfl, ⟨_, rfl, rfl⟩, trivial⟩⟩
  · (conv => whnf)
    rfl
theorem c_FnBaseLess {bs : List Int} (hl : bs.length ≤ maxLen) (hb : ∀ x ∈ bs, 0 ≤ x ∧ x < 256) : CallsV Tryz.prog 11 [bytesI bs] [] (pureQ (bS true)) := by
  refine pure_walk hTb Tryz.func11 rfl rfl Tryz.ntmps11 (by simp) ?_
  (conv => whnf); repeat' ((first | (refine And.intro ?_ ?_ <;> ((try intro h) <;> (try simp only [gS] at h) <;> first | exact absurd h gF | exact absurd h.symm gF | conv => whnf)) | (refine VR.rel hTb rfl rfl (o_relN (c_DrawBaseDoomed hl hb) false [] (fun _ _ => ⟨by simp, gN⟩) rfl rfl rfl rfl rfl gQ rfl rfl) ?_; rintro ⟨b, nm, id⟩ hm; (try simp only at hm)) | (refine VR.rel hTb rfl rfl (o_relN (c_implBaseDoomed b ⟨nm, id⟩ hm) false [] (fun _ _ => ⟨by simp, gN⟩) rfl rfl rfl rfl rfl gQ rfl rfl) ?_; rintro R hR; (try simp only at hR))) <;> conv => whnf)
  · rfl
  have c2 : CallsV _ _ _ _ (funQ (.one (.own 0 0 R.length)) [] [.arr 75 2 (R.map encVRef)]) := (c_specBaseDoomed b ⟨nm, id⟩ hm).mono (fun s o n ⟨y, hy, e1, e2, e3⟩ => by have e := hy.eq hR; subst e; exact ⟨e1, e2, e3⟩)
  have hl24 := hR.len
  have cW := fun nm id => c_wpIn R nm id (by unfold maxLen; omega)
  obtain ⟨tb, lks⟩ := b
  cases lks with
  | nil =>
    (conv => whnf); repeat' ((first | (refine absurd h ?_; (simp; done)) | (refine And.intro ?_ ?_ <;> ((try intro h) <;> (try simp only [gS] at h) <;> first | exact absurd h gF | exact absurd h.symm gF | conv => whnf)) | (refine VR.fun hTb rfl rfl (o_funN (c2) false [] gN (by simp) rfl rfl rfl rfl rfl gQ rfl rfl) ?_)) <;> conv => whnf)
    all_goals first
      | rfl
      | (simp [bS]; done)
  | cons l ls =>
    have hm2 : VBase.md ⟨tb, ls⟩ := ⟨hm.tl, hm.tm, by have := hm.ll; simp only [List.length_cons] at this; simp only; omega, fun x hx => hm.lm x (List.mem_cons_of_mem _ hx)⟩
    (conv => whnf); repeat' ((first | (refine absurd h ?_; (simp; done)) | (refine VL.freeze 1088 rfl rfl ?_; conv => whnf; rw [fzRf]) | (refine VL.freeze 1232 rfl rfl ?_; conv => whnf; rw [fzRf]) | (refine And.intro ?_ ?_ <;> ((try intro h) <;> (try simp only [gS] at h) <;> first | exact absurd h gF | exact absurd h.symm gF | conv => whnf)) | (refine VR.fun hTb rfl rfl (o_funN (c2) false [] gN (by simp) rfl rfl rfl rfl rfl gQ rfl rfl) ?_) | (refine VR.op hTb rfl rfl (o_slice_imm (n1 := 1) (n2 := ((l :: ls).map encVLink).length) (rows' := ls.map encVLink) hTb rfl rfl rfl rfl rfl rfl (bnd_some rfl) bnd_none (by simp) (Nat.le_refl _) (by show (ls.map encVLink).take _ = _; exact List.take_of_length_le (by simp))) rfl ?_) | (refine VR.rel hTb rfl rfl (o_relN (c_implBaseDoomed ⟨tb, ls⟩ ⟨nm, id⟩ hm2) false [] (fun _ _ => ⟨by simp, gN⟩) rfl rfl rfl rfl rfl gQ rfl rfl) ?_; rintro F hF; (try simp only at hF))) <;> conv => whnf)
    all_goals first
      | (simp [bS]; done)
      | skip
    have h0 : 0 < R.length := by
      have q := ‹((R.length : Int) == 0) = false›
      rcases Nat.eq_zero_or_pos R.length with e | e
      · rw [e] at q; exact absurd q (by decide)
      · exact e
    obtain ⟨hk, hF0, hsub⟩ := less_few hR h0 hF
    have hFl := hF.len
    have cB := c_implBaseOk ⟨tb, ls⟩ hm2
    rw [hk] at cB
    refine VL.loopI hTb (fun i => i ≤ F.length) (fun i => ⟨[(6, vrefsI R), (7, .one (.ptr 107 0)), (8, vrefsI F), (9, iS i)], [(107, .box (encVBase ⟨tb, ls⟩))], []⟩) (fun i => F.length - i) 0 (Nat.zero_le _)
      (wk_to [(107, 107)] rfl rfl rfl ⟨rfl, rfl, rfl, rfl, trivial⟩ ⟨rfl, ⟨_, rfl, rfl⟩, trivial⟩) (fun i hi => ?_)
    clear c2
    (conv => whnf)
    refine And.intro (fun h2 => ?_) (fun h2 => ?_)
    · have hlt : i < F.length := by simpa using h2
      have hff := rowVRef hlt
      have hfi := hsub _ (List.getElem_mem hlt)
      generalize F[i] = fi at hff hfi
      obtain ⟨fn, fid⟩ := fi
      have cW := cW fn fid
      rw [inL_iff.2 hfi] at cW
      (conv => whnf); repeat' ((first | (refine And.intro ?_ ?_ <;> ((try intro h) <;> (try simp only [gS] at h) <;> first | exact absurd h gF | exact absurd h.symm gF | conv => whnf)) | (refine VL.drawS hTb hMix (by kernel_rfl) (by kernel_rfl) (by kernel_rfl) ?_) | (refine Need.mk ?_; kernel_rfl) | (refine DT.op hTb rfl (o_index_imm hTb rfl rfl rfl rfl rfl rfl rfl (by omega) (hff)) rfl ?_) | (refine DT.pure hTb rfl (o_purN (cW) rfl rfl rfl gQ rfl) ?_)) <;> conv => whnf)
      exact ⟨i + 1, hlt, by omega, wk_to [(107, 107)] rfl rfl rfl ⟨rfl, rfl, rfl, gW (by unfold maxLen; omega), trivial⟩ ⟨rfl, ⟨_, rfl, rfl⟩, trivial⟩⟩
    · (conv => whnf); repeat' ((first | (exact absurd h (by simp only [List.length_map]; omega)) | (refine And.intro ?_ ?_ <;> ((try intro h) <;> (try simp only [gS] at h) <;> first | exact absurd h gF | exact absurd h.symm gF | conv => whnf)) | (refine VR.pure hTb rfl rfl (o_purN (cB) rfl rfl rfl gQ rfl) ?_)) <;> conv => whnf)
      all_goals first
        | rfl
theorem tSp_yes {t : VTable} (h : tabOk t = true) : tSp t = tL t := by unfold tSp; rw [if_pos h]
theorem tRw_at {t : VTable} (h : tabOk t = true) {r : VRow} (hr : r ∈ t.rows) : tRw t r.id = (tNow t r, true) := by
  obtain ⟨h1, h2⟩ := tAt_mem h hr
  unfold tRw
  rw [if_pos ⟨h, h1⟩, h2]
theorem c_implTableShapeI (t : VTable) (ht : t.md) : CallsV Tryz.prog 13 [.agg (encVTable t)] [] (pureQ (colsI (tSp t))) := (c_implTableShape t ht).pure (by
  show Slot.one (.imm 7 ((((tSp t).map encCol).drop 0).take (tSp t).length)) = _
  rw [fzC]; rfl)
theorem link_at {b : VBase} (hB : BOkB b) {t : VTab} (ht : t ∈ b.tabs) {l : VLink} (hl : l ∈ b.links) (e : l.src = t.name) : shapeAt (tSp t.table) l.col = lkAt b l ∧ 0 ≤ lkAt b l ∧ ∀ r ∈ t.table.rows, lkAt b l < (tNow t.table r).length ∧ lkV b l r = (tNow t.table r).getD (lkAt b l).toNat zVal := by
  have hT := tabsOk_of hB.tb t ht
  have hto := (hB.tabName ht).1
  have hf := fitB_iff.1 (hB.lnk hl)
  have hz := hf.2.2.2.1
  have e2 : tabOf b l.src = t.table := by rw [e]; exact hto
  have hz2 : 0 ≤ nameAt (tL t.table) l.col := by rw [← e2]; exact hz
  have hne : tL t.table ≠ [] := fun e3 => by
    rw [e3] at hz2
    obtain ⟨j, hj, _⟩ := nameAt_some (Int.not_lt.2 hz2)
    simp at hj
  have hS := tOk_shape hT hne
  refine ⟨by unfold shapeAt lkAt; rw [tSp_yes hT, if_pos hS, e2], hz, fun r hr => ?_⟩
  obtain ⟨i, hi, rfl⟩ := List.mem_iff_getElem.1 hr
  have h2 := (tNow_go (tabOk_iff.1 hT).sh (rowFacts hT hi).2).2
  have h3 := (nameAt_bd (tL t.table) l.col).1
  refine ⟨by unfold lkAt; rw [e2]; omega, by unfold lkV; rw [e2]⟩
theorem c_FnBaseDoomed {bs : List Int} (hl : bs.length ≤ maxLen) (hb : ∀ x ∈ bs, 0 ≤ x ∧ x < 256) : CallsV Tryz.prog 8 [bytesI bs] [] (pureQ (bS true)) := by
  refine pure_walk hTb Tryz.func8 rfl rfl Tryz.ntmps8 (by simp) ?_
  (conv => whnf); repeat' ((first | (refine And.intro ?_ ?_ <;> ((try intro h) <;> (try simp only [gS] at h) <;> first | exact absurd h gF | exact absurd h.symm gF | conv => whnf)) | (refine VR.rel hTb rfl rfl (o_relN (c_DrawBaseDoomed hl hb) false [] (fun _ _ => ⟨by simp, gN⟩) rfl rfl rfl rfl rfl gQ rfl rfl) ?_; rintro ⟨b, nm, id⟩ hm; (try simp only at hm)) | (refine VR.rel hTb rfl rfl (o_relN (c_implBaseDoomed b ⟨nm, id⟩ hm) false [] (fun _ _ => ⟨by simp, gN⟩) rfl rfl rfl rfl rfl gQ rfl rfl) ?_; rintro R hR; (try simp only at hR))) <;> conv => whnf)
  · rfl
  have c2 : CallsV _ _ _ _ (funQ (.one (.own 0 0 R.length)) [] [.arr 75 2 (R.map encVRef)]) := (c_specBaseDoomed b ⟨nm, id⟩ hm).mono (fun s o n ⟨y, hy, e1, e2, e3⟩ => by have e := hy.eq hR; subst e; exact ⟨e1, e2, e3⟩)
  have hl24 := hR.len
  have cW := fun nm id => c_wpIn R nm id (by unfold maxLen; omega)
  (conv => whnf); repeat' ((first | (refine absurd h ?_; (simp; done)) | (refine VL.freeze 1136 rfl rfl ?_; conv => whnf; rw [fzRf]) | (refine And.intro ?_ ?_ <;> ((try intro h) <;> (try simp only [gS] at h) <;> first | exact absurd h gF | exact absurd h.symm gF | conv => whnf)) | (refine VR.freeze hTb rfl 1120 rfl rfl ?_; conv => whnf; rw [fzRf]) | (refine VR.fun hTb rfl rfl (o_funN (c2) false [] gN (by simp) rfl rfl rfl rfl rfl gQ rfl rfl) ?_)) <;> conv => whnf)
  refine VL.loopI hTb (fun i => i ≤ R.length) (fun i => ⟨[(3, .one (.ptr 103 0)), (4, strS nm), (5, iS id), (6, vrefsI R), (7, vrefsI R), (8, iS i)], [(103, .box (encVBase b))], []⟩) (fun i => R.length - i) 0 (Nat.zero_le _)
    (wk_to [(103, 103)] rfl rfl rfl ⟨rfl, rfl, rfl, rfl, rfl, rfl, trivial⟩ ⟨rfl, ⟨_, rfl, rfl⟩, trivial⟩) (fun i hi => ?_)
  clear c2
  (conv => whnf)
  refine And.intro (fun h2 => ?_) (fun h2 => ?_)
  · have hlt : i < R.length := by simpa using h2
    have hrf := rowVRef hlt
    generalize R[i] = ri at hrf
    obtain ⟨rn, rid⟩ := ri
    (conv => whnf); repeat' ((first | (refine absurd h ?_; (simp; done)) | (refine And.intro ?_ ?_ <;> ((try intro h) <;> (try simp only [gS] at h) <;> first | exact absurd h gF | exact absurd h.symm gF | conv => whnf)) | (refine VL.drawS hTb hMix (by kernel_rfl) (by kernel_rfl) (by kernel_rfl) ?_) | (refine Need.mk ?_; kernel_rfl) | (refine DT.op hTb rfl (o_index_imm hTb rfl rfl rfl rfl rfl rfl rfl (by omega) (hrf)) rfl ?_)) <;> conv => whnf)
    all_goals first
      | exact ⟨i + 1, hlt, by omega, wk_to [(103, 103)] rfl rfl rfl ⟨rfl, rfl, rfl, rfl, rfl, gW (by unfold maxLen; omega), trivial⟩ ⟨rfl, ⟨_, rfl, rfl⟩, trivial⟩⟩
  clear hi
  (conv => whnf); repeat' ((first | (refine And.intro ?_ ?_ <;> ((try intro h) <;> (try simp only [gS] at h) <;> first | exact absurd h gF | exact absurd h.symm gF | conv => whnf))) <;> conv => whnf)
  · rfl
  have h0 : 0 < R.length := by
    have q := ‹(((R.map encVRef).length : Int) == 0) = false›
    rcases Nat.eq_zero_or_pos R.length with e | e
    · rw [List.length_map, e] at q; exact absurd q (by decide)
    · exact e
  obtain ⟨hB, hH, hmem⟩ := hR.pos h0
  have htl := hB.t3
  have hll := hB.l4
  have hs : inL R ⟨nm, id⟩ = true := inL_iff.2 ((hmem _).2 ⟨.start, has_isRow hH⟩)
  have cE := cW nm id
  rw [hs] at cE
  refine VL.loopI hTb (fun i => i ≤ b.tabs.length) (fun i => ⟨[(3, .one (.ptr 103 0)), (4, strS nm), (5, iS id), (6, vrefsI R), (9, iS i)], [(103, .box (encVBase b))], []⟩) (fun i => b.tabs.length - i) 0 (Nat.zero_le _)
    (wk_to [(103, 103)] rfl rfl rfl ⟨rfl, rfl, rfl, rfl, rfl, trivial⟩ ⟨rfl, ⟨_, rfl, rfl⟩, trivial⟩) (fun i hi => ?_)
  (conv => whnf)
  refine And.intro (fun h3 => ?_) (fun h3 => ?_)
  · have hil : i < b.tabs.length := by simpa using h3
    have hrt := rowVTab hil
    have htm := List.getElem_mem hil
    have h8 := hB.rows8 htm
    have hTm := (hm.tm _ htm).2
    have hTk := tabsOk_of hB.tb _ htm
    have hgo := fun r hr => dm_goes hB hmem htm (r := r) hr
    have hlk := fun l hl e => link_at hB htm (l := l) hl e
    generalize b.tabs[i] = ti at hrt h8 hTm hTk hgo hlk
    obtain ⟨tn, T⟩ := ti
    simp only at h8 hTm hTk hgo hlk
    refine VL.loopI hTb (fun k => k ≤ T.rows.length) (fun k => ⟨[(3, .one (.ptr 103 0)), (4, strS nm), (5, iS id), (6, vrefsI R), (9, iS i), (10, iS k)], [(103, .box (encVBase b))], []⟩) (fun k => T.rows.length - k) 0 (Nat.zero_le _)
      (wk_to [(103, 103)] rfl rfl rfl ⟨rfl, rfl, rfl, rfl, rfl, rfl, trivial⟩ ⟨rfl, ⟨_, rfl, rfl⟩, trivial⟩) (fun k hk => ?_)
    (conv => whnf); repeat' ((first | (refine And.intro ?_ ?_ <;> ((try intro h) <;> (try simp only [gS] at h) <;> first | exact absurd h gF | exact absurd h.symm gF | conv => whnf)) | (refine VL.drawS hTb hMix (by kernel_rfl) (by kernel_rfl) (by kernel_rfl) ?_) | (refine VR.op hTb rfl rfl (o_index_imm hTb rfl rfl rfl rfl rfl rfl rfl (by omega) (hrt)) rfl ?_) | (refine DT.op hTb rfl (o_index_imm hTb rfl rfl rfl rfl rfl rfl rfl (by omega) (hrt)) rfl ?_)) <;> conv => whnf)
    · have hkt : k < T.rows.length := by simp only [List.length_map] at *; omega
      have hrw := rowVRow hkt
      have hrm := List.getElem_mem hkt
      have hgo := hgo _ hrm
      have cR := (c_implTableRow T T.rows[k].id hTm)
      rw [tRw_at hTk hrm] at cR
      have cS := c_implTableShapeI T hTm
      have cA := fun col => c_implShapeAt (tSp T) col (by have := tSp_len T; have := hTm.fc; unfold maxLen; omega) (tSp_md hTm).ok
      have hlk := fun l hl e => (⟨(hlk l hl e).1, (hlk l hl e).2.1, (hlk l hl e).2.2 _ hrm⟩ : shapeAt (tSp T) l.col = lkAt b l ∧ 0 ≤ lkAt b l ∧ lkAt b l < (tNow T T.rows[k]).length ∧ lkV b l T.rows[k] = (tNow T T.rows[k]).getD (lkAt b l).toNat zVal)
      have cG := cW tn T.rows[k].id
      rw [← hgo] at cG
      unfold goesB at cG
      generalize tNow T T.rows[k] = w at cR hlk
      generalize tSp T = L at cS cA hlk
      obtain ⟨f, hf⟩ : ∃ f : VLink → Bool, f = fun l => l.src.toList == tn.toList && (l.how == 2 && ((lkV b l T.rows[k]).k != 0 && inL R ⟨l.dst, (lkV b l T.rows[k]).n⟩)) := ⟨_, rfl⟩
      have hfs : ∀ l, f l = (l.src.toList == tn.toList && (l.how == 2 && ((lkV b l T.rows[k]).k != 0 && inL R ⟨l.dst, (lkV b l T.rows[k]).n⟩))) := by intro l; rw [hf]
      rw [← hf] at cG
      clear hf hgo
      obtain ⟨V, hV⟩ : ∃ V : VLink → Val, ∀ l, lkV b l T.rows[k] = V l := ⟨_, fun _ => rfl⟩
      simp only [hV] at hfs hlk
      clear hV
      generalize T.rows[k] = rk at hrw cR cG
      obtain ⟨rid, rv, rvs⟩ := rk
      simp only at cR cG
      obtain ⟨g0, hg0⟩ : ∃ g0 : Bool, (tn.toList == nm.toList && rid == id) = g0 := ⟨_, rfl⟩
      rw [hg0] at cG
      (conv => whnf); repeat' ((first | (refine VL.freeze 1416 rfl rfl ?_; conv => whnf; rw [fzV]) | (refine And.intro ?_ ?_ <;> ((try intro h) <;> (try simp only [gS] at h) <;> first | exact absurd h gF | exact absurd h.symm gF | conv => whnf)) | (refine VL.drawS hTb hMix (by kernel_rfl) (by kernel_rfl) (by kernel_rfl) ?_) | (refine Need.mk ?_; kernel_rfl) | (refine DT.op hTb rfl (o_index_imm hTb rfl rfl rfl rfl rfl rfl rfl (by omega) (hrt)) rfl ?_) | (refine DT.op hTb rfl (o_index_imm hTb rfl rfl rfl rfl rfl rfl rfl (by omega) (hrw)) rfl ?_) | (refine DT.fun hTb rfl (o_funN (cR) false [] gN (by simp) rfl rfl rfl rfl rfl gQ rfl rfl) rfl ?_)) <;> conv => whnf)
      all_goals
        refine VL.loopI hTb (fun j => j ≤ b.links.length) (fun j => ⟨[(3, .one (.ptr 103 0)), (4, strS nm), (5, iS id), (6, vrefsI R), (9, iS i), (10, iS k), (11, .one (.ptr 111 0)), (12, valsI w), (14, bS (g0 || (b.links.take j).any f)), (15, iS j)], [(103, .box (encVBase b)), (111, .box [.g (.string tn), .g (.int .i64 rid)])], []⟩) (fun j => b.links.length - j) 0 (Nat.zero_le _)
          (wk_to [(103, 103), (111, 111)] rfl rfl rfl ⟨rfl, rfl, rfl, rfl, rfl, rfl, rfl, rfl, (by
            rw [List.take_zero, List.any_nil, Bool.or_false, ← hg0]
            first
              | rfl
              | (rw [‹(tn.toList == nm.toList) = true›]; rfl)
              | (rw [‹(tn.toList == nm.toList) = false›]; rfl)), rfl, trivial⟩ ⟨rfl, ⟨_, rfl, rfl⟩, rfl, ⟨_, rfl, rfl⟩, trivial⟩) (fun j hj => ?_)
        clear hg0
        (conv => whnf)
        refine And.intro (fun h5 => ?_) (fun h5 => ?_)
        · have hjl : j < b.links.length := by simpa using h5
          have hrl := rowVLink hjl
          have hlm := List.getElem_mem hjl
          have hst : (g0 || (b.links.take (j + 1)).any f) = ((g0 || (b.links.take j).any f) || f b.links[j]) := by rw [List.take_succ_eq_append_getElem hjl, List.any_append, List.any_cons, List.any_nil, Bool.or_false, Bool.or_assoc]
          have hfl := hfs b.links[j]
          have hlk := hlk b.links[j] hlm
          generalize b.links[j] = lj at hrl hlm hst hfl hlk
          rw [hfl] at hst
          obtain ⟨l1, l2, l3, l4⟩ := lj
          simp only at hst hlk
          generalize (g0 || (b.links.take j).any f) = gj at hst ⊢
          by_cases hs1 : l1.toList = tn.toList
          · obtain ⟨k1, k2, k3, k4⟩ := hlk (tl_inj hs1)
            have cA := cA l2
            rw [k1] at cA
            generalize lkAt b ⟨l1, l2, l3, l4⟩ = z at cA k2 k3 k4
            have hvw := rowVZ k2 k3
            rw [← k4] at hvw
            generalize V ⟨l1, l2, l3, l4⟩ = v at hst hvw
            obtain ⟨vk, vn, vt⟩ := v
            simp only at hst
            have cI := cW l3 vn
            generalize inL R ⟨l3, vn⟩ = bi at cI hst
            cases gj <;> cases bi <;> (conv => whnf); repeat' ((first | (refine And.intro ?_ ?_ <;> ((try intro h) <;> (try simp only [gS] at h) <;> first | exact absurd h gF | exact absurd h.symm gF | conv => whnf)) | (refine VL.drawS hTb hMix (by kernel_rfl) (by kernel_rfl) (by kernel_rfl) ?_) | (refine Need.mk ?_; kernel_rfl) | (refine DT.op hTb rfl (o_index_imm hTb rfl rfl rfl rfl rfl rfl rfl (by omega) (hrt)) rfl ?_) | (refine VR.op hTb rfl rfl (o_index_imm hTb rfl rfl rfl rfl rfl rfl rfl (by omega) (hrl)) rfl ?_) | (refine DT.pure hTb rfl (o_purF (cS) rfl rfl rfl gQ rfl) ?_) | (refine DT.pure hTb rfl (o_purN (cA) rfl rfl rfl gQ rfl) ?_) | (refine DT.op hTb rfl (o_index_imm hTb rfl rfl rfl rfl rfl rfl rfl (by omega) (hvw)) rfl ?_) | (refine VR.pure hTb rfl rfl (o_purN (cI) rfl rfl rfl gQ rfl) ?_)) <;> conv => whnf)
            all_goals exact ⟨j + 1, hjl, by omega, wk_to [(103, 103), (111, 111)] rfl rfl rfl ⟨rfl, rfl, rfl, rfl, rfl, rfl, rfl, rfl, (by
              rw [hst]
              first
                | rfl
                | (rw [‹(l1.toList == tn.toList) = true›, ‹(l4 == 2) = true›, ‹(vk != 0) = true›]; rfl)
                | (rw [‹(l1.toList == tn.toList) = true›, ‹(l4 == 2) = true›, ‹(vk != 0) = false›]; rfl)
                | (rw [‹(l4 == 2) = false›, Bool.false_and, Bool.and_false]; rfl)
                | exact absurd hs1 (beq_eq_false_iff_ne.1 ‹(l1.toList == tn.toList) = false›)), gW (by unfold maxLen; omega), trivial⟩ ⟨rfl, ⟨_, rfl, rfl⟩, rfl, ⟨_, rfl, rfl⟩, trivial⟩⟩
          · have e1 : (l1.toList == tn.toList) = false := beq_eq_false_iff_ne.2 hs1
            rw [e1, Bool.false_and, Bool.or_false] at hst
            (conv => whnf); repeat' ((first | (rw [e1] at h; exact Bool.noConfusion h) | (refine And.intro ?_ ?_ <;> ((try intro h) <;> (try simp only [gS] at h) <;> first | exact absurd h gF | exact absurd h.symm gF | conv => whnf)) | (refine VR.op hTb rfl rfl (o_index_imm hTb rfl rfl rfl rfl rfl rfl rfl (by omega) (hrl)) rfl ?_)) <;> conv => whnf)
            all_goals exact ⟨j + 1, hjl, by omega, wk_to [(103, 103), (111, 111)] rfl rfl rfl ⟨rfl, rfl, rfl, rfl, rfl, rfl, rfl, rfl, (congrArg bS hst.symm), gW (by unfold maxLen; omega), trivial⟩ ⟨rfl, ⟨_, rfl, rfl⟩, rfl, ⟨_, rfl, rfl⟩, trivial⟩⟩
        · have hje : j = b.links.length := by simp at h5; omega
          subst hje
          rw [List.take_length]
          generalize (g0 || b.links.any f) = gg at cG ⊢
          cases gg <;> (conv => whnf); repeat' ((first | (refine And.intro ?_ ?_ <;> ((try intro h) <;> (try simp only [gS] at h) <;> first | exact absurd h gF | exact absurd h.symm gF | conv => whnf)) | (refine VR.pure hTb rfl rfl (o_purN (cG) rfl rfl rfl gQ rfl) ?_)) <;> conv => whnf)
          all_goals exact ⟨k + 1, hkt, by omega, wk_to [(103, 103)] rfl rfl rfl ⟨rfl, rfl, rfl, rfl, rfl, gW (by unfold maxLen; omega), trivial⟩ ⟨rfl, ⟨_, rfl, rfl⟩, trivial⟩⟩
    · exact ⟨i + 1, hil, by omega, wk_to [(103, 103)] rfl rfl rfl ⟨rfl, rfl, rfl, rfl, gW (by unfold maxLen; omega), trivial⟩ ⟨rfl, ⟨_, rfl, rfl⟩, trivial⟩⟩
  · (conv => whnf)
    (conv => whnf); repeat' ((first | (refine VR.pure hTb rfl rfl (o_purN (cE) rfl rfl rfl gQ rfl) ?_)) <;> conv => whnf)
    rfl
end Go.Vl
