/- Contracts: a row behind a change; columns behind several. Plain laws: columns behind a change. Laws: a row behind a change of columns. Contracts: a row behind several changes; plain laws of these. Contracts: what the reader draws: changes of columns. Contracts: the drawn cases of the laws on one change of columns. Laws: a change that is done once more, or undone. Draws of several changes; laws: changes cut in two, changes swapped. -/
import Derived.Test.YtdijjjgplhbkkaaGreatDoorJEa
import Derived.Test.YtdijjjgplhbkkaaGreatDoorJEd
import Derived.Test.YtdijjjgplhbkkaaGreatDoorJEb
set_option linter.unusedSimpArgs false
set_option linter.unusedVariables false
set_option linter.unnecessarySimpa false
set_option maxRecDepth 100000
set_option maxHeartbeats 16000000

namespace Go.Vl
open Go Go.RowKit Go.Proofs
theorem wk_freeze (n : Nat) {L : LS} (q : Nat) {E sz : Nat} {rows : List (List Leaf)} (hq : L.st.obj q = some (.arr E sz rows)) : Wk n L.st (L.freeze q sz rows).st := by
  rw [LS.st_freeze]; exact fun C B a w hn hR => ⟨B, hR.freeze hq⟩
theorem shDo_at {s : List Col} {c : Change} (h : (shDo s c).2 = true) : chAt s c s.length := by
  obtain ⟨_, L, h1, _⟩ := shDo_ok h
  intro hk
  unfold chDo at h1
  split at h1; cases h1
  split at h1
  · omega
  split at h1; cases h1
  rename_i hn
  rcases nameAt_spec s c.name with ⟨h4, _⟩ | ⟨j, hj, h4, _⟩
  · omega
  · exact ⟨j, hj, h4⟩
theorem sdo_sh {s : List Col} {c : Change} (h : (sdo s c).2 = true) : shapeOk s = true ∧ (shDo s c).2 = true := by
  unfold sdo at h
  split at h
  · exact ⟨‹_›, h⟩
  · cases h
def chGo : List Col → List Change → Option (List Col)
  | s, [] => some s
  | s, c :: cs => if (shDo s c).2 = true then chGo (shDo s c).1 cs else none
def allS : Option (List Col) → List Col × Bool
  | some L => (L, true)
  | none => ([], false)
def mdChs (l : List Change) : Prop := ∀ x ∈ l, x.md
theorem chGo_step {s : List Col} {l : List Change} {i : Nat} (h : i < l.length) : chGo s (l.drop i) = if (shDo s l[i]).2 = true then chGo (shDo s l[i]).1 (l.drop (i + 1)) else none := by
  rw [List.drop_eq_getElem_cons h, chGo]
theorem chGo_end {s : List Col} {l : List Change} {i : Nat} (h : l.length ≤ i) : chGo s (l.drop i) = some s := by
  rw [List.drop_of_length_le h, chGo]
theorem grShS (x : List Col × Bool) : GrS (shS x) ∧ (∀ ob, some ob ∈ ([] : List (Option Ob)) → GrO ob) ∧ ∀ ob ∈ shN x, GrO ob := by
  refine ⟨?_, fun _ h => by simp at h, fun ob h => by simp at h; subst h; exact grCols _⟩
  intro y hy l hl
  simp at hy
  rcases hy with rfl | rfl <;> simp at hl <;> subst hl <;> rfl
theorem c_changes (s : List Col) (list : List Change) (hl : s.length + list.length ≤ 1900000) (hs : mdCols s) (hc : mdChs list) : CallsV Tryz.prog 81 [colsI s, changesI list] [] (funQ (shS (allS (chGo s list))) [] (shN (allS (chGo s list)))) := by
  refine funF_walk hTb Tryz.func81 rfl rfl Tryz.ntmps81 (by simp) (by simp) ?_
  have c0 := c_cloneCol s (by omega)
  (conv => whnf); repeat' ((first | (refine VR.fun hTb rfl rfl (o_funN (c0) false [] gN (by simp) rfl rfl rfl rfl rfl gQ rfl rfl) ?_)) <;> conv => whnf)
  refine VL.loopI hTb (α := Nat × List Col) (fun x => x.1 ≤ list.length ∧ chGo s list = chGo x.2 (list.drop x.1) ∧ mdCols x.2 ∧ x.2.length ≤ s.length + x.1) (fun x => ⟨[(6, .one (.own 1048 0 x.2.length)), (13, changesI list), (14, iS ((list.map encChange).length : Nat)), (15, iS x.1)], [(1048, .arr 39 7 (x.2.map encCol))], []⟩) (fun x => list.length - x.1) (0, s) ⟨Nat.zero_le _, rfl, hs, by simp⟩
    (wk_to [(1048, 1048)] rfl rfl rfl ⟨rfl, rfl, rfl, rfl, trivial⟩ ⟨rfl, ⟨_, rfl, rfl⟩, trivial⟩) (fun x hx => ?_)
  obtain ⟨i, out⟩ := x
  obtain ⟨hi, hf, hm, hn⟩ := hx
  simp only at hi hf hm hn
  (conv => whnf)
  refine And.intro (fun h2 => ?_) (fun h2 => ?_)
  · have hlt : i < list.length := by simpa using h2
    have hrow := rowChange hlt
    have hst := chGo_step (s := out) hlt
    have cX := c_change out list[i] (by omega) hm (hc _ (List.getElem_mem hlt))
    have hm2 := shDo_md hm (hc _ (List.getElem_mem hlt))
    have hn2 := @shDo_len out list[i]
    generalize list[i] = ci at hrow hst cX hm2 hn2
    obtain ⟨kd, nm, nw, ⟨cn, ck, k1, k2, ⟨d1, d2, d3⟩⟩⟩ := ci
    generalize shDo out ⟨kd, nm, nw, ⟨cn, ck, k1, k2, ⟨d1, d2, d3⟩⟩⟩ = y at cX hst hm2 hn2
    obtain ⟨y1, b⟩ := y
    cases b
    · rw [hf, hst, if_neg (by simp)]
      (conv => whnf); repeat' ((first | (refine And.intro ?_ ?_ <;> ((try intro h) <;> (try simp only [gS] at h) <;> first | exact absurd h gF | exact absurd h.symm gF | conv => whnf)) | (refine VR.op hTb rfl rfl (o_index_imm hTb rfl rfl rfl rfl rfl rfl rfl (by omega) (hrow)) rfl ?_) | (refine VR.fun hTb rfl rfl (o_funN (cX) true [] (fun _ => grShS _) (by simp) rfl rfl rfl rfl rfl gQ ?_ rfl) ?_; exact congrArg (fun s => [s, _]) brw)) <;> conv => whnf)
      exact EndV.nil 4 104 7 39 rfl rfl (by decide) (endW [104] rfl rfl rfl rfl rfl (LeS.refl _) rfl rfl)
    · rw [if_pos rfl] at hst
      simp only at hst hm2 hn2
      (conv => whnf); repeat' ((first | (refine And.intro ?_ ?_ <;> ((try intro h) <;> (try simp only [gS] at h) <;> first | exact absurd h gF | exact absurd h.symm gF | conv => whnf)) | (refine VR.op hTb rfl rfl (o_index_imm hTb rfl rfl rfl rfl rfl rfl rfl (by omega) (hrow)) rfl ?_) | (refine VR.fun hTb rfl rfl (o_funN (cX) true [] (fun _ => grShS _) (by simp) rfl rfl rfl rfl rfl gQ ?_ rfl) ?_; exact congrArg (fun s => [s, _]) brw)) <;> conv => whnf)
      exact ⟨(i + 1, y1), ⟨hlt, hf.trans hst, hm2, (by show y1.length ≤ s.length + (i + 1); omega)⟩, by show _ - (i + 1) < _ - i; omega, wk_to [(1088, 1048)] rfl rfl rfl ⟨rfl, rfl, rfl, gW (by unfold maxLen; omega), trivial⟩ ⟨rfl, ⟨_, rfl, rfl⟩, trivial⟩⟩
  · have hge : list.length ≤ i := by simp at h2; omega
    rw [hf, chGo_end hge]
    (conv => whnf)
    exact endW [1048] rfl rfl rfl rfl rfl (LeS.refl _) rfl rfl
def shAll (s : List Col) (list : List Change) : List Col × Bool := if shapeOk s = true then allS (chGo s list) else ([], false)
theorem c_implShapeAll (s : List Col) (list : List Change) (hl : s.length + list.length ≤ 1900000) (hs : mdCols s) (hc : mdChs list) : CallsV Tryz.prog 79 [colsI s, changesI list] [] (funQ (shS (shAll s list)) [] (shN (shAll s list))) := by
  have c1 := c_implShapeOk s (by unfold maxLen; omega) hs.ok
  have c2 := c_changes s list hl hs hc
  unfold shAll
  obtain ⟨b, hb⟩ : ∃ b, shapeOk s = b := ⟨_, rfl⟩
  rw [hb] at c1 ⊢
  refine funF_walk hTb Tryz.func79 rfl rfl Tryz.ntmps79 (by simp) (by simp) ?_
  cases b
  · rw [if_neg (by simp)]
    (conv => whnf); repeat' ((first | (refine And.intro ?_ ?_ <;> ((try intro h) <;> (try simp only [gS] at h) <;> first | exact absurd h gF | exact absurd h.symm gF | conv => whnf)) | (refine VR.pure hTb rfl rfl (o_purN (c1) rfl rfl rfl gQ rfl) ?_)) <;> conv => whnf)
    exact EndV.nil 4 104 7 39 rfl rfl (by decide) (endW [104] rfl rfl rfl rfl rfl (LeS.refl _) rfl rfl)
  · rw [if_pos rfl]
    generalize allS (chGo s list) = y at c2
    obtain ⟨y1, y2⟩ := y
    (conv => whnf); repeat' ((first | (refine And.intro ?_ ?_ <;> ((try intro h) <;> (try simp only [gS] at h) <;> first | exact absurd h gF | exact absurd h.symm gF | conv => whnf)) | (refine VR.pure hTb rfl rfl (o_purN (c1) rfl rfl rfl gQ rfl) ?_) | (refine VR.fun hTb rfl rfl (o_funN (c2) false [] gN (by simp) rfl rfl rfl rfl rfl gQ rfl rfl) ?_)) <;> conv => whnf)
    exact endW [1044] rfl rfl rfl rfl rfl (LeS.refl _) rfl rfl
theorem c_specShapeAll (s : List Col) (list : List Change) (hl : s.length + list.length ≤ 1900000) (hs : mdCols s) (hc : mdChs list) : CallsV Tryz.prog 57 [colsI s, changesI list] [] (funQ (shS (shAll s list)) [] (shN (shAll s list))) := by
  have c1 := c_specShapeOk s (by unfold maxLen; omega) hs.ok
  unfold shAll
  obtain ⟨b, hb⟩ : ∃ b, shapeOk s = b := ⟨_, rfl⟩
  rw [hb] at c1 ⊢
  refine funF_walk hTb Tryz.func57 rfl rfl Tryz.ntmps57 (by simp) (by simp) ?_
  cases b
  · rw [if_neg (by simp)]
    (conv => whnf); repeat' ((first | (refine And.intro ?_ ?_ <;> ((try intro h) <;> (try simp only [gS] at h) <;> first | exact absurd h gF | exact absurd h.symm gF | conv => whnf)) | (refine VR.pure hTb rfl rfl (o_purN (c1) rfl rfl rfl gQ rfl) ?_)) <;> conv => whnf)
    exact endW [112] rfl rfl rfl rfl rfl (LeS.refl _) rfl rfl
  rw [if_pos rfl]
  (conv => whnf); repeat' ((first | (refine And.intro ?_ ?_ <;> ((try intro h) <;> (try simp only [gS] at h) <;> first | exact absurd h gF | exact absurd h.symm gF | conv => whnf)) | (refine VR.pure hTb rfl rfl (o_purN (c1) rfl rfl rfl gQ rfl) ?_) | (refine VR.opk hTb rfl rfl (o_app0 (f := encCol) (m := s) (q := 115) hTb rfl rfl rfl rfl rfl rfl rfl rfl rfl rfl (by omega) (by show _ * 64 ≤ _; omega) (by unfold maxLen; omega)) ?_)) <;> conv => whnf)
  refine VL.loopI hTb (α := Nat × List Col) (fun x => x.1 ≤ list.length ∧ chGo s list = chGo x.2 (list.drop x.1) ∧ mdCols x.2 ∧ x.2.length ≤ s.length + x.1 ∧ shapeOk x.2 = true) (fun x => ⟨[(1, changesI list), (6, .one (.own 115 0 x.2.length)), (7, iS x.1)], [(115, .arr 39 7 (x.2.map encCol))], []⟩) (fun x => list.length - x.1) (0, s) ⟨Nat.zero_le _, rfl, hs, by simp, hb⟩
    (wk_to [(115, 115)] rfl rfl rfl ⟨rfl, rfl, rfl, trivial⟩ ⟨rfl, ⟨_, rfl, rfl⟩, trivial⟩) (fun x hx => ?_)
  obtain ⟨i, out⟩ := x
  obtain ⟨hi, hf, hm, hn, ho⟩ := hx
  simp only at hi hf hm hn ho
  (conv => whnf)
  refine And.intro (fun h2 => ?_) (fun h2 => ?_)
  · have hlt : i < list.length := by simpa using h2
    have hrow := rowChange hlt
    have hst := chGo_step (s := out) hlt
    have cX := c_specShapeDo out list[i] (by omega) hm (hc _ (List.getElem_mem hlt))
    have hsd : sdo out list[i] = shDo out list[i] := by unfold sdo; rw [if_pos ho]
    have hm2 := shDo_md hm (hc _ (List.getElem_mem hlt))
    have hn2 := @shDo_len out list[i]
    have ho2 := @shDo_ok out list[i]
    rw [hsd] at cX
    generalize list[i] = ci at hrow hst cX hm2 hn2 ho2
    obtain ⟨kd, nm, nw, ⟨cn, ck, k1, k2, ⟨d1, d2, d3⟩⟩⟩ := ci
    generalize shDo out ⟨kd, nm, nw, ⟨cn, ck, k1, k2, ⟨d1, d2, d3⟩⟩⟩ = y at cX hst hm2 hn2 ho2
    obtain ⟨y1, b⟩ := y
    cases b
    · rw [hf, hst, if_neg (by simp)]
      (conv => whnf); repeat' ((first | (refine And.intro ?_ ?_ <;> ((try intro h) <;> (try simp only [gS] at h) <;> first | exact absurd h gF | exact absurd h.symm gF | conv => whnf)) | (refine VR.op hTb rfl rfl (o_index_imm hTb rfl rfl rfl rfl rfl rfl rfl (by omega) (hrow)) rfl ?_) | (refine VR.fun hTb rfl rfl (o_funN (cX) true [] (fun _ => grShS _) (by simp) rfl rfl rfl rfl rfl gQ ?_ rfl) ?_; exact congrArg (fun s => [s, _]) brw)) <;> conv => whnf)
      exact endW [133] rfl rfl rfl rfl rfl (LeS.refl _) rfl rfl
    · rw [if_pos rfl] at hst
      simp only at hst hm2 hn2
      have ho3 := (ho2 rfl).1
      (conv => whnf); repeat' ((first | (refine And.intro ?_ ?_ <;> ((try intro h) <;> (try simp only [gS] at h) <;> first | exact absurd h gF | exact absurd h.symm gF | conv => whnf)) | (refine VR.op hTb rfl rfl (o_index_imm hTb rfl rfl rfl rfl rfl rfl rfl (by omega) (hrow)) rfl ?_) | (refine VR.fun hTb rfl rfl (o_funN (cX) true [] (fun _ => grShS _) (by simp) rfl rfl rfl rfl rfl gQ ?_ rfl) ?_; exact congrArg (fun s => [s, _]) brw)) <;> conv => whnf)
      exact ⟨(i + 1, y1), ⟨hlt, hf.trans hst, hm2, (by show y1.length ≤ s.length + (i + 1); omega), ho3⟩, by show _ - (i + 1) < _ - i; omega, wk_to [(1112, 115)] rfl rfl rfl ⟨rfl, rfl, gW (by unfold maxLen; omega), trivial⟩ ⟨rfl, ⟨_, rfl, rfl⟩, trivial⟩⟩
  · have hge : list.length ≤ i := by simp at h2; omega
    rw [hf, chGo_end hge]
    (conv => whnf)
    exact endW [115] rfl rfl rfl rfl rfl (LeS.refl _) rfl rfl
theorem tl_inj {a b : ByteArray} (h : a.toList = b.toList) : a = b := by
  rw [ByteArray.toList_eq, ByteArray.toList_eq] at h
  exact ByteArray.ext (Array.toList_inj.1 h)
theorem tl_beq {a b : ByteArray} : (a.toList == b.toList) = true ↔ a = b := ⟨fun h => tl_inj (by simpa using h), fun h => by rw [h]; simp⟩
theorem tl_bne {a b : ByteArray} : (a.toList == b.toList) = false ↔ a ≠ b := by rw [← Bool.not_eq_true, tl_beq]
theorem qV_refl (a : Val) : q_Val a a = true := by rw [q_Val_iff']; simp
theorem nameAt_some {l : List Col} {nm : ByteArray} (h : ¬ nameAt l nm < 0) : ∃ j, ∃ hj : j < l.length, nameAt l nm = (j : Int) ∧ l[j].name = nm := by
  rcases nameAt_spec l nm with ⟨h1, _⟩ | ⟨j, hj, h1, h2⟩
  · omega
  · exact ⟨j, hj, h1, tl_beq.1 h2⟩
theorem nameAt_neg {l : List Col} {nm : ByteArray} (h : nameAt l nm < 0) : ∀ i (hi : i < l.length), l[i].name ≠ nm := by
  rcases nameAt_spec l nm with ⟨_, h2⟩ | ⟨j, hj, h1, _⟩
  · exact fun i hi => tl_bne.1 (h2 _ (List.getElem_mem hi))
  · omega
theorem sdo_sd {s : List Col} {c : Change} (h : shapeOk s = true) : sdo s c = shDo s c := by unfold sdo; rw [if_pos h]
structure Done (s : List Col) (c : Change) (x : List Col) : Prop where
  hs : shapeOk s = true
  hx : shapeOk x = true
  n : namedB c = true
  d : chDo s c = some x
  w : (c.kind = 1 ∧ ¬ (c.col.need = true ∧ c.col.d.k = 0) ∧ x = s ++ [c.col]) ∨
      ∃ j, ∃ hj : j < s.length, s[j].name = c.name ∧ nameAt s c.name = (j : Int) ∧
        ((c.kind = 2 ∧ x = s.eraseIdx j) ∨ (c.kind = 3 ∧ x = s.set j (ccName s[j] c.new)) ∨ (c.kind = 4 ∧ c.col.kind ≠ s[j].kind ∧ x = s.set j (ccKind s[j] c.col.kind)))
theorem sdo_done {s x : List Col} {c : Change} (h : sdo s c = (x, true)) : Done s c x := by
  have h2 : (sdo s c).2 = true := by rw [h]
  obtain ⟨hs, hd⟩ := sdo_sh h2
  obtain ⟨hx, L, hc, e⟩ := shDo_ok hd
  rw [sdo_sd hs] at h
  rw [h] at hx e
  simp only at hx e
  subst e
  have hn : namedB c = true := by
    cases hn : namedB c with
    | true => rfl
    | false => unfold chDo at hc; rw [hn, if_pos rfl] at hc; cases hc
  refine ⟨hs, hx, hn, hc, ?_⟩
  have hk := namedB_kind hn
  unfold chDo at hc
  rw [hn, if_neg (by simp)] at hc
  by_cases k1 : c.kind = 1
  · rw [if_pos k1] at hc
    split at hc; cases hc
    rename_i hnd
    cases hc
    exact .inl ⟨k1, hnd, rfl⟩
  rw [if_neg k1] at hc
  split at hc; cases hc
  rename_i hj
  obtain ⟨j, hj, e1, e2⟩ := nameAt_some hj
  rw [e1, Int.toNat_natCast] at hc
  have eg : s.getD j (kCol 0) = s[j] := by simp [List.getD, hj]
  rw [eg] at hc
  refine .inr ⟨j, hj, e2, e1, ?_⟩
  split at hc
  · cases hc; exact .inl ⟨by assumption, rfl⟩
  rename_i k2
  split at hc
  · cases hc; exact .inr (.inl ⟨by assumption, rfl⟩)
  rename_i k3
  split at hc; cases hc
  rename_i hkk
  cases hc
  exact .inr (.inr ⟨by omega, hkk, rfl⟩)
theorem fzC (x : List Col) : ((x.map encCol).drop 0).take x.length = x.map encCol := by rw [List.drop_zero, List.take_of_length_le (by simp)]
theorem fzV (x : List Val) : ((x.map encVal).drop 0).take x.length = x.map encVal := by rw [List.drop_zero, List.take_of_length_le (by simp)]
theorem rwCh_eq {s x : List Col} {c : Change} {row : List Val} (D : Done s c x) : (c.kind = 1 ∧ x = s ++ [c.col] ∧ ¬ (c.col.need = true ∧ c.col.d.k = 0) ∧ rwCh s c row = row ++ [c.col.d]) ∨
    ∃ j, ∃ hj : j < s.length, s[j].name = c.name ∧ nameAt s c.name = (j : Int) ∧
      ((c.kind = 2 ∧ x = s.eraseIdx j ∧ rwCh s c row = row.eraseIdx j) ∨ (c.kind = 3 ∧ x = s.set j (ccName s[j] c.new) ∧ rwCh s c row = row) ∨
       (c.kind = 4 ∧ x = s.set j (ccKind s[j] c.col.kind) ∧ rwCh s c row = row.set j (valAs (row.getD j ⟨0, 0, ⟨#[]⟩⟩) c.col.kind))) := by
  rcases D.w with ⟨k, hnd, e⟩ | ⟨j, hj, en, ea, w⟩
  · exact .inl ⟨k, e, hnd, by unfold rwCh; rw [if_pos k]⟩
  · refine .inr ⟨j, hj, en, ea, ?_⟩
    rcases w with ⟨k, e⟩ | ⟨k, e⟩ | ⟨k, _, e⟩
    · exact .inl ⟨k, e, by unfold rwCh; rw [if_neg (by omega), if_pos k, ea, Int.toNat_natCast]⟩
    · exact .inr (.inl ⟨k, e, by unfold rwCh; rw [if_neg (by omega), if_neg (by omega), if_neg (by omega)]⟩)
    · exact .inr (.inr ⟨k, e, by unfold rwCh; rw [if_neg (by omega), if_neg (by omega), if_pos k, ea, Int.toNat_natCast]⟩)
theorem rw_len {s x : List Col} {c : Change} {row : List Val} (D : Done s c x) (h : row.length = s.length) : (rwCh s c row).length = x.length := by
  rcases rwCh_eq (row := row) D with ⟨_, e, _, e2⟩ | ⟨j, hj, _, _, ⟨_, e, e2⟩ | ⟨_, e, e2⟩ | ⟨_, e, e2⟩⟩
  · rw [e, e2]; simp [h]
  · rw [e, e2, List.length_eraseIdx, List.length_eraseIdx, h]
  · rw [e, e2]; simp [h]
  · rw [e, e2]; simp [h]
theorem rwCh_md {s : List Col} {c : Change} {row : List Val} (hc : c.md) (hr : mdVals row) : mdVals (rwCh s c row) := by
  unfold rwCh
  split
  · intro x hx
    rcases List.mem_append.1 hx with hx | hx
    · exact hr x hx
    · simp at hx; subst hx; exact hc.2.2.2
  split
  · exact fun x hx => hr x (List.mem_of_mem_eraseIdx hx)
  split
  · intro x hx
    rcases List.mem_or_eq_of_mem_set hx with hx | rfl
    · exact hr x hx
    · have := valAs_size (row.getD (nameAt s c.name).toNat ⟨0, 0, ⟨#[]⟩⟩) c.col.kind
      have h0 : (row.getD (nameAt s c.name).toNat ⟨0, 0, ⟨#[]⟩⟩).t.size ≤ 1048576 := by
        by_cases hi : (nameAt s c.name).toNat < row.length
        · have e : row.getD (nameAt s c.name).toNat ⟨0, 0, ⟨#[]⟩⟩ = row[(nameAt s c.name).toNat] := by simp [List.getD, hi]
          rw [e]; exact hr _ (List.getElem_mem hi)
        · have e : row.getD (nameAt s c.name).toNat ⟨0, 0, ⟨#[]⟩⟩ = ⟨0, 0, ⟨#[]⟩⟩ := by simp [List.getD, Nat.le_of_not_lt hi]
          rw [e]; show (⟨#[]⟩ : ByteArray).size ≤ 1048576; decide
      show (valAs _ _).t.size ≤ _
      omega
  · exact hr
def rwGo : List Col → List Change → List Val → List Val
  | _, [], row => row
  | s, c :: cs, row => rwGo (shDo s c).1 cs (rwCh s c row)
theorem rwGo_step {s : List Col} {l : List Change} {row : List Val} {i : Nat} (h : i < l.length) : rwGo s (l.drop i) row = rwGo (shDo s l[i]).1 (l.drop (i + 1)) (rwCh s l[i] row) := by
  rw [List.drop_eq_getElem_cons h, rwGo]
theorem rwGo_end {s : List Col} {l : List Change} {row : List Val} {i : Nat} (h : l.length ≤ i) : rwGo s (l.drop i) row = row := by
  rw [List.drop_of_length_le h, rwGo]
def rwAll (s : List Col) (list : List Change) (row : List Val) : List Val := if (shAll s list).2 = true ∧ row.length = s.length then rwGo s list row else []
theorem shAll_go {s : List Col} {list : List Change} (h : (shAll s list).2 = true) : shapeOk s = true ∧ ∃ L, chGo s list = some L := by
  unfold shAll at h
  split at h
  · refine ⟨by assumption, ?_⟩
    cases e : chGo s list with
    | none => rw [e] at h; cases h
    | some L => exact ⟨L, rfl⟩
  · cases h
theorem chGo_sd {s L : List Col} {l : List Change} {i : Nat} (hi : i < l.length) (h : chGo s (l.drop i) = some L) : (shDo s l[i]).2 = true ∧ chGo (shDo s l[i]).1 (l.drop (i + 1)) = some L := by
  rw [chGo_step hi] at h
  split at h
  · exact ⟨by assumption, h⟩
  · cases h
theorem rwGo_inv {s L : List Col} {l : List Change} {row : List Val} {i : Nat} (hi : i < l.length) (h : chGo s (l.drop i) = some L) (ho : shapeOk s = true) (hn : row.length = s.length) (hm : mdCols s) (hr : mdVals row) (hc : mdChs l) :
    ∃ x, shDo s l[i] = (x, true) ∧ sdo s l[i] = (x, true) ∧ chGo x (l.drop (i + 1)) = some L ∧ shapeOk x = true ∧ (rwCh s l[i] row).length = x.length ∧ rwGo s (l.drop i) row = rwGo x (l.drop (i + 1)) (rwCh s l[i] row) ∧ mdCols x ∧ mdVals (rwCh s l[i] row) ∧ x.length ≤ s.length + 1 ∧ chAt s l[i] row.length := by
  obtain ⟨h1, h2⟩ := chGo_sd hi h
  have hmc := hc _ (List.getElem_mem hi)
  refine ⟨(shDo s l[i]).1, by rw [← h1], by rw [sdo_sd ho, ← h1], h2, (shDo_ok h1).1, ?_, rwGo_step hi, shDo_md hm hmc, rwCh_md hmc hr, shDo_len, hn ▸ shDo_at h1⟩
  have hx : sdo s l[i] = ((shDo s l[i]).1, true) := by rw [sdo_sd ho, ← h1]
  exact rw_len (sdo_done hx) hn
theorem c_changeRows (s : List Col) (list : List Change) (row : List Val) {L : List Col} (hl : s.length + list.length ≤ 1900000) (hs : mdCols s) (hc : mdChs list) (hr : mdVals row) (ho : shapeOk s = true) (hg : chGo s list = some L) (hn : row.length = s.length) :
    CallsV Tryz.prog 123 [colsI s, changesI list, valsI row] [] (funQ (.one (.own 0 0 (rwGo s list row).length)) [] [.arr 37 3 ((rwGo s list row).map encVal)]) := by
  refine funF_walk hTb Tryz.func123 rfl rfl Tryz.ntmps123 (by simp) (by simp) ?_
  have c0 := c_cloneVal row (by omega)
  (conv => whnf); repeat' ((first | (refine VR.fun hTb rfl rfl (o_funN (c0) false [] gN (by simp) rfl rfl rfl rfl rfl gQ rfl rfl) ?_)) <;> conv => whnf)
  refine VL.loopI hTb (α := Nat × List Col × List Val) (fun x => x.1 ≤ list.length ∧ chGo x.2.1 (list.drop x.1) = some L ∧ shapeOk x.2.1 = true ∧ x.2.2.length = x.2.1.length ∧ rwGo s list row = rwGo x.2.1 (list.drop x.1) x.2.2 ∧ mdCols x.2.1 ∧ mdVals x.2.2 ∧ x.2.1.length ≤ s.length + x.1)
    (fun x => ⟨[(0, colsI x.2.1), (7, .one (.own 1044 0 x.2.2.length)), (12, changesI list), (13, iS ((list.map encChange).length : Nat)), (14, iS x.1)], [(1044, .arr 37 3 (x.2.2.map encVal))], []⟩) (fun x => list.length - x.1) (0, s, row) ⟨Nat.zero_le _, hg, ho, hn, rfl, hs, hr, by simp⟩
    (wk_to [(1044, 1044)] rfl rfl rfl ⟨rfl, rfl, rfl, rfl, rfl, trivial⟩ ⟨rfl, ⟨_, rfl, rfl⟩, trivial⟩) (fun x hx => ?_)
  obtain ⟨i, z, out⟩ := x
  obtain ⟨hi, hf, hzo, hzn, he, hm, hv, hzl⟩ := hx
  simp only at hi hf hzo hzn he hm hv hzl
  (conv => whnf)
  refine And.intro (fun h2 => ?_) (fun h2 => ?_)
  · have hlt : i < list.length := by simpa using h2
    have hrow := rowChange hlt
    have hmc := hc _ (List.getElem_mem hlt)
    obtain ⟨x, hx, _, hxg, hxo, hxn, hxe, hxm, hxv, hxl, hat⟩ := rwGo_inv hlt hf hzo hzn hm hv hc
    have cR := c_changeRow z list[i] out (by omega) (by omega) hm hv hat
    have cX := c_change z list[i] (by omega) hm hmc
    rw [hx] at cX
    generalize rwCh z list[i] out = w at cR hxn hxe hxv
    generalize list[i] = ci at hrow cR cX
    obtain ⟨kd, nm, nw, ⟨cn, ck, k1, k2, ⟨d1, d2, d3⟩⟩⟩ := ci
    (conv => whnf); repeat' ((first | (refine VR.op hTb rfl rfl (o_index_imm hTb rfl rfl rfl rfl rfl rfl rfl (by omega) (hrow)) rfl ?_) | (refine VR.fun hTb rfl rfl (o_funN (cR) true [] (fun _ => grNewVal _ _) (by simp) rfl rfl rfl rfl rfl gQ ?_ rfl) ?_; exact congrArg (fun s => [_, _, s]) brw) | (refine VR.fun hTb rfl rfl (o_funN (cX) false [] gN (by simp) rfl rfl rfl rfl rfl gQ rfl rfl) ?_)) <;> conv => whnf)
    exact ⟨(i + 1, x, w), ⟨hlt, hxg, hxo, hxn, he.trans hxe, hxm, hxv, (by show x.length ≤ s.length + (i + 1); omega)⟩, by show _ - (i + 1) < _ - i; omega, (wk_freeze _ 1100 rfl).trans (wk_to [(1084, 1044)] rfl rfl rfl ⟨congrArg (fun r => Slot.one (.imm 7 r)) (fzC x), rfl, rfl, rfl, gW (by unfold maxLen; omega), trivial⟩ ⟨rfl, ⟨_, rfl, rfl⟩, trivial⟩)⟩
  · have hge : list.length ≤ i := by simp at h2; omega
    rw [he, rwGo_end hge]
    (conv => whnf)
    exact endW [1044] rfl rfl rfl rfl rfl (LeS.refl _) rfl rfl
theorem c_specRowAll (s : List Col) (list : List Change) (row : List Val) (hl : s.length + list.length ≤ 1900000) (hrl : row.length ≤ 1900000) (hs : mdCols s) (hc : mdChs list) (hr : mdVals row) :
    CallsV Tryz.prog 128 [colsI s, changesI list, valsI row] [] (funQ (.one (.own 0 0 (rwAll s list row).length)) [] [.arr 37 3 ((rwAll s list row).map encVal)]) := by
  have c1 := c_specShapeAll s list hl hs hc
  have hgo := @shAll_go s list
  unfold rwAll
  generalize shAll s list = y at c1 hgo
  obtain ⟨y1, b⟩ := y
  refine funF_walk hTb Tryz.func128 rfl rfl Tryz.ntmps128 (by simp) (by simp) ?_
  by_cases hn : row.length = s.length
  rotate_left
  · rw [if_neg (fun h => hn h.2)]
    have hh : (((row.map encVal).length : Int) != ((s.map encCol).length : Int)) = true := by simp; omega
    cases b <;> (conv => whnf); repeat' ((first | (exact absurd (h.symm.trans hh) gF) | (refine And.intro ?_ ?_ <;> ((try intro h) <;> (try simp only [gS] at h) <;> first | exact absurd h gF | exact absurd h.symm gF | conv => whnf)) | (refine VR.fun hTb rfl rfl (o_funN (c1) false [] gN (by simp) rfl rfl rfl rfl rfl gQ rfl rfl) ?_)) <;> conv => whnf)
    all_goals exact endW [126] rfl rfl rfl rfl rfl (LeS.refl _) rfl rfl
  cases b
  · rw [if_neg (by simp)]
    (conv => whnf); repeat' ((first | (refine And.intro ?_ ?_ <;> ((try intro h) <;> (try simp only [gS] at h) <;> first | exact absurd h gF | exact absurd h.symm gF | conv => whnf)) | (refine VR.fun hTb rfl rfl (o_funN (c1) false [] gN (by simp) rfl rfl rfl rfl rfl gQ rfl rfl) ?_)) <;> conv => whnf)
    exact endW [126] rfl rfl rfl rfl rfl (LeS.refl _) rfl rfl
  rw [if_pos ⟨rfl, hn⟩]
  obtain ⟨ho, L, hg⟩ := hgo rfl
  have hh : (((row.map encVal).length : Int) != ((s.map encCol).length : Int)) = false := by simp; omega
  (conv => whnf); repeat' ((first | (exact absurd (hh.symm.trans h) gF) | (refine And.intro ?_ ?_ <;> ((try intro h) <;> (try simp only [gS] at h) <;> first | exact absurd h gF | exact absurd h.symm gF | conv => whnf)) | (refine VR.fun hTb rfl rfl (o_funN (c1) false [] gN (by simp) rfl rfl rfl rfl rfl gQ rfl rfl) ?_) | (refine VR.opk hTb rfl rfl (o_app0 (f := encVal) (m := row) (q := 129) hTb rfl rfl rfl rfl rfl rfl rfl rfl rfl rfl (by omega) (by show _ * 32 ≤ _; omega) (by unfold maxLen; omega)) ?_)) <;> conv => whnf)
  refine VL.loopI hTb (α := Nat × List Col × List Val) (fun x => x.1 ≤ list.length ∧ chGo x.2.1 (list.drop x.1) = some L ∧ shapeOk x.2.1 = true ∧ x.2.2.length = x.2.1.length ∧ rwGo s list row = rwGo x.2.1 (list.drop x.1) x.2.2 ∧ mdCols x.2.1 ∧ mdVals x.2.2 ∧ x.2.1.length ≤ s.length + x.1)
    (fun x => ⟨[(0, colsI x.2.1), (1, changesI list), (9, .one (.own 129 0 x.2.2.length)), (10, iS x.1)], [(129, .arr 37 3 (x.2.2.map encVal))], []⟩) (fun x => list.length - x.1) (0, s, row) ⟨Nat.zero_le _, hg, ho, hn, rfl, hs, hr, by simp⟩
    (wk_to [(129, 129)] rfl rfl rfl ⟨rfl, rfl, rfl, rfl, trivial⟩ ⟨rfl, ⟨_, rfl, rfl⟩, trivial⟩) (fun x hx => ?_)
  obtain ⟨i, z, out⟩ := x
  obtain ⟨hi, hf, hzo, hzn, he, hm, hv, hzl⟩ := hx
  simp only at hi hf hzo hzn he hm hv hzl
  (conv => whnf)
  refine And.intro (fun h2 => ?_) (fun h2 => ?_)
  · have hlt : i < list.length := by simpa using h2
    have hrow := rowChange hlt
    have hmc := hc _ (List.getElem_mem hlt)
    obtain ⟨x, _, hx, hxg, hxo, hxn, hxe, hxm, hxv, hxl, hat⟩ := rwGo_inv hlt hf hzo hzn hm hv hc
    have cR := c_l2Row z list[i] out (by omega) (by omega) hm hv hat
    have cX := c_specShapeDo z list[i] (by omega) hm hmc
    rw [hx] at cX
    generalize rwCh z list[i] out = w at cR hxn hxe hxv
    generalize list[i] = ci at hrow cR cX
    obtain ⟨kd, nm, nw, ⟨cn, ck, k1, k2, ⟨d1, d2, d3⟩⟩⟩ := ci
    (conv => whnf); repeat' ((first | (refine VR.op hTb rfl rfl (o_index_imm hTb rfl rfl rfl rfl rfl rfl rfl (by omega) (hrow)) rfl ?_) | (refine VR.fun hTb rfl rfl (o_funN (cR) true [] (fun _ => grNewVal _ _) (by simp) rfl rfl rfl rfl rfl gQ ?_ rfl) ?_; exact congrArg (fun s => [_, _, s]) brw) | (refine VR.fun hTb rfl rfl (o_funN (cX) false [] gN (by simp) rfl rfl rfl rfl rfl gQ rfl rfl) ?_)) <;> conv => whnf)
    exact ⟨(i + 1, x, w), ⟨hlt, hxg, hxo, hxn, he.trans hxe, hxm, hxv, (by show x.length ≤ s.length + (i + 1); omega)⟩, by show _ - (i + 1) < _ - i; omega, (wk_freeze _ 1196 rfl).trans (wk_to [(1168, 129)] rfl rfl rfl ⟨congrArg (fun r => Slot.one (.imm 7 r)) (fzC x), rfl, rfl, gW (by unfold maxLen; omega), trivial⟩ ⟨rfl, ⟨_, rfl, rfl⟩, trivial⟩)⟩
  · have hge : list.length ≤ i := by simp at h2; omega
    rw [he, rwGo_end hge]
    (conv => whnf)
    exact endW [129] rfl rfl rfl rfl rfl (LeS.refl _) rfl rfl
theorem chGo_app : ∀ (l1 : List Change) {s : List Col} (l2 : List Change), chGo s (l1 ++ l2) = (chGo s l1).bind fun a => chGo a l2
  | [], s, l2 => rfl
  | c :: l1, s, l2 => by
    simp only [List.cons_append, chGo]
    split
    · exact chGo_app l1 l2
    · rfl
theorem chGo_ok : ∀ {l : List Change} {s a : List Col}, chGo s l = some a → shapeOk s = true → shapeOk a = true
  | [], s, a, h, ho => by cases h; exact ho
  | c :: l, s, a, h, ho => by
    rw [chGo] at h
    split at h
    · rename_i h1; exact chGo_ok h (shDo_ok h1).1
    · cases h
theorem chGo_len : ∀ {l : List Change} {s a : List Col}, chGo s l = some a → a.length ≤ s.length + l.length
  | [], s, a, h => by cases h; simp
  | c :: l, s, a, h => by
    rw [chGo] at h
    split at h
    · have h2 := chGo_len h
      have h3 := @shDo_len s c
      simp only [List.length_cons]; omega
    · cases h
theorem chGo_md : ∀ {l : List Change} {s a : List Col}, chGo s l = some a → mdCols s → mdChs l → mdCols a
  | [], s, a, h, hs, _ => by cases h; exact hs
  | c :: l, s, a, h, hs, hc => by
    rw [chGo] at h
    split at h
    · exact chGo_md h (shDo_md hs (hc c (by simp))) fun x hx => hc x (by simp [hx])
    · cases h
theorem shAll_yes {s a : List Col} {l : List Change} (ho : shapeOk s = true) (h : chGo s l = some a) : shAll s l = (a, true) := by unfold shAll; rw [if_pos ho, h]; rfl
theorem shAll_no {s : List Col} {l : List Change} (h : (shAll s l).2 = false) : shAll s l = ([], false) := by
  unfold shAll at h ⊢
  split
  · rename_i ho
    rw [if_pos ho] at h
    cases e : chGo s l with
    | none => rfl
    | some a => rw [e] at h; cases h
  · rfl
theorem shAll_len (s : List Col) (l : List Change) : (shAll s l).1.length ≤ s.length + l.length := by
  unfold shAll
  split
  · cases e : chGo s l with
    | none => simp [allS]
    | some a => exact chGo_len e
  · simp
theorem shAll_md {s : List Col} {l : List Change} (hs : mdCols s) (hc : mdChs l) : mdCols (shAll s l).1 := by
  unfold shAll
  split
  · cases e : chGo s l with
    | none => exact fun x hx => by cases hx
    | some a => exact chGo_md e hs hc
  · exact fun x hx => by cases hx
theorem take_drop_go {s : List Col} {l : List Change} (k : Nat) : chGo s l = (chGo s (l.take k)).bind fun a => chGo a (l.drop k) := by
  rw [← chGo_app, List.take_append_drop]
theorem shAll_cut {s x : List Col} {l : List Change} (h : shAll s l = (x, true)) (k : Nat) : ∃ a, shAll s (l.take k) = (a, true) ∧ shAll a (l.drop k) = (x, true) ∧ shapeOk x = true ∧ chGo s (l.take k) = some a ∧ chGo a (l.drop k) = some x ∧ shapeOk s = true ∧ shapeOk a = true := by
  obtain ⟨ho, L, hg⟩ := shAll_go (show (shAll s l).2 = true by rw [h])
  have e := shAll_yes ho hg
  rw [h] at e
  obtain rfl : x = L := by simpa using e
  have hg0 := hg
  rw [take_drop_go k] at hg
  cases e1 : chGo s (l.take k) with
  | none => rw [e1] at hg; cases hg
  | some a =>
    rw [e1] at hg
    have hg : chGo a (l.drop k) = some x := hg
    exact ⟨a, shAll_yes ho e1, shAll_yes (chGo_ok e1 ho) hg, chGo_ok hg0 ho, rfl, hg, ho, chGo_ok e1 ho⟩
theorem rwGo_len : ∀ {l : List Change} {s a : List Col} {row : List Val}, chGo s l = some a → shapeOk s = true → row.length = s.length → (rwGo s l row).length = a.length
  | [], s, a, row, h, ho, hn => by cases h; exact hn
  | c :: l, s, a, row, h, ho, hn => by
    rw [chGo] at h
    split at h
    · rename_i h1
      have hx : sdo s c = ((shDo s c).1, true) := by rw [sdo_sd ho, ← h1]
      rw [rwGo]
      exact rwGo_len h (shDo_ok h1).1 (rw_len (sdo_done hx) hn)
    · cases h
theorem rwGo_md : ∀ {l : List Change} {s : List Col} {row : List Val}, mdChs l → mdVals row → mdVals (rwGo s l row)
  | [], _, _, _, hr => hr
  | c :: l, s, row, hc, hr => by
    rw [rwGo]
    exact rwGo_md (fun x hx => hc x (by simp [hx])) (rwCh_md (s := s) (hc c (by simp)) hr)
theorem rwAll_yes {s a : List Col} {l : List Change} {row : List Val} (ho : shapeOk s = true) (h : chGo s l = some a) (hn : row.length = s.length) : rwAll s l row = rwGo s l row := by
  unfold rwAll; rw [shAll_yes ho h, if_pos ⟨rfl, hn⟩]
theorem mdChs.take {l : List Change} (h : mdChs l) (k : Nat) : mdChs (l.take k) := fun c hc => h c (List.mem_of_mem_take hc)
theorem mdChs.drop {l : List Change} (h : mdChs l) (k : Nat) : mdChs (l.drop k) := fun c hc => h c (List.mem_of_mem_drop hc)
def Change.sml (c : Change) : Prop := c.name.size ≤ 8 ∧ c.new.size ≤ 8 ∧ c.col.name.size ≤ 8 ∧ c.col.d.t.size ≤ 8
theorem Change.sml.md {c : Change} (h : c.sml) : c.md := ⟨by have := h.1; omega, by have := h.2.1; omega, by have := h.2.2.1; omega, by have := h.2.2.2; omega⟩
theorem smlCols.md {l : List Col} (h : smlCols l) : mdCols l := fun c hc => ⟨by have := (h c hc).1; omega, by have := (h c hc).2; omega⟩
theorem smlVals.md {l : List Val} (h : smlVals l) : mdVals l := fun c hc => by have : c.t.size ≤ 8 := h c hc; show c.t.size ≤ _; omega
theorem rowD {s : List Col} {z : Int} (h0 : 0 ≤ z) (h1 : z < s.length) : (s.map encCol)[z.toNat]? = some [.g (.string (s.getD z.toNat (kCol 0)).name), .g (.int .i64 (s.getD z.toNat (kCol 0)).kind), .g (.bool (s.getD z.toNat (kCol 0)).need), .g (.bool (s.getD z.toNat (kCol 0)).once), .g (.int .i64 (s.getD z.toNat (kCol 0)).d.k), .g (.int .i64 (s.getD z.toNat (kCol 0)).d.n), .g (.string (s.getD z.toNat (kCol 0)).d.t)] := by
  have hz : z.toNat < s.length := by omega
  have e : s.getD z.toNat (kCol 0) = s[z.toNat] := by simp [List.getD, hz]
  rw [e, List.getElem?_map, List.getElem?_eq_getElem hz]
  generalize s[z.toNat] = c
  obtain ⟨a1, a2, a3, a4, ⟨a5, a6, a7⟩⟩ := c
  rfl
theorem sml_getD {s : List Col} (h : smlCols s) (i : Nat) : (s.getD i (kCol 0)).name.size ≤ 8 := by
  by_cases hi : i < s.length
  · have e : s.getD i (kCol 0) = s[i] := by simp [List.getD, hi]
    rw [e]; exact (h _ (List.getElem_mem hi)).1
  · have e : s.getD i (kCol 0) = kCol 0 := by simp [List.getD, Nat.le_of_not_lt hi]
    rw [e]; show (⟨#[]⟩ : ByteArray).size ≤ 8; decide
theorem nameAt_lt (s : List Col) (nm : ByteArray) : nameAt s nm < s.length ∧ -1 ≤ nameAt s nm := by
  rcases nameAt_spec s nm with ⟨h, _⟩ | ⟨j, hj, h, _⟩ <;> omega
theorem c_l2Change {bs : List Int} (hb : BOk bs) (p : Nat) (s : List Col) (hs : smlCols s) (hl : s.length ≤ 1000) (hp : p ≤ 1099511400000) : CallsV Tryz.prog 139 [rdS, colsI s] [rdO bs p]
    (relQ (fun y : Change × Nat => y.1.sml ∧ y.2 ≤ p + 20) (fun y => .agg (encChange y.1)) (fun y => [some (rdO bs y.2)]) (fun _ => [])) := by
  have e0 := bs0
  have hml : (s.map encCol).length = s.length := List.length_map _
  refine funF_walk hTb Tryz.func139 rfl rfl Tryz.ntmps139 (by simp) (by simp) ?_
  (conv => whnf); repeat' ((first | (refine And.intro ?_ ?_ <;> ((try intro h) <;> (try simp only [gS] at h) <;> first | exact absurd h gF | exact absurd h.symm gF | conv => whnf)) | (refine VR.rel hTb rfl rfl (o_relN (c_l2Names) false [] (fun _ _ => ⟨by simp, gN⟩) rfl rfl rfl rfl rfl gQ rfl rfl) ?_; rintro rows hrows; (try simp only at hrows)) | (refine VR.rel hTb rfl rfl (o_relN (c_ofI hb _ _ (fun t => t.size ≤ 8) hrows.1 hrows.2 (by omega)) false [0] (fun _ _ => ⟨by simp, gN⟩) rfl rfl rfl rfl rfl gQ rfl rfl) ?_; rintro nm hnm; (try simp only at hnm)) | (refine VR.rel hTb rfl rfl (o_relN (c_pick hb _ _ (by omega)) false [0] (fun _ _ => ⟨by simp, gN⟩) rfl rfl rfl rfl rfl gQ rfl rfl) ?_; intro y hy) | (refine VR.op hTb rfl rfl (o_index_imm hTb rfl rfl rfl rfl rfl rfl rfl (by omega) (rowD (by omega) (by omega))) rfl ?_) | (refine VR.rel hTb rfl rfl (o_relN (c_l2Col hb _ _ hnm (by omega)) false [0] (fun _ _ => ⟨by simp, gN⟩) rfl rfl rfl rfl rfl gQ rfl rfl) ?_; rintro ⟨⟨cn, ck, c1, c2, ⟨c3, c4, c5⟩⟩, q2⟩ hc; (try simp only at hc)) | (refine VR.rel hTb rfl rfl (o_relN (c_of hb _ _ _ (fun t => t.size ≤ 8) (by simp [strRows]; decide) (by simp) (by omega)) false [0, 163] (fun _ _ => ⟨by simp, gN⟩) rfl rfl rfl rfl rfl gQ rfl rfl) ?_; rintro tx htx; (try simp only at htx)) | (refine VR.rel hTb rfl rfl (o_relN (c_num hb _ _ _ (fun _ => True) (by simp [intRows]) (by simp) (by omega)) false [0, 196] (fun _ _ => ⟨by simp, gN⟩) rfl rfl rfl rfl rfl gQ rfl rfl) ?_; intro y hy) | (refine VR.rel hTb rfl rfl (o_relN (c_of hb _ _ _ (fun t => t.size ≤ 8) (by simp [strRows]; decide) (by simp) (by omega)) false [0, 202] (fun _ _ => ⟨by simp, gN⟩) rfl rfl rfl rfl rfl gQ rfl rfl) ?_; rintro tx htx; (try simp only at htx)) | (refine VR.rel hTb rfl rfl (o_relN (c_of hb _ _ _ (fun t => t.size ≤ 8) (by simp [strRows]; decide) (by simp) (by omega)) false [0, 208] (fun _ _ => ⟨by simp, gN⟩) rfl rfl rfl rfl rfl gQ rfl rfl) ?_; rintro tx htx; (try simp only at htx)) | (refine VR.rel hTb rfl rfl (o_relN (c_num hb _ _ _ (fun _ => True) (by simp [intRows]) (by simp) (by omega)) false [0, 214] (fun _ _ => ⟨by simp, gN⟩) rfl rfl rfl rfl rfl gQ rfl rfl) ?_; intro y hy) | (refine VR.pure hTb rfl rfl (o_purN (c_l2At s _ (by unfold maxLen; omega)) rfl rfl rfl gQ rfl) ?_) | (refine VR.op hTb rfl rfl (o_index_imm hTb rfl rfl rfl rfl rfl rfl rfl (by omega) (rowD (by omega) (nameAt_lt s _).1)) rfl ?_)) <;> conv => whnf)
  all_goals first
    | refine endR [] (⟨_, _, _, ⟨_, _, _, _, ⟨_, _, _⟩⟩⟩, _) rfl rfl rfl rfl rfl (LeS.refl _) rfl rfl ⟨⟨?_, ?_, ?_, ?_⟩, ?_⟩
  all_goals simp only
  all_goals first
    | exact sml_getD hs _
    | exact (show (⟨#[]⟩ : ByteArray).size ≤ 8 by decide)
    | assumption
    | exact hc.2.1
    | exact hnm
    | exact htx
    | omega
    | (rw [hc.1]; exact hnm)
theorem sml_getD2 {l : List Col} (h : smlCols l) (i : Nat) : (l.getD i (kCol 0)).sml := by
  by_cases hi : i < l.length
  · have e : l.getD i (kCol 0) = l[i] := by simp [List.getD, hi]
    rw [e]; exact h _ (List.getElem_mem hi)
  · have e : l.getD i (kCol 0) = kCol 0 := by simp [List.getD, Nat.le_of_not_lt hi]
    rw [e]; exact ⟨by show (⟨#[]⟩ : ByteArray).size ≤ 8; decide, by show (⟨#[]⟩ : ByteArray).size ≤ 8; decide⟩
theorem chDo_sml {s : List Col} {c : Change} {L : List Col} (hs : smlCols s) (hc : c.sml) (h : chDo s c = some L) : smlCols L := by
  obtain ⟨h1, h2, h3, h4⟩ := hc
  unfold chDo at h
  split at h; cases h
  split at h
  · split at h; cases h; cases h; exact hs.app ⟨h3, h4⟩
  split at h; cases h
  split at h
  · cases h; exact fun x hx => hs x (List.mem_of_mem_eraseIdx hx)
  split at h
  · cases h; exact hs.set ⟨h2, (sml_getD2 hs _).2⟩
  split at h; cases h; cases h
  exact hs.set ⟨(sml_getD2 hs _).1, by have := valAs_size (s.getD (nameAt s c.name).toNat (kCol 0)).d c.col.kind; show (valAs _ _).t.size ≤ _; omega⟩
def smlChs (l : List Change) : Prop := ∀ x ∈ l, x.sml
theorem smlChs.app {l : List Change} (h : smlChs l) {c : Change} (hc : c.sml) : smlChs (l ++ [c]) := by
  intro x hx
  rcases List.mem_append.1 hx with hx | hx
  · exact h x hx
  · simp at hx; subst hx; exact hc
theorem smlChs.md {l : List Change} (h : smlChs l) : mdChs l := fun c hc => (h c hc).md
end Go.Vl
