/- Plain laws: columns behind a change. -/
import Derived.Test.YtegjajojckbkjaaDoorFf
namespace Go.Vl
open Go Go.RowKit Go.Proofs
set_option maxRecDepth 100000
set_option linter.unusedSimpArgs false
set_option linter.unusedVariables false
set_option maxHeartbeats 1000000

theorem tl_inj {a b : ByteArray} (h : a.toList = b.toList) : a = b := by
  rw [ByteArray.toList_eq, ByteArray.toList_eq] at h
  exact ByteArray.ext (Array.toList_inj.1 h)
theorem tl_beq {a b : ByteArray} : (a.toList == b.toList) = true ↔ a = b := ⟨fun h => tl_inj (by simpa using h), fun h => by rw [h]; simp⟩
theorem tl_bne {a b : ByteArray} : (a.toList == b.toList) = false ↔ a ≠ b := by rw [← Bool.not_eq_true, tl_beq]
theorem qC_refl (a : Col) : q_Col a a = true := by rw [q_Col_iff']; simp
theorem qC_eq {a b : Col} (h : q_Col a b = true) : a = b := by
  obtain ⟨n, k, x, y, ⟨d1, d2, d3⟩⟩ := a
  obtain ⟨n', k', x', y', ⟨e1, e2, e3⟩⟩ := b
  rw [q_Col_iff'] at h
  obtain ⟨h1, h2, h3, h4, h5, h6, h7⟩ := h
  simp only at *
  subst h2 h3 h4 h5 h6
  rw [tl_inj h1, tl_inj h7]
theorem qV_refl (a : Val) : q_Val a a = true := by rw [q_Val_iff']; simp
theorem lC_refl (l : List Col) : leq q_Col l l = true := by
  induction l with
  | nil => rfl
  | cons a l ih => rw [leq, qC_refl, ih]; rfl
theorem lV_refl (l : List Val) : leq q_Val l l = true := by
  induction l with
  | nil => rfl
  | cons a l ih => rw [leq, qV_refl, ih]; rfl

theorem nameAt_of {l : List Col} {nm : ByteArray} {i : Nat} (h : shapeOk l = true) (hi : i < l.length) (e : l[i].name = nm) : nameAt l nm = (i : Int) := by
  have := nameAt_iff h (s := nm) hi
  rw [e] at this
  simpa using this
theorem nameAt_none {l : List Col} {nm : ByteArray} (h : ∀ i (hi : i < l.length), l[i].name ≠ nm) : nameAt l nm = -1 := by
  rcases nameAt_spec l nm with ⟨h1, _⟩ | ⟨j, hj, _, h2⟩
  · exact h1
  · exact absurd (tl_beq.1 h2) (h j hj)
theorem nameAt_some {l : List Col} {nm : ByteArray} (h : ¬ nameAt l nm < 0) : ∃ j, ∃ hj : j < l.length, nameAt l nm = (j : Int) ∧ l[j].name = nm := by
  rcases nameAt_spec l nm with ⟨h1, _⟩ | ⟨j, hj, h1, h2⟩
  · omega
  · exact ⟨j, hj, h1, tl_beq.1 h2⟩
theorem nameAt_neg {l : List Col} {nm : ByteArray} (h : nameAt l nm < 0) : ∀ i (hi : i < l.length), l[i].name ≠ nm := by
  rcases nameAt_spec l nm with ⟨_, h2⟩ | ⟨j, hj, h1, _⟩
  · exact fun i hi => tl_bne.1 (h2 _ (List.getElem_mem hi))
  · omega
/-- Names stand once. -/
theorem name_once {l : List Col} (h : shapeOk l = true) {i j : Nat} (hi : i < l.length) (hj : j < l.length) (e : l[i].name = l[j].name) : i = j := by
  have h1 := nameAt_of h hi e
  have h2 := nameAt_of h hj rfl
  omega

theorem sdo_bad {s : List Col} {c : Change} (h : shapeOk s = false) : sdo s c = ([], false) := by unfold sdo; rw [if_neg (by simp [h])]
theorem sdo_sd {s : List Col} {c : Change} (h : shapeOk s = true) : sdo s c = shDo s c := by unfold sdo; rw [if_pos h]
theorem sdo_no {s : List Col} {c : Change} (hs : shapeOk s = true) (h : (sdo s c).2 = false) : sdo s c = (s, false) := by
  rw [sdo_sd hs] at h ⊢
  unfold shDo okO at *
  cases e : chDo s c with
  | none => rfl
  | some L => rw [e] at h; simp only at h ⊢; split at h; cases h; rw [if_neg (by assumption)]
theorem sdo_some {s L : List Col} {c : Change} (hs : shapeOk s = true) (h : chDo s c = some L) (hL : shapeOk L = true) : sdo s c = (L, true) := by
  rw [sdo_sd hs]; unfold shDo okO; rw [h]; simp only; rw [if_pos hL]
theorem sdo_none {s : List Col} {c : Change} (hs : shapeOk s = true) (h : chDo s c = none) : sdo s c = (s, false) := by
  rw [sdo_sd hs]; unfold shDo okO; rw [h]
theorem sdo_not {s L : List Col} {c : Change} (hs : shapeOk s = true) (h : chDo s c = some L) (hL : shapeOk L = false) : sdo s c = (s, false) := by
  rw [sdo_sd hs]; unfold shDo okO; rw [h]; simp only; rw [if_neg (by simp [hL])]

/-- What a change that is done does. -/
structure Done (s : List Col) (c : Change) (x : List Col) : Prop where
  hs : shapeOk s = true
  hx : shapeOk x = true
  n : namedB c = true
  d : chDo s c = some x
  w : (c.kind = 1 ∧ ¬ (c.col.need = true ∧ c.col.d.k = 0) ∧ x = s ++ [c.col]) ∨
      ∃ j, ∃ hj : j < s.length, s[j].name = c.name ∧ nameAt s c.name = (j : Int) ∧
        ((c.kind = 2 ∧ x = s.eraseIdx j) ∨ (c.kind = 3 ∧ x = s.set j (ccName s[j] c.new)) ∨ (c.kind = 4 ∧ c.col.kind ≠ s[j].kind ∧ x = s.set j (ccKind s[j] c.col.kind)))
theorem sdo_done {s x : List Col} {c : Change} (h : sdo s c = (x, true)) : Done s c x := by
  have h2 : (sdo s c).2 = true := by rw [h]
  obtain ⟨hs, hd⟩ := sdo_sh h2
  obtain ⟨hx, L, hc, e⟩ := shDo_ok hd
  rw [sdo_sd hs] at h
  rw [h] at hx e
  simp only at hx e
  subst e
  have hn : namedB c = true := by
    cases hn : namedB c with
    | true => rfl
    | false => unfold chDo at hc; rw [hn, if_pos rfl] at hc; cases hc
  refine ⟨hs, hx, hn, hc, ?_⟩
  have hk := namedB_kind hn
  unfold chDo at hc
  rw [hn, if_neg (by simp)] at hc
  by_cases k1 : c.kind = 1
  · rw [if_pos k1] at hc
    split at hc; cases hc
    rename_i hnd
    cases hc
    exact .inl ⟨k1, hnd, rfl⟩
  rw [if_neg k1] at hc
  split at hc; cases hc
  rename_i hj
  obtain ⟨j, hj, e1, e2⟩ := nameAt_some hj
  rw [e1, Int.toNat_natCast] at hc
  have eg : s.getD j (kCol 0) = s[j] := by simp [List.getD, hj]
  rw [eg] at hc
  refine .inr ⟨j, hj, e2, e1, ?_⟩
  split at hc
  · cases hc; exact .inl ⟨by assumption, rfl⟩
  rename_i k2
  split at hc
  · cases hc; exact .inr (.inl ⟨by assumption, rfl⟩)
  rename_i k3
  split at hc; cases hc
  rename_i hkk
  cases hc
  exact .inr (.inr ⟨by omega, hkk, rfl⟩)
theorem chDo_at {s : List Col} {c : Change} {j : Nat} (hn : namedB c = true) (k1 : c.kind ≠ 1) (hj : j < s.length) (e : nameAt s c.name = (j : Int)) :
    chDo s c = if c.kind = 2 then some (s.eraseIdx j) else if c.kind = 3 then some (s.set j (ccName s[j] c.new)) else if c.col.kind = s[j].kind then none else some (s.set j (ccKind s[j] c.col.kind)) := by
  have eg : s.getD j (kCol 0) = s[j] := by simp [List.getD, hj]
  unfold chDo
  rw [hn, if_neg (by simp), if_neg k1, e, if_neg (by omega), Int.toNat_natCast, eg]
theorem chDo_un {s : List Col} {c : Change} (k1 : c.kind ≠ 1) (e : nameAt s c.name < 0) : chDo s c = none := by
  unfold chDo
  split; rfl
  simp only [if_neg k1, if_pos e]
theorem chDo_add {s : List Col} {c : Change} (hn : namedB c = true) (k1 : c.kind = 1) (h : ¬ (c.col.need = true ∧ c.col.d.k = 0)) : chDo s c = some (s ++ [c.col]) := by
  unfold chDo
  rw [hn, if_neg (by simp), if_pos k1, if_neg h]
theorem twice_bad {l : List Col} {i j : Nat} (hi : i < l.length) (hj : j < l.length) (hne : i ≠ j) (e : l[i].name = l[j].name) : shapeOk l = false := by
  cases h : shapeOk l with
  | false => rfl
  | true => exact absurd (name_once h hi hj e) hne
theorem erase_no {s : List Col} {j : Nat} (hs : shapeOk s = true) (hj : j < s.length) : nameAt (s.eraseIdx j) s[j].name = -1 := by
  refine nameAt_none fun i hi => ?_
  have hl : (s.eraseIdx j).length = s.length - 1 := by rw [List.length_eraseIdx, if_pos hj]
  rw [List.getElem_eraseIdx]
  split
  · intro e; have := name_once hs (by omega) hj e; omega
  · intro e; have := name_once hs (by omega) hj e; omega
theorem set_no {s : List Col} {j : Nat} {c : Col} (hs : shapeOk s = true) (hj : j < s.length) (hc : c.name ≠ s[j].name) : nameAt (s.set j c) s[j].name = -1 := by
  refine nameAt_none fun i hi => ?_
  rw [List.getElem_set]
  split
  · exact hc
  · intro e
    have := name_once hs (by simpa using hi) hj e; omega
/-- Once more. -/
theorem sdo_twice {s x : List Col} {c : Change} (h : sdo s c = (x, true)) : sdo x c = (x, decide (c.kind = 3) && (c.new.toList == c.name.toList)) := by
  have D := sdo_done h
  rcases D.w with ⟨k, hnd, e⟩ | ⟨j, hj, en, ea, w⟩
  · have hx := D.hx
    rw [show (decide (c.kind = 3) && (c.new.toList == c.name.toList)) = false by rw [k]; rfl]
    refine sdo_not hx (chDo_add D.n k hnd) ?_
    rw [e]
    exact twice_bad (i := s.length) (j := s.length + 1) (by simp) (by simp) (by omega) (by simp)
  · have hx := D.hx
    rcases w with ⟨k, e⟩ | ⟨k, e⟩ | ⟨k, hk, e⟩
    · rw [show (decide (c.kind = 3) && (c.new.toList == c.name.toList)) = false by rw [k]; rfl]
      refine sdo_none hx (chDo_un (by omega) ?_)
      rw [e, ← en, erase_no D.hs hj]; decide
    · cases hc : (c.new.toList == c.name.toList) with
      | false =>
        rw [Bool.and_false]
        refine sdo_none hx (chDo_un (by omega) ?_)
        rw [e, ← en, set_no D.hs hj (by rw [en]; exact tl_bne.1 hc)]; decide
      | true =>
        rw [show (decide (c.kind = 3) && true) = true by rw [k]; rfl]
        have hjx : j < x.length := by rw [e]; simpa using hj
        have hxj : x[j] = ccName s[j] c.new := by simp [e]
        have hat : nameAt x c.name = (j : Int) := nameAt_of hx hjx (by rw [hxj]; exact tl_beq.1 hc)
        have hd := chDo_at D.n (by omega) hjx hat
        rw [if_neg (by omega), if_pos k] at hd
        have e2 : x.set j (ccName x[j] c.new) = x := by
          have : ccName x[j] c.new = x[j] := by rw [hxj]; rfl
          rw [this]; simp
        rw [e2] at hd
        exact sdo_some hx hd hx
    · rw [show (decide (c.kind = 3) && (c.new.toList == c.name.toList)) = false by rw [k]; rfl]
      have hjx : j < x.length := by rw [e]; simpa using hj
      have hxj : x[j] = ccKind s[j] c.col.kind := by simp [e]
      have hat : nameAt x c.name = (j : Int) := nameAt_of hx hjx (by rw [hxj]; exact en)
      have hd := chDo_at D.n (by omega) hjx hat
      rw [if_neg (by omega), if_neg (by omega), if_pos (by rw [hxj]; rfl)] at hd
      exact sdo_none hx hd
theorem named_drop (nm : ByteArray) : namedB ⟨2, nm, ⟨#[]⟩, kCol 0⟩ = true := by simp [namedB, qC_refl]
theorem named_name (nm nw : ByteArray) : namedB ⟨3, nm, nw, kCol 0⟩ = true := by simp [namedB, qC_refl]
/-- What was added can be taken out. -/
theorem sdo_back1 {s x : List Col} {c : Change} (h : sdo s c = (x, true)) (k : c.kind = 1) : sdo x ⟨2, c.col.name, ⟨#[]⟩, kCol 0⟩ = (s, true) := by
  have D := sdo_done h
  rcases D.w with ⟨_, hnd, e⟩ | ⟨j, hj, en, ea, w⟩
  · have hx := D.hx
    have hj : s.length < x.length := by rw [e]; simp
    have hat : nameAt x c.col.name = (s.length : Int) := nameAt_of hx hj (by simp [e])
    have hd := chDo_at (c := ⟨2, c.col.name, ⟨#[]⟩, kCol 0⟩) (named_drop _) (by show (2 : Int) ≠ 1; decide) hj hat
    rw [if_pos rfl] at hd
    have e2 : x.eraseIdx s.length = s := by rw [e]; simp [List.eraseIdx_append_of_length_le]
    rw [e2] at hd
    exact sdo_some hx hd D.hs
  · omega
/-- Named back. -/
theorem sdo_back3 {s x : List Col} {c : Change} (h : sdo s c = (x, true)) (k : c.kind = 3) : sdo x ⟨3, c.new, c.name, kCol 0⟩ = (s, true) := by
  have D := sdo_done h
  rcases D.w with ⟨_, hnd, e⟩ | ⟨j, hj, en, ea, w⟩
  · omega
  · rcases w with ⟨k, e⟩ | ⟨k, e⟩ | ⟨k, hk, e⟩
    · omega
    · have hx := D.hx
      have hjx : j < x.length := by rw [e]; simpa using hj
      have hxj : x[j] = ccName s[j] c.new := by simp [e]
      have hat : nameAt x c.new = (j : Int) := nameAt_of hx hjx (by rw [hxj]; rfl)
      have hd := chDo_at (c := ⟨3, c.new, c.name, kCol 0⟩) (named_name _ _) (by show (3 : Int) ≠ 1; decide) hjx hat
      rw [if_neg (by show (3 : Int) ≠ 2; decide), if_pos rfl] at hd
      have e2 : x.set j (ccName x[j] c.name) = s := by
        have : ccName x[j] c.name = s[j] := by rw [hxj, ← en]; rfl
        rw [this, e]; simp
      rw [e2] at hd
      exact sdo_some hx hd D.hs
    · omega
theorem fzC (x : List Col) : ((x.map encCol).drop 0).take x.length = x.map encCol := by rw [List.drop_zero, List.take_of_length_le (by simp)]
theorem fzV (x : List Val) : ((x.map encVal).drop 0).take x.length = x.map encVal := by rw [List.drop_zero, List.take_of_length_le (by simp)]
theorem sdo_le {s x : List Col} {c : Change} {b : Bool} (h : sdo s c = (x, b)) : x.length ≤ s.length + 1 := by
  have := @sdo_len s c; rw [h] at this; exact this
theorem sdo_sm {s x : List Col} {c : Change} {b : Bool} (h : sdo s c = (x, b)) (hs : mdCols s) (hc : c.md) : mdCols x := by
  have := sdo_md hs hc; rw [h] at this; exact this
end Go.Vl
