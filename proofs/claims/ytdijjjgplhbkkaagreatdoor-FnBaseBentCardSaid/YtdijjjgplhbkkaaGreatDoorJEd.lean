/- Contracts: a value read from its text. The plain laws of values: what is turned into another kind, and what is read. Contracts: columns behind a change. Contracts: columns behind a change, of both; the reference's way. Contracts: columns behind a change, the reference's; a row behind a change, of both. -/
import Derived.Test.YtdijjjgplhbkkaaGreatDoorJEc
import Derived.Test.YtdijjjgplhbkkaaGreatDoorJEa
set_option linter.unusedSimpArgs false
set_option linter.unusedVariables false
set_option linter.unnecessarySimpa false
set_option maxRecDepth 100000
set_option maxHeartbeats 16000000

namespace Go.Vl
open Go Go.RowKit Go.Proofs
theorem ba_ext {a b : ByteArray} (h : a.data.toList = b.data.toList) : a = b := by
  apply ByteArray.ext; exact Array.toList_inj.1 h
theorem tl_ext {a b : ByteArray} (h : a.toList = b.toList) : a = b := by
  rw [ByteArray.toList_eq, ByteArray.toList_eq] at h; exact ba_ext h
theorem zero_ok : valOk ⟨0, 0, ⟨#[]⟩⟩ = true := by decide +kernel
theorem valOk_nil {v : Val} (h : valOk v = true) (hk : v.k = 0) : v = ⟨0, 0, ⟨#[]⟩⟩ := by
  obtain ⟨k, n, t⟩ := v
  simp only at hk; subst hk
  unfold valOk at h
  simp only [if_true, Bool.and_eq_true, beq_iff_eq] at h
  obtain ⟨h1, h2⟩ := h
  subst h1
  rw [tl_ext (h2.trans emptyList.symm)]
theorem valOk_one {v : Val} (h : valOk v = true) (hk : v.k = 1) : v = ⟨1, v.n, ⟨#[]⟩⟩ ∧ -999 ≤ v.n ∧ v.n ≤ 999 := by
  obtain ⟨k, n, t⟩ := v
  simp only at hk; subst hk
  unfold valOk at h
  simp [Bool.and_eq_true, beq_iff_eq] at h
  obtain ⟨⟨h1, h3⟩, h2⟩ := h
  rw [tl_ext (h2.trans emptyList.symm)]
  exact ⟨rfl, h1, h3⟩
theorem num_text : ∀ i : Fin 1999, valOk ⟨2, 0, bl (Lib.itoa ((i.val : Int) - 999))⟩ = true := by decide +kernel
theorem num_text' {n : Int} (h : -999 ≤ n ∧ n ≤ 999) : valOk ⟨2, 0, bl (Lib.itoa n)⟩ = true := by
  have := num_text ⟨(n + 999).toNat, by omega⟩
  rwa [show (((n + 999).toNat : Nat) : Int) - 999 = n by omega] at this
theorem numV_cases (t : ByteArray) : (∃ n, -999 ≤ n ∧ n ≤ 999 ∧ numOf t.data.toList = some n ∧ numV t = ⟨1, n, ⟨#[]⟩⟩) ∨ numV t = ⟨0, 0, ⟨#[]⟩⟩ := by
  unfold numV
  cases e : numOf t.data.toList with
  | none => exact .inr rfl
  | some n =>
    simp only
    by_cases h : -999 ≤ n ∧ n ≤ 999
    · rw [if_pos h]; exact .inl ⟨n, h.1, h.2, rfl, rfl⟩
    · rw [if_neg h]; exact .inr rfl
theorem num1_ok {n : Int} (h : -999 ≤ n ∧ n ≤ 999) : valOk ⟨1, n, ⟨#[]⟩⟩ = true := by rw [valOk_n]; simp; omega
theorem valAs_no {v : Val} {kd : Int} (h : valOk v = false ∨ ¬ (kd = 1 ∨ kd = 2)) : valAs v kd = ⟨0, 0, ⟨#[]⟩⟩ := by
  unfold valAs
  rw [if_neg]
  rintro ⟨h1, h2, _⟩
  rcases h with h | h
  · rw [h] at h1; cases h1
  · exact h h2
theorem valAs_nil (kd : Int) : valAs ⟨0, 0, ⟨#[]⟩⟩ kd = ⟨0, 0, ⟨#[]⟩⟩ := by
  unfold valAs
  rw [if_neg]
  rintro ⟨_, _, h⟩
  exact h rfl
theorem valAs_same {v : Val} {kd : Int} (h : valOk v = true) (hk : kd = 1 ∨ kd = 2) (e : v.k = kd) : valAs v kd = v := by
  unfold valAs
  rw [if_pos ⟨h, hk, by omega⟩, if_pos e]
theorem valAs_nt {v : Val} (h : valOk v = true) (hk : v.k = 1) : valAs v 2 = ⟨2, 0, bl (Lib.itoa v.n)⟩ := by
  unfold valAs
  rw [if_pos ⟨h, .inr rfl, by omega⟩, if_neg (by omega), if_pos rfl]
theorem valAs_tn {v : Val} (h : valOk v = true) (hk : v.k = 2) : valAs v 1 = numV v.t := by
  unfold valAs
  rw [if_pos ⟨h, .inl rfl, by omega⟩, if_neg (by omega), if_neg (by omega)]
theorem valAs_cases (v : Val) (kd : Int) : valAs v kd = ⟨0, 0, ⟨#[]⟩⟩ ∨ (valOk v = true ∧ (kd = 1 ∨ kd = 2) ∧ v.k = kd ∧ valAs v kd = v) ∨
    (valOk v = true ∧ v.k = 1 ∧ kd = 2 ∧ valAs v kd = ⟨2, 0, bl (Lib.itoa v.n)⟩) ∨ (valOk v = true ∧ v.k = 2 ∧ kd = 1 ∧ ∃ n, -999 ≤ n ∧ n ≤ 999 ∧ numOf v.t.data.toList = some n ∧ valAs v kd = ⟨1, n, ⟨#[]⟩⟩) := by
  by_cases h : valOk v = true
  · by_cases hk : kd = 1 ∨ kd = 2
    · rcases valOk_kind h with e | e | e
      · left; rw [valOk_nil h e]; exact valAs_nil kd
      · rcases hk with rfl | rfl
        · exact .inr (.inl ⟨h, .inl rfl, e, valAs_same h (.inl rfl) e⟩)
        · exact .inr (.inr (.inl ⟨h, e, rfl, valAs_nt h e⟩))
      · rcases hk with rfl | rfl
        · rcases numV_cases v.t with ⟨n, h1, h2, h3, h4⟩ | h4
          · exact .inr (.inr (.inr ⟨h, e, rfl, n, h1, h2, h3, (valAs_tn h e).trans h4⟩))
          · exact .inl ((valAs_tn h e).trans h4)
        · exact .inr (.inl ⟨h, .inr rfl, e, valAs_same h (.inr rfl) e⟩)
    · exact .inl (valAs_no (.inr hk))
  · exact .inl (valAs_no (.inl (by simpa using h)))
theorem valAs_ok (v : Val) (kd : Int) : valOk (valAs v kd) = true := by
  rcases valAs_cases v kd with e | ⟨h, _, _, e⟩ | ⟨h, h1, _, e⟩ | ⟨h, h1, _, n, h2, h3, _, e⟩
  · rw [e]; exact zero_ok
  · rw [e]; exact h
  · rw [e]; exact num_text' (valOk_one h h1).2
  · rw [e]; exact num1_ok ⟨h2, h3⟩
theorem valAs_size (v : Val) (kd : Int) : (valAs v kd).t.size ≤ 4 := by
  have h := valAs_ok v kd
  rcases valOk_kind h with e | e | e
  · rw [valOk_nil h e]; decide
  · rw [(valOk_one h e).1]; show (⟨#[]⟩ : ByteArray).size ≤ 4; decide
  · exact valOk_text h e
def Col.md (c : Col) : Prop := c.name.size ≤ 1048576 ∧ c.d.t.size ≤ 1048576
def mdCols (l : List Col) : Prop := ∀ x ∈ l, x.md
def Change.md (c : Change) : Prop := c.name.size ≤ 1048576 ∧ c.new.size ≤ 1048576 ∧ c.col.md
def ccName (x : Col) (s : ByteArray) : Col := ⟨s, x.kind, x.need, x.once, x.d⟩
def ccKind (x : Col) (k : Int) : Col := ⟨x.name, k, x.need, x.once, valAs x.d k⟩
def chDo (s : List Col) (c : Change) : Option (List Col) :=
  if namedB c = false then none
  else if c.kind = 1 then (if c.col.need = true ∧ c.col.d.k = 0 then none else some (s ++ [c.col]))
  else if nameAt s c.name < 0 then none
  else if c.kind = 2 then some (s.eraseIdx (nameAt s c.name).toNat)
  else if c.kind = 3 then some (s.set (nameAt s c.name).toNat (ccName (s.getD (nameAt s c.name).toNat (kCol 0)) c.new))
  else if c.col.kind = (s.getD (nameAt s c.name).toNat (kCol 0)).kind then none
  else some (s.set (nameAt s c.name).toNat (ccKind (s.getD (nameAt s c.name).toNat (kCol 0)) c.col.kind))
def okO (s : List Col) (o : Option (List Col)) : List Col × Bool := match o with
  | some out => if shapeOk out then (out, true) else (s, false)
  | none => (s, false)
def shDo (s : List Col) (c : Change) : List Col × Bool := okO s (chDo s c)
abbrev shS (x : List Col × Bool) : Slot := .tup [(false, [.own 0 0 x.1.length]), (false, [.g (.bool x.2)])]
abbrev shN (x : List Col × Bool) : List Ob := [.arr 39 7 (x.1.map encCol)]
theorem mdCols.ok {l : List Col} (h : mdCols l) : ∀ c ∈ l, c.ok := fun c hc => ⟨by have := (h c hc).1; unfold maxLen; omega, by have := (h c hc).2; show c.d.t.size ≤ maxLen; unfold maxLen; omega⟩
theorem mdCols.app {l : List Col} {c : Col} (h : mdCols l) (hc : c.md) : mdCols (l ++ [c]) := by
  intro x hx
  rcases List.mem_append.1 hx with hx | hx
  · exact h x hx
  · simp at hx; subst hx; exact hc
theorem mdCols.set {l : List Col} {c : Col} {i : Nat} (h : mdCols l) (hc : c.md) : mdCols (l.set i c) := by
  intro x hx
  rcases List.mem_or_eq_of_mem_set hx with hx | rfl
  · exact h x hx
  · exact hc
theorem mdCols.erase {l : List Col} {i : Nat} (h : mdCols l) : mdCols (l.eraseIdx i) := fun x hx => h x (List.mem_of_mem_eraseIdx hx)
theorem md_getD {l : List Col} {i : Nat} (h : mdCols l) (hi : i < l.length) : (l.getD i (kCol 0)).md := by
  have e : l.getD i (kCol 0) = l[i] := by simp [List.getD, hi]
  rw [e]; exact h _ (List.getElem_mem hi)
theorem brwE {l : List Col} {k : Nat} (h : k < l.length) (z : Col) : Slot.one (.imm 7 ((((l.eraseIdx k ++ [z]).map encCol).drop 0).take (l.length - 1))) = colsI (l.eraseIdx k) := by
  have e : (l.eraseIdx k).length = l.length - 1 := by rw [List.length_eraseIdx, if_pos h]
  rw [List.drop_zero, List.map_append, List.take_left' (by rw [List.length_map, e])]; rfl
theorem grNewCol (n : Nat) (l : List Col) : GrS (.one (.own 0 0 n)) ∧ (∀ ob, some ob ∈ ([] : List (Option Ob)) → GrO ob) ∧ ∀ ob ∈ [Ob.arr 39 7 (l.map encCol)], GrO ob :=
  ⟨rfl, fun _ h => by simp at h, fun ob h => by simp at h; subst h; exact grCols l⟩
theorem namedB_kind {c : Change} (h : namedB c = true) : c.kind = 1 ∨ c.kind = 2 ∨ c.kind = 3 ∨ c.kind = 4 := by
  unfold namedB at h
  split at h; exact .inl ‹_›
  split at h; exact .inr (.inl ‹_›)
  split at h; exact .inr (.inr (.inl ‹_›))
  split at h; exact .inr (.inr (.inr ‹_›))
  cases h
theorem c_change (s : List Col) (c : Change) (hl : s.length ≤ 1900000) (hs : mdCols s) (hc : c.md) : CallsV Tryz.prog 142 [colsI s, .agg (encChange c)] [] (funQ (shS (shDo s c)) [] (shN (shDo s c))) := by
  obtain ⟨kd, nm, nw, ⟨cn, ck, c1, c2, ⟨d1, d2, d3⟩⟩⟩ := c
  have cN := c_named ⟨kd, nm, nw, ⟨cn, ck, c1, c2, ⟨d1, d2, d3⟩⟩⟩
  have cA := c_colAt s nm (by unfold maxLen; omega)
  have c0 := c_cloneCol s (by omega)
  have hok := fun (l : List Col) (h : mdCols l) (hn : l.length ≤ 2000000) => c_implShapeOk l (by unfold maxLen; omega) h.ok
  obtain ⟨hc1, hc2, hc3⟩ := hc
  simp only at hc1 hc2 hc3
  obtain ⟨b, hb⟩ : ∃ b, namedB ⟨kd, nm, nw, ⟨cn, ck, c1, c2, ⟨d1, d2, d3⟩⟩⟩ = b := ⟨_, rfl⟩
  rw [hb] at cN
  obtain ⟨r, hr⟩ : ∃ r, chDo s ⟨kd, nm, nw, ⟨cn, ck, c1, c2, ⟨d1, d2, d3⟩⟩⟩ = r := ⟨_, rfl⟩
  unfold shDo
  rw [hr]
  unfold chDo at hr
  rw [hb] at hr
  simp only at hr
  cases b
  · rw [if_pos rfl] at hr
    subst hr
    refine funF_walk hTb Tryz.func142 rfl rfl Tryz.ntmps142 (by simp) (by simp) ?_
    (conv => whnf); repeat' ((first | (refine And.intro ?_ ?_ <;> ((try intro h) <;> (try simp only [gS] at h) <;> first | exact absurd h gF | exact absurd h.symm gF | conv => whnf)) | (refine VR.pure hTb rfl rfl (o_purN (cN) rfl rfl rfl gQ rfl) ?_) | (refine VR.pure hTb rfl rfl (o_purN (cA) rfl rfl rfl gQ rfl) ?_) | (refine VR.fun hTb rfl rfl (o_funN (c0) false [] gN (by simp) rfl rfl rfl rfl rfl gQ rfl rfl) ?_)) <;> conv => whnf)
    all_goals exact endW [1036] rfl rfl rfl rfl rfl (LeS.refl _) rfl rfl
  have hk := namedB_kind hb
  simp only at hk
  rw [if_neg (by simp)] at hr
  by_cases hk1 : kd = 1
  · subst hk1
    rw [if_pos rfl] at hr
    by_cases hd : c1 = true ∧ d1 = 0
    · obtain ⟨rfl, rfl⟩ := hd
      rw [if_pos ⟨rfl, rfl⟩] at hr
      subst hr
      refine funF_walk hTb Tryz.func142 rfl rfl Tryz.ntmps142 (by simp) (by simp) ?_
      (conv => whnf); repeat' ((first | (refine And.intro ?_ ?_ <;> ((try intro h) <;> (try simp only [gS] at h) <;> first | exact absurd h gF | exact absurd h.symm gF | conv => whnf)) | (refine VR.pure hTb rfl rfl (o_purN (cN) rfl rfl rfl gQ rfl) ?_) | (refine VR.pure hTb rfl rfl (o_purN (cA) rfl rfl rfl gQ rfl) ?_) | (refine VR.fun hTb rfl rfl (o_funN (c0) false [] gN (by simp) rfl rfl rfl rfl rfl gQ rfl rfl) ?_)) <;> conv => whnf)
      all_goals (first
      | rfl
      | exact endW [1036] rfl rfl rfl rfl rfl (LeS.refl _) rfl rfl
      | exact endW [1392] rfl rfl rfl rfl rfl (LeS.refl _) rfl rfl
      | exact endW [1400] rfl rfl rfl rfl rfl (LeS.refl _) rfl rfl)
    · rw [if_neg hd] at hr
      subst hr
      have hmd : mdCols (s ++ [⟨cn, ck, c1, c2, ⟨d1, d2, d3⟩⟩]) := hs.app hc3
      have cS := hok _ hmd (by simp; omega)
      have cC := c_cloneCol (s ++ [⟨cn, ck, c1, c2, ⟨d1, d2, d3⟩⟩]) (by simp; omega)
      obtain ⟨x, hx⟩ : ∃ x, shapeOk (s ++ [⟨cn, ck, c1, c2, ⟨d1, d2, d3⟩⟩]) = x := ⟨_, rfl⟩
      rw [hx] at cS
      have hr2 : okO s (some (s ++ [⟨cn, ck, c1, c2, ⟨d1, d2, d3⟩⟩])) = if x then (s ++ [⟨cn, ck, c1, c2, ⟨d1, d2, d3⟩⟩], true) else (s, false) := by simp only [okO, hx]
      rw [hr2]
      refine funF_walk hTb Tryz.func142 rfl rfl Tryz.ntmps142 (by simp) (by simp) ?_
      cases x <;> cases c1 <;> (conv => whnf); repeat' ((first | (refine And.intro ?_ ?_ <;> ((try intro h) <;> (try simp only [gS] at h) <;> first | exact absurd h gF | exact absurd h.symm gF | conv => whnf)) | (refine VR.pure hTb rfl rfl (o_purN (cN) rfl rfl rfl gQ rfl) ?_) | (refine VR.pure hTb rfl rfl (o_purN (cA) rfl rfl rfl gQ rfl) ?_) | (refine VR.fun hTb rfl rfl (o_funN (c0) false [] gN (by simp) rfl rfl rfl rfl rfl gQ rfl rfl) ?_) | (refine VR.opk hTb rfl rfl (o_app1 (q := 146) (a := ⟨_, _, _, _, ⟨_, _, _⟩⟩) hTb rfl rfl rfl rfl rfl rfl rfl rfl rfl rfl rfl rfl (by omega) (by show _ * 64 ≤ _; omega) (by unfold maxLen; omega)) ?_) | (refine VR.pure hTb rfl rfl (o_purN (cS) rfl rfl rfl gQ (congrArg (fun s => [s]) (brwG (by simp)))) ?_) | (refine VR.fun hTb rfl rfl (o_funN (cC) true [] (fun _ => grNewCol _ _) (by simp) rfl rfl rfl rfl rfl gQ ?_ rfl) ?_; exact congrArg (fun s => [s]) (brwG (by simp)))) <;> conv => whnf)
      all_goals (first
      | rfl
      | exact endW [1036] rfl rfl rfl rfl rfl (LeS.refl _) rfl rfl
      | exact endW [1392] rfl rfl rfl rfl rfl (LeS.refl _) rfl rfl
      | exact endW [1400] rfl rfl rfl rfl rfl (LeS.refl _) rfl rfl
      | (exfalso; clear cN cA c0 hok cS cC; simp_all; done))
  rw [if_neg hk1] at hr
  rcases nameAt_spec s nm with ⟨hn, _⟩ | ⟨j, hj, hn, _⟩
  · rw [hn] at cA hr
    rw [if_pos (by omega)] at hr
    subst hr
    rcases hk with rfl | rfl | rfl | rfl
    · exact absurd rfl hk1
    all_goals
      refine funF_walk hTb Tryz.func142 rfl rfl Tryz.ntmps142 (by simp) (by simp) ?_
      (conv => whnf); repeat' ((first | (refine And.intro ?_ ?_ <;> ((try intro h) <;> (try simp only [gS] at h) <;> first | exact absurd h gF | exact absurd h.symm gF | conv => whnf)) | (refine VL.drawS hTb hMix (by kernel_rfl) (by kernel_rfl) (by kernel_rfl) ?_) | ((exfalso; omega)) | (refine VR.pure hTb rfl rfl (o_purN (cN) rfl rfl rfl gQ rfl) ?_) | (refine VR.pure hTb rfl rfl (o_purN (cA) rfl rfl rfl gQ rfl) ?_) | (refine VR.fun hTb rfl rfl (o_funN (c0) false [] gN (by simp) rfl rfl rfl rfl rfl gQ rfl rfl) ?_)) <;> conv => whnf)
    all_goals (first
      | rfl
      | exact endW [1036] rfl rfl rfl rfl rfl (LeS.refl _) rfl rfl
      | exact endW [1392] rfl rfl rfl rfl rfl (LeS.refl _) rfl rfl
      | exact endW [1400] rfl rfl rfl rfl rfl (LeS.refl _) rfl rfl)
  rw [hn] at cA hr
  rw [if_neg (by omega), Int.toNat_natCast] at hr
  have eg : s.getD j (kCol 0) = s[j] := by simp [List.getD, hj]
  rw [eg] at hr
  have hmj : s[j].md := hs _ (List.getElem_mem hj)
  have hrow : s[0 + ((j : Nat) : Int).toNat]? = some s[j] := by rw [Int.toNat_natCast, Nat.zero_add, List.getElem?_eq_getElem hj]
  have hset : ∀ v : Col, s.set j v = s.set (0 + ((j : Nat) : Int).toNat) v := fun v => by rw [Int.toNat_natCast, Nat.zero_add]
  have ew : IntKind.i64.wrap ((j : Int) + 1) = ((j + 1 : Nat) : Int) := by rw [IntKind.wrap_i64]; omega
  rcases hk with rfl | rfl | rfl | rfl
  · exact absurd rfl hk1
  · -- taken out
    rw [if_pos rfl] at hr
    subst hr
    have hmd : mdCols (s.eraseIdx j) := hs.erase
    have hlen : (s.eraseIdx j).length ≤ s.length := List.length_eraseIdx_le _ _
    have cS := hok _ hmd (by omega)
    have cC := c_cloneCol (s.eraseIdx j) (by omega)
    have cD := c_DeleteCol s j hj (by omega)
    obtain ⟨x, hx⟩ : ∃ x, shapeOk (s.eraseIdx j) = x := ⟨_, rfl⟩
    rw [hx] at cS
    have hr2 : okO s (some (s.eraseIdx j)) = if x then (s.eraseIdx j, true) else (s, false) := by simp only [okO, hx]
    rw [hr2]
    refine funF_walk hTb Tryz.func142 rfl rfl Tryz.ntmps142 (by simp) (by simp) ?_
    cases x <;> (conv => whnf); repeat' ((first | (refine And.intro ?_ ?_ <;> ((try intro h) <;> (try simp only [gS] at h) <;> first | exact absurd h gF | exact absurd h.symm gF | conv => whnf)) | ((exfalso; omega)) | (refine VR.pure hTb rfl rfl (o_purN (cN) rfl rfl rfl gQ rfl) ?_) | (refine VR.pure hTb rfl rfl (o_purN (cA) rfl rfl rfl gQ rfl) ?_) | (refine VR.fun hTb rfl rfl (o_funN (c0) false [] gN (by simp) rfl rfl rfl rfl rfl gQ rfl rfl) ?_) | (refine VR.fun hTb rfl rfl (o_funN cD false [1036] gN (by simp) rfl rfl rfl rfl rfl gQ ?_ rfl) ?_; exact congrArg (fun x => [Slot.one (.own 0 0 s.length), iS j, .one (.g (.int .i64 x))]) ew) | (refine VR.pure hTb rfl rfl (o_purN cS rfl rfl rfl gQ ?_) ?_; exact congrArg (fun s => [s]) (brwE hj _)) | (refine VR.fun hTb rfl rfl (o_funN (cC) true [] (fun _ => grNewCol _ _) (by simp) rfl rfl rfl rfl rfl gQ ?_ rfl) ?_; exact congrArg (fun s => [s]) (brwE hj _))) <;> conv => whnf)
    all_goals (first
      | rfl
      | exact endW [1036] rfl rfl rfl rfl rfl (LeS.refl _) rfl rfl
      | exact endW [1392] rfl rfl rfl rfl rfl (LeS.refl _) rfl rfl
      | exact endW [1400] rfl rfl rfl rfl rfl (LeS.refl _) rfl rfl)
  · -- named otherwise
    rw [if_neg (by omega), if_pos rfl, hset] at hr
    generalize s[j] = sj at hrow hr hmj
    obtain ⟨x1, x2, x3, x4, ⟨x5, x6, x7⟩⟩ := sj
    subst hr
    have hmd : mdCols (s.set (0 + ((j : Nat) : Int).toNat) (ccName ⟨x1, x2, x3, x4, ⟨x5, x6, x7⟩⟩ nw)) := hs.set ⟨hc2, hmj.2⟩
    simp only [ccName] at hmd ⊢
    have cS := hok _ hmd (by simp; omega)
    have cC := c_cloneCol (s.set (0 + ((j : Nat) : Int).toNat) ⟨nw, x2, x3, x4, ⟨x5, x6, x7⟩⟩) (by simp; omega)
    obtain ⟨x, hx⟩ : ∃ x, shapeOk (s.set (0 + ((j : Nat) : Int).toNat) ⟨nw, x2, x3, x4, ⟨x5, x6, x7⟩⟩) = x := ⟨_, rfl⟩
    rw [hx] at cS
    have hr2 : okO s (some (s.set (0 + ((j : Nat) : Int).toNat) ⟨nw, x2, x3, x4, ⟨x5, x6, x7⟩⟩)) = if x then (s.set (0 + ((j : Nat) : Int).toNat) ⟨nw, x2, x3, x4, ⟨x5, x6, x7⟩⟩, true) else (s, false) := by simp only [okO, hx]
    rw [hr2]
    refine funF_walk hTb Tryz.func142 rfl rfl Tryz.ntmps142 (by simp) (by simp) ?_
    cases x <;> (conv => whnf); repeat' ((first | (refine And.intro ?_ ?_ <;> ((try intro h) <;> (try simp only [gS] at h) <;> first | exact absurd h gF | exact absurd h.symm gF | conv => whnf)) | ((exfalso; omega)) | (refine VR.pure hTb rfl rfl (o_purN (cN) rfl rfl rfl gQ rfl) ?_) | (refine VR.pure hTb rfl rfl (o_purN (cA) rfl rfl rfl gQ rfl) ?_) | (refine VR.fun hTb rfl rfl (o_funN (c0) false [] gN (by simp) rfl rfl rfl rfl rfl gQ rfl rfl) ?_) | (refine Need.mk ?_; exact ⟨rfl, by omega, by omega⟩) | (refine VR.op hTb rfl rfl (o_storeM hTb rfl rfl rfl rfl rfl (hrow) rfl rfl rfl ⟨rfl, by decide⟩ (c' := ⟨_, _, _, _, ⟨_, _, _⟩⟩) rfl) rfl ?_) | (refine VR.pure hTb rfl rfl (o_purN cS rfl rfl rfl gQ ?_) ?_; exact congrArg (fun s => [s]) (brwG (by simp))) | (refine VR.fun hTb rfl rfl (o_funN (cC) true [] (fun _ => grNewCol _ _) (by simp) rfl rfl rfl rfl rfl gQ ?_ rfl) ?_; exact congrArg (fun s => [s]) (brwG (by simp)))) <;> conv => whnf)
    all_goals (first
      | rfl
      | exact endW [1036] rfl rfl rfl rfl rfl (LeS.refl _) rfl rfl
      | exact endW [1392] rfl rfl rfl rfl rfl (LeS.refl _) rfl rfl
      | exact endW [1400] rfl rfl rfl rfl rfl (LeS.refl _) rfl rfl)
  · -- of another kind
    rw [if_neg (by omega), if_neg (by omega), hset] at hr
    generalize s[j] = sj at hrow hr hmj
    obtain ⟨x1, x2, x3, x4, ⟨x5, x6, x7⟩⟩ := sj
    have cV := c_implValAs x5 x6 x7 ck (by have := hmj.2; simp only at this; omega)
    obtain ⟨⟨y1, y2, y3⟩, hy⟩ : ∃ y, valAs ⟨x5, x6, x7⟩ ck = y := ⟨_, rfl⟩
    have hys := valAs_size ⟨x5, x6, x7⟩ ck
    rw [hy] at cV hys
    by_cases he : ck = x2
    · rw [if_pos he] at hr
      subst he
      subst hr
      refine funF_walk hTb Tryz.func142 rfl rfl Tryz.ntmps142 (by simp) (by simp) ?_
      (conv => whnf); repeat' ((first | (refine And.intro ?_ ?_ <;> ((try intro h) <;> (try simp only [gS] at h) <;> first | exact absurd h gF | exact absurd h.symm gF | conv => whnf)) | (refine VL.drawS hTb hMix (by kernel_rfl) (by kernel_rfl) (by kernel_rfl) ?_) | (refine Need.mk ?_; kernel_rfl) | ((exfalso; omega)) | (refine VR.pure hTb rfl rfl (o_purN (cN) rfl rfl rfl gQ rfl) ?_) | (refine VR.pure hTb rfl rfl (o_purN (cA) rfl rfl rfl gQ rfl) ?_) | (refine VR.fun hTb rfl rfl (o_funN (c0) false [] gN (by simp) rfl rfl rfl rfl rfl gQ rfl rfl) ?_) | (refine Need.mk ?_; exact ⟨rfl, by omega, by omega⟩) | (refine DT.op hTb rfl (o_loadM hTb rfl rfl rfl rfl (hrow) ⟨by decide, by decide⟩) rfl ?_)) <;> conv => whnf)
      all_goals (first
        | exact endW [1036] rfl rfl rfl rfl rfl (LeS.refl _) rfl rfl
        | (exfalso; clear cN cA c0 hok cV; simp_all; done))
    · rw [if_neg he] at hr
      simp only [ccKind, hy] at hr
      have hrow2 : (s.set (0 + ((j : Nat) : Int).toNat) ⟨x1, ck, x3, x4, ⟨x5, x6, x7⟩⟩)[0 + ((j : Nat) : Int).toNat]? = some ⟨x1, ck, x3, x4, ⟨x5, x6, x7⟩⟩ := by rw [Int.toNat_natCast, Nat.zero_add, List.getElem?_set_self hj]
      have e2 : s.set (0 + ((j : Nat) : Int).toNat) ⟨x1, ck, x3, x4, ⟨y1, y2, y3⟩⟩ = (s.set (0 + ((j : Nat) : Int).toNat) ⟨x1, ck, x3, x4, ⟨x5, x6, x7⟩⟩).set (0 + ((j : Nat) : Int).toNat) ⟨x1, ck, x3, x4, ⟨y1, y2, y3⟩⟩ := by rw [List.set_set]
      subst hr
      have hmd : mdCols (s.set (0 + ((j : Nat) : Int).toNat) ⟨x1, ck, x3, x4, ⟨y1, y2, y3⟩⟩) := hs.set ⟨hmj.1, by simp only at hys ⊢; omega⟩
      have cS := hok _ hmd (by simp; omega)
      have cC := c_cloneCol (s.set (0 + ((j : Nat) : Int).toNat) ⟨x1, ck, x3, x4, ⟨y1, y2, y3⟩⟩) (by simp; omega)
      obtain ⟨x, hx⟩ : ∃ x, shapeOk (s.set (0 + ((j : Nat) : Int).toNat) ⟨x1, ck, x3, x4, ⟨y1, y2, y3⟩⟩) = x := ⟨_, rfl⟩
      rw [hx] at cS
      have hr2 : okO s (some (s.set (0 + ((j : Nat) : Int).toNat) ⟨x1, ck, x3, x4, ⟨y1, y2, y3⟩⟩)) = if x then (s.set (0 + ((j : Nat) : Int).toNat) ⟨x1, ck, x3, x4, ⟨y1, y2, y3⟩⟩, true) else (s, false) := by simp only [okO, hx]
      rw [hr2]
      rw [e2] at cS cC
      rw [e2]
      refine funF_walk hTb Tryz.func142 rfl rfl Tryz.ntmps142 (by simp) (by simp) ?_
      cases x <;> (conv => whnf); repeat' ((first | (refine And.intro ?_ ?_ <;> ((try intro h) <;> (try simp only [gS] at h) <;> first | exact absurd h gF | exact absurd h.symm gF | conv => whnf)) | (refine VL.drawS hTb hMix (by kernel_rfl) (by kernel_rfl) (by kernel_rfl) ?_) | (refine Need.mk ?_; kernel_rfl) | ((exfalso; omega)) | (refine VR.pure hTb rfl rfl (o_purN (cN) rfl rfl rfl gQ rfl) ?_) | (refine VR.pure hTb rfl rfl (o_purN (cA) rfl rfl rfl gQ rfl) ?_) | (refine VR.fun hTb rfl rfl (o_funN (c0) false [] gN (by simp) rfl rfl rfl rfl rfl gQ rfl rfl) ?_) | (refine Need.mk ?_; exact ⟨rfl, by omega, by omega⟩) | (refine DT.op hTb rfl (o_loadM hTb rfl rfl rfl rfl (hrow) ⟨by decide, by decide⟩) rfl ?_) | (refine DT.op hTb rfl (o_storeM hTb rfl rfl rfl rfl rfl (hrow) rfl rfl rfl ⟨rfl, by decide⟩ (c' := ⟨_, _, _, _, ⟨_, _, _⟩⟩) rfl) rfl ?_) | (refine DT.pure hTb rfl (o_purN (cV) rfl rfl rfl gQ rfl) ?_) | (refine DT.op hTb rfl (o_storeM hTb rfl rfl rfl rfl rfl (hrow2) rfl rfl rfl ⟨rfl, by decide⟩ (c' := ⟨_, _, _, _, ⟨_, _, _⟩⟩) rfl) rfl ?_) | (refine VR.pure hTb rfl rfl (o_purN cS rfl rfl rfl gQ ?_) ?_; exact congrArg (fun s => [s]) (brwG (by simp))) | (refine VR.fun hTb rfl rfl (o_funN (cC) true [] (fun _ => grNewCol _ _) (by simp) rfl rfl rfl rfl rfl gQ ?_ rfl) ?_; exact congrArg (fun s => [s]) (brwG (by simp)))) <;> conv => whnf)
      all_goals (first
        | rfl
        | exact endW [1392] rfl rfl rfl rfl rfl (LeS.refl _) rfl rfl
        | exact endW [1400] rfl rfl rfl rfl rfl (LeS.refl _) rfl rfl
        | (exfalso; clear cN cA c0 hok cV cS cC; simp_all; done))
theorem nott {b : Bool} (h : (!b) = true) : b = false := by cases b <;> simp_all
theorem notf {b : Bool} (h : (!b) = false) : b = true := by cases b <;> simp_all
theorem q_Val_iff' (a b : Val) : q_Val a b = true ↔ a.k = b.k ∧ a.n = b.n ∧ a.t.toList = b.t.toList := by simp [q_Val]
theorem q_Col_iff' (a b : Col) : q_Col a b = true ↔ a.name.toList = b.name.toList ∧ a.kind = b.kind ∧ a.need = b.need ∧ a.once = b.once ∧ a.d.k = b.d.k ∧ a.d.n = b.d.n ∧ a.d.t.toList = b.d.t.toList := by
  simp [q_Col, q_Val_iff']
theorem q_Col_comm' (a b : Col) : q_Col a b = q_Col b a := by
  rw [Bool.eq_iff_iff, q_Col_iff', q_Col_iff']
  constructor <;> rintro ⟨h1, h2, h3, h4, h5, h6, h7⟩ <;> exact ⟨h1.symm, h2.symm, h3.symm, h4.symm, h5.symm, h6.symm, h7.symm⟩
theorem ch_eq (s : List Col) (c : Change) : chDo s c =
    if c.kind = 1 then (if c.name.toList = (⟨#[]⟩ : ByteArray).toList ∧ c.new.toList = (⟨#[]⟩ : ByteArray).toList ∧ (c.col.need = false ∨ c.col.d.k ≠ 0) then some (s ++ [c.col]) else none)
    else if nameAt s c.name < 0 ∨ q_Col c.col (kCol (if c.kind = 4 then c.col.kind else 0)) = false then none
    else if c.kind = 2 then (if c.new.toList = (⟨#[]⟩ : ByteArray).toList then some (s.eraseIdx (nameAt s c.name).toNat) else none)
    else if c.kind = 3 then some (s.set (nameAt s c.name).toNat (ccName (s.getD (nameAt s c.name).toNat (kCol 0)) c.new))
    else if c.kind = 4 then (if c.new.toList = (⟨#[]⟩ : ByteArray).toList ∧ c.col.kind ≠ (s.getD (nameAt s c.name).toNat (kCol 0)).kind then some (s.set (nameAt s c.name).toNat (ccKind (s.getD (nameAt s c.name).toNat (kCol 0)) c.col.kind)) else none)
    else none := by
  unfold chDo namedB
  rw [q_Col_comm' c.col]
  simp only [emptyList]
  by_cases h1 : c.kind = 1
  · simp only [if_pos h1]
    by_cases h2 : c.name.toList = []
    · by_cases h3 : c.new.toList = []
      · cases hn : c.col.need <;> by_cases h4 : c.col.d.k = 0 <;> simp [h2, h3, h4]
      · have h3' := Ne.symm h3; simp [h3, h3']
    · have h2' := Ne.symm h2; simp [h2, h2']
  · simp only [if_neg h1]
    by_cases h2 : c.kind = 2
    · have h4 : c.kind ≠ 4 := by omega
      simp only [if_pos h2, if_neg h4]
      by_cases h3 : c.new.toList = []
      · cases hq : q_Col (kCol 0) c.col <;> by_cases hn : nameAt s c.name < 0 <;> simp [h3, hn]
      · have h3' := Ne.symm h3; simp [h3, h3']
    · simp only [if_neg h2]
      by_cases h3 : c.kind = 3
      · have h4 : c.kind ≠ 4 := by omega
        simp only [if_pos h3, if_neg h4]
        cases hq : q_Col (kCol 0) c.col <;> by_cases hn : nameAt s c.name < 0 <;> simp [hn]
      · simp only [if_neg h3]
        by_cases h4 : c.kind = 4
        · simp only [if_pos h4]
          by_cases h5 : c.new.toList = []
          · cases hq : q_Col (kCol c.col.kind) c.col <;> by_cases hn : nameAt s c.name < 0 <;> by_cases hk : c.col.kind = (s.getD (nameAt s c.name).toNat (kCol 0)).kind <;> simp [h5, hn, hk]
          · have h5' := Ne.symm h5; simp [h5, h5']
        · simp [h4]
def sdo (s : List Col) (c : Change) : List Col × Bool := if shapeOk s = true then shDo s c else ([], false)
theorem c_l2Do (s : List Col) (c : Change) (hl : s.length ≤ 1900000) (hs : mdCols s) (hc : c.md) : CallsV Tryz.prog 182 [colsI s, .agg (encChange c)] [] (funQ (.one (.own 0 0 ((chDo s c).getD []).length)) [] [.arr 39 7 (((chDo s c).getD []).map encCol)]) := by
  rw [ch_eq]
  obtain ⟨kd, nm, nw, ⟨cn, ck, c1, c2, ⟨d1, d2, d3⟩⟩⟩ := c
  simp only
  have cA := c_l2At s nm (by unfold maxLen; omega)
  have cR := c_l2Rest ⟨kd, nm, nw, ⟨cn, ck, c1, c2, ⟨d1, d2, d3⟩⟩⟩
  simp only at cR
  obtain ⟨hc1, hc2, hc3⟩ := hc
  simp only at hc1 hc2 hc3
  refine funF_walk hTb Tryz.func182 rfl rfl Tryz.ntmps182 (by simp) (by simp) ?_
  by_cases k1 : kd = 1
  · subst k1
    rw [if_pos rfl]
    cases c1 <;> (conv => whnf); repeat' ((first | (refine And.intro ?_ ?_ <;> ((try intro h) <;> (try simp only [gS] at h) <;> first | exact absurd h gF | exact absurd h.symm gF | conv => whnf)) | (refine VL.drawS hTb hMix (by kernel_rfl) (by kernel_rfl) (by kernel_rfl) ?_) | (refine Need.mk ?_; kernel_rfl) | (refine VR.pure hTb rfl rfl (o_purN (cA) rfl rfl rfl gQ rfl) ?_) | (refine VR.opk hTb rfl rfl (o_app0 (f := encCol) (m := s) (q := 113) hTb rfl rfl rfl rfl rfl rfl rfl rfl rfl rfl (by omega) (by show _ * 64 ≤ _; omega) (by unfold maxLen; omega)) ?_) | (refine VR.opk hTb rfl rfl (o_app1 (q := 145) (a := ⟨_, _, _, _, ⟨_, _, _⟩⟩) hTb rfl rfl rfl rfl rfl rfl rfl rfl rfl rfl rfl rfl (by omega) (by show _ * 64 ≤ _; omega) (by unfold maxLen; omega)) ?_)) <;> conv => whnf)
    all_goals clear cA cR
    all_goals first
      | (rw [if_pos (by simp_all)]; exact endW [145] rfl rfl rfl rfl rfl (LeS.of_eq (congrArg (fun n => Slot.one (.own 0 0 n)) (by simp))) rfl rfl)
      | (rw [if_neg (by simp_all)]; exact endW [161] rfl rfl rfl rfl rfl (LeS.refl _) rfl rfl)
      | (exfalso; simp_all; done)
  rw [if_neg k1]
  rcases nameAt_spec s nm with ⟨hn, _⟩ | ⟨j, hj, hn, _⟩
  · rw [hn] at cA ⊢
    rw [if_pos (.inl (by omega))]
    (conv => whnf); repeat' ((first | (refine And.intro ?_ ?_ <;> ((try intro h) <;> (try simp only [gS] at h) <;> first | exact absurd h gF | exact absurd h.symm gF | conv => whnf)) | (refine VL.drawS hTb hMix (by kernel_rfl) (by kernel_rfl) (by kernel_rfl) ?_) | (refine Need.mk ?_; kernel_rfl) | (refine VR.pure hTb rfl rfl (o_purN (cA) rfl rfl rfl gQ rfl) ?_) | (refine VR.opk hTb rfl rfl (o_app0 (f := encCol) (m := s) (q := 113) hTb rfl rfl rfl rfl rfl rfl rfl rfl rfl rfl (by omega) (by show _ * 64 ≤ _; omega) (by unfold maxLen; omega)) ?_) | (refine VR.opk hTb rfl rfl (o_app1 (q := 145) (a := ⟨_, _, _, _, ⟨_, _, _⟩⟩) hTb rfl rfl rfl rfl rfl rfl rfl rfl rfl rfl rfl rfl (by omega) (by show _ * 64 ≤ _; omega) (by unfold maxLen; omega)) ?_) | (refine DT.pure hTb rfl (o_purN (cR) rfl rfl rfl gQ rfl) ?_)) <;> conv => whnf)
    all_goals clear cA cR
    all_goals first
      | exact endW [161] rfl rfl rfl rfl rfl (LeS.refl _) rfl rfl
      | (exfalso; simp_all; done)
  rw [hn] at cA ⊢
  rw [Int.toNat_natCast]
  have eg : s.getD j (kCol 0) = s[j] := by simp [List.getD, hj]
  rw [eg]
  have hmj : s[j].md := hs _ (List.getElem_mem hj)
  have hrow : s[0 + ((j : Nat) : Int).toNat]? = some s[j] := by rw [Int.toNat_natCast, Nat.zero_add, List.getElem?_eq_getElem hj]
  have hrowI : (s.map encCol)[((j : Nat) : Int).toNat]? = some (encCol s[j]) := row_at hj
  have hset : ∀ v : Col, s.set j v = s.set (0 + ((j : Nat) : Int).toNat) v := fun v => by rw [Int.toNat_natCast, Nat.zero_add]
  obtain ⟨b, hb⟩ : ∃ b, q_Col ⟨cn, ck, c1, c2, ⟨d1, d2, d3⟩⟩ (kCol (if kd = 4 then ck else 0)) = b := ⟨_, rfl⟩
  rw [hb]
  cases b
  · rw [if_pos (.inr rfl)]
    by_cases k4 : kd = 4
    · subst k4
      (conv => whnf); repeat' ((first | (exact absurd (hb.symm.trans (notf h)) (by decide)) | (refine And.intro ?_ ?_ <;> ((try intro h) <;> (try simp only [gS] at h) <;> first | exact absurd h gF | exact absurd h.symm gF | conv => whnf)) | (refine VL.drawS hTb hMix (by kernel_rfl) (by kernel_rfl) (by kernel_rfl) ?_) | (refine Need.mk ?_; kernel_rfl) | ((exfalso; omega)) | (refine VR.pure hTb rfl rfl (o_purN (cA) rfl rfl rfl gQ rfl) ?_) | (refine VR.opk hTb rfl rfl (o_app0 (f := encCol) (m := s) (q := 113) hTb rfl rfl rfl rfl rfl rfl rfl rfl rfl rfl (by omega) (by show _ * 64 ≤ _; omega) (by unfold maxLen; omega)) ?_) | (refine DT.pure hTb rfl (o_purN (cR) rfl rfl rfl gQ rfl) ?_)) <;> conv => whnf)
      all_goals first
        | exact endW [161] rfl rfl rfl rfl rfl (LeS.refl _) rfl rfl
    · rw [if_neg k4] at hb cR
      (conv => whnf); repeat' ((first | (exact absurd (beq_iff_eq.1 h) k1) | (exact absurd (hb.symm.trans (notf h)) (by decide)) | (refine And.intro ?_ ?_ <;> ((try intro h) <;> (try simp only [gS] at h) <;> first | exact absurd h gF | exact absurd h.symm gF | conv => whnf)) | (refine VL.drawS hTb hMix (by kernel_rfl) (by kernel_rfl) (by kernel_rfl) ?_) | (refine Need.mk ?_; kernel_rfl) | ((exfalso; omega)) | (refine VR.pure hTb rfl rfl (o_purN (cA) rfl rfl rfl gQ rfl) ?_) | (refine VR.opk hTb rfl rfl (o_app0 (f := encCol) (m := s) (q := 113) hTb rfl rfl rfl rfl rfl rfl rfl rfl rfl rfl (by omega) (by show _ * 64 ≤ _; omega) (by unfold maxLen; omega)) ?_) | (refine DT.pure hTb rfl (o_purN (cR) rfl rfl rfl gQ rfl) ?_)) <;> conv => whnf)
      all_goals first
        | exact endW [161] rfl rfl rfl rfl rfl (LeS.refl _) rfl rfl
  rw [if_neg (fun h => by rcases h with h | h; omega; cases h)]
  by_cases k2 : kd = 2
  · subst k2
    rw [if_pos rfl]
    rw [if_neg (by omega)] at hb cR
    have cD := c_l2Cut s j hj (by omega)
    have el : (s.eraseIdx j).length = s.length - 1 := by rw [List.length_eraseIdx, if_pos hj]
    by_cases hw : nw.toList = (⟨#[]⟩ : ByteArray).toList
    · rw [if_pos hw]
      (conv => whnf); repeat' ((first | (exact absurd hw (by simpa using h)) | (exact absurd (hb.symm.trans (nott h)) (by decide)) | (refine And.intro ?_ ?_ <;> ((try intro h) <;> (try simp only [gS] at h) <;> first | exact absurd h gF | exact absurd h.symm gF | conv => whnf)) | (refine VL.drawS hTb hMix (by kernel_rfl) (by kernel_rfl) (by kernel_rfl) ?_) | (refine Need.mk ?_; kernel_rfl) | ((exfalso; omega)) | (refine VR.pure hTb rfl rfl (o_purN (cA) rfl rfl rfl gQ rfl) ?_) | (refine VR.opk hTb rfl rfl (o_app0 (f := encCol) (m := s) (q := 113) hTb rfl rfl rfl rfl rfl rfl rfl rfl rfl rfl (by omega) (by show _ * 64 ≤ _; omega) (by unfold maxLen; omega)) ?_) | (refine DT.pure hTb rfl (o_purN (cR) rfl rfl rfl gQ rfl) ?_) | (refine VR.fun hTb rfl rfl (o_funN (cD) false [] gN (by simp) rfl rfl rfl rfl rfl gQ rfl rfl) ?_)) <;> conv => whnf)
      all_goals first
        | exact endW [1292] rfl rfl rfl rfl rfl (LeS.of_eq (congrArg (fun n => Slot.one (.own 0 0 n)) el.symm)) rfl rfl
    · rw [if_neg hw]
      (conv => whnf); repeat' ((first | (exact absurd (by simpa using h) hw) | (exact absurd (hb.symm.trans (nott h)) (by decide)) | (refine And.intro ?_ ?_ <;> ((try intro h) <;> (try simp only [gS] at h) <;> first | exact absurd h gF | exact absurd h.symm gF | conv => whnf)) | (refine VL.drawS hTb hMix (by kernel_rfl) (by kernel_rfl) (by kernel_rfl) ?_) | (refine Need.mk ?_; kernel_rfl) | ((exfalso; omega)) | (refine VR.pure hTb rfl rfl (o_purN (cA) rfl rfl rfl gQ rfl) ?_) | (refine VR.opk hTb rfl rfl (o_app0 (f := encCol) (m := s) (q := 113) hTb rfl rfl rfl rfl rfl rfl rfl rfl rfl rfl (by omega) (by show _ * 64 ≤ _; omega) (by unfold maxLen; omega)) ?_) | (refine DT.pure hTb rfl (o_purN (cR) rfl rfl rfl gQ rfl) ?_)) <;> conv => whnf)
      all_goals first
        | exact endW [226] rfl rfl rfl rfl rfl (LeS.refl _) rfl rfl
  rw [if_neg k2]
  by_cases k3 : kd = 3
  · subst k3
    rw [if_pos rfl, hset]
    rw [if_neg (by omega)] at hb cR
    generalize s[j] = sj at hrow hmj
    obtain ⟨x1, x2, x3, x4, ⟨x5, x6, x7⟩⟩ := sj
    simp only [ccName]
    (conv => whnf); repeat' ((first | (exact absurd (hb.symm.trans (nott h)) (by decide)) | (refine And.intro ?_ ?_ <;> ((try intro h) <;> (try simp only [gS] at h) <;> first | exact absurd h gF | exact absurd h.symm gF | conv => whnf)) | (refine VL.drawS hTb hMix (by kernel_rfl) (by kernel_rfl) (by kernel_rfl) ?_) | (refine Need.mk ?_; kernel_rfl) | ((exfalso; omega)) | (refine VR.pure hTb rfl rfl (o_purN (cA) rfl rfl rfl gQ rfl) ?_) | (refine VR.opk hTb rfl rfl (o_app0 (f := encCol) (m := s) (q := 113) hTb rfl rfl rfl rfl rfl rfl rfl rfl rfl rfl (by omega) (by show _ * 64 ≤ _; omega) (by unfold maxLen; omega)) ?_) | (refine DT.pure hTb rfl (o_purN (cR) rfl rfl rfl gQ rfl) ?_) | (refine Need.mk ?_; exact ⟨rfl, by omega, by omega⟩) | (refine VR.op hTb rfl rfl (o_storeM hTb rfl rfl rfl rfl rfl (hrow) rfl rfl rfl ⟨rfl, by decide⟩ (c' := ⟨_, _, _, _, ⟨_, _, _⟩⟩) rfl) rfl ?_)) <;> conv => whnf)
    all_goals first
      | exact endW [113] rfl rfl rfl rfl rfl (LeS.of_eq (congrArg (fun n => Slot.one (.own 0 0 n)) (by simp))) rfl rfl
  rw [if_neg k3]
  by_cases k4 : kd = 4
  · subst k4
    rw [if_pos rfl] at hb cR
    rw [if_pos rfl]
    generalize s[j] = sj at hrow hrowI hmj
    obtain ⟨x1, x2, x3, x4, ⟨x5, x6, x7⟩⟩ := sj
    have cV := c_specValAs x5 x6 x7 ck (by have := hmj.2; simp only at this; unfold maxLen; omega)
    obtain ⟨⟨y1, y2, y3⟩, hy⟩ : ∃ y, valAs ⟨x5, x6, x7⟩ ck = y := ⟨_, rfl⟩
    rw [hy] at cV
    by_cases hw : nw.toList = (⟨#[]⟩ : ByteArray).toList ∧ ck ≠ x2
    · rw [if_pos hw, hset]
      simp only [ccKind, hy]
      have hrow2 : (s.set (0 + ((j : Nat) : Int).toNat) ⟨x1, ck, x3, x4, ⟨x5, x6, x7⟩⟩)[0 + ((j : Nat) : Int).toNat]? = some ⟨x1, ck, x3, x4, ⟨x5, x6, x7⟩⟩ := by rw [Int.toNat_natCast, Nat.zero_add, List.getElem?_set_self hj]
      have e2 : s.set (0 + ((j : Nat) : Int).toNat) ⟨x1, ck, x3, x4, ⟨y1, y2, y3⟩⟩ = (s.set (0 + ((j : Nat) : Int).toNat) ⟨x1, ck, x3, x4, ⟨x5, x6, x7⟩⟩).set (0 + ((j : Nat) : Int).toNat) ⟨x1, ck, x3, x4, ⟨y1, y2, y3⟩⟩ := by rw [List.set_set]
      rw [e2]
      (conv => whnf); repeat' ((first | (exact absurd hw.1 (by simpa using h)) | (exact absurd (by simpa using h) hw.2) | (exact absurd (hb.symm.trans (nott h)) (by decide)) | (refine And.intro ?_ ?_ <;> ((try intro h) <;> (try simp only [gS] at h) <;> first | exact absurd h gF | exact absurd h.symm gF | conv => whnf)) | (refine VL.drawS hTb hMix (by kernel_rfl) (by kernel_rfl) (by kernel_rfl) ?_) | (refine Need.mk ?_; kernel_rfl) | ((exfalso; omega)) | (refine VR.pure hTb rfl rfl (o_purN (cA) rfl rfl rfl gQ rfl) ?_) | (refine VR.opk hTb rfl rfl (o_app0 (f := encCol) (m := s) (q := 113) hTb rfl rfl rfl rfl rfl rfl rfl rfl rfl rfl (by omega) (by show _ * 64 ≤ _; omega) (by unfold maxLen; omega)) ?_) | (refine DT.pure hTb rfl (o_purN (cR) rfl rfl rfl gQ rfl) ?_) | (refine DT.op hTb rfl (o_index_imm hTb rfl rfl rfl rfl rfl rfl rfl (by omega) (hrowI)) rfl ?_) | (refine Need.mk ?_; exact ⟨rfl, by omega, by omega⟩) | (refine VR.op hTb rfl rfl (o_storeM hTb rfl rfl rfl rfl rfl (hrow) rfl rfl rfl ⟨rfl, by decide⟩ (c' := ⟨_, _, _, _, ⟨_, _, _⟩⟩) rfl) rfl ?_) | (refine DT.pure hTb rfl (o_purN (cV) rfl rfl rfl gQ rfl) ?_) | (refine DT.op hTb rfl (o_storeM hTb rfl rfl rfl rfl rfl (hrow2) rfl rfl rfl ⟨rfl, by decide⟩ (c' := ⟨_, _, _, _, ⟨_, _, _⟩⟩) rfl) rfl ?_)) <;> conv => whnf)
      all_goals first
        | exact endW [113] rfl rfl rfl rfl rfl (LeS.of_eq (congrArg (fun n => Slot.one (.own 0 0 n)) (by simp))) rfl rfl
    · rw [if_neg hw]
      (conv => whnf); repeat' ((first | (exact absurd (hb.symm.trans (nott h)) (by decide)) | (refine And.intro ?_ ?_ <;> ((try intro h) <;> (try simp only [gS] at h) <;> first | exact absurd h gF | exact absurd h.symm gF | conv => whnf)) | (refine VL.drawS hTb hMix (by kernel_rfl) (by kernel_rfl) (by kernel_rfl) ?_) | (refine Need.mk ?_; kernel_rfl) | ((exfalso; omega)) | (refine VR.pure hTb rfl rfl (o_purN (cA) rfl rfl rfl gQ rfl) ?_) | (refine VR.opk hTb rfl rfl (o_app0 (f := encCol) (m := s) (q := 113) hTb rfl rfl rfl rfl rfl rfl rfl rfl rfl rfl (by omega) (by show _ * 64 ≤ _; omega) (by unfold maxLen; omega)) ?_) | (refine DT.pure hTb rfl (o_purN (cR) rfl rfl rfl gQ rfl) ?_) | (refine DT.op hTb rfl (o_index_imm hTb rfl rfl rfl rfl rfl rfl rfl (by omega) (hrowI)) rfl ?_) | (refine Need.mk ?_; exact ⟨rfl, by omega, by omega⟩) | (refine VR.op hTb rfl rfl (o_storeM hTb rfl rfl rfl rfl rfl (hrow) rfl rfl rfl ⟨rfl, by decide⟩ (c' := ⟨_, _, _, _, ⟨_, _, _⟩⟩) rfl) rfl ?_) | (refine DT.pure hTb rfl (o_purN (cV) rfl rfl rfl gQ rfl) ?_)) <;> conv => whnf)
      all_goals first
        | exact endW [226] rfl rfl rfl rfl rfl (LeS.refl _) rfl rfl
        | (exfalso; clear cA cR cV; simp_all; done)
  rw [if_neg k4]
  rw [if_neg k4] at hb cR
  (conv => whnf); repeat' ((first | (exact absurd (beq_iff_eq.1 h) k1) | (exact absurd (beq_iff_eq.1 h) k2) | (exact absurd (beq_iff_eq.1 h) k3) | (exact absurd (beq_iff_eq.1 h) k4) | (exact absurd (hb.symm.trans (nott h)) (by decide)) | (refine And.intro ?_ ?_ <;> ((try intro h) <;> (try simp only [gS] at h) <;> first | exact absurd h gF | exact absurd h.symm gF | conv => whnf)) | (refine VL.drawS hTb hMix (by kernel_rfl) (by kernel_rfl) (by kernel_rfl) ?_) | (refine Need.mk ?_; kernel_rfl) | ((exfalso; omega)) | (refine VR.pure hTb rfl rfl (o_purN (cA) rfl rfl rfl gQ rfl) ?_) | (refine VR.opk hTb rfl rfl (o_app0 (f := encCol) (m := s) (q := 113) hTb rfl rfl rfl rfl rfl rfl rfl rfl rfl rfl (by omega) (by show _ * 64 ≤ _; omega) (by unfold maxLen; omega)) ?_) | (refine DT.pure hTb rfl (o_purN (cR) rfl rfl rfl gQ rfl) ?_)) <;> conv => whnf)
  all_goals first
    | exact endW [226] rfl rfl rfl rfl rfl (LeS.refl _) rfl rfl
theorem shapeOk_nil : shapeOk [] = false := by
  cases e : shapeOk [] with
  | false => rfl
  | true => have := shapeOk_len e; simp at this
theorem chDo_len {s : List Col} {c : Change} {L : List Col} (h : chDo s c = some L) : L.length ≤ s.length + 1 := by
  unfold chDo at h
  split at h; cases h
  split at h
  · split at h; cases h; cases h; simp
  split at h; cases h
  split at h
  · cases h; have := List.length_eraseIdx_le s (nameAt s c.name).toNat; omega
  split at h
  · cases h; simp
  split at h; cases h; cases h; simp
theorem chDo_md {s : List Col} {c : Change} {L : List Col} (hs : mdCols s) (hc : c.md) (h : chDo s c = some L) : mdCols L := by
  obtain ⟨h1, h2, h3⟩ := hc
  unfold chDo at h
  split at h; cases h
  split at h
  · split at h; cases h; cases h; exact hs.app h3
  split at h; cases h
  rename_i hn
  have hj : (nameAt s c.name).toNat < s.length := by
    rcases nameAt_spec s c.name with ⟨h4, _⟩ | ⟨j, hj, h4, _⟩ <;> omega
  split at h
  · cases h; exact hs.erase
  split at h
  · cases h; exact hs.set ⟨h2, (md_getD hs hj).2⟩
  split at h; cases h; cases h
  exact hs.set ⟨(md_getD hs hj).1, by have := valAs_size (s.getD (nameAt s c.name).toNat (kCol 0)).d c.col.kind; show (valAs _ _).t.size ≤ _; omega⟩
theorem okO_md {s : List Col} {o : Option (List Col)} (hs : mdCols s) (h : ∀ L, o = some L → mdCols L) : mdCols (okO s o).1 := by
  unfold okO
  cases o with
  | none => exact hs
  | some L => simp only; split; exact h L rfl; exact hs
theorem shDo_md {s : List Col} {c : Change} (hs : mdCols s) (hc : c.md) : mdCols (shDo s c).1 := okO_md hs fun _ h => chDo_md hs hc h
theorem okO_len {s : List Col} {o : Option (List Col)} (h : ∀ L, o = some L → L.length ≤ s.length + 1) : (okO s o).1.length ≤ s.length + 1 := by
  unfold okO
  cases o with
  | none => simp
  | some L => simp only; split; exact h L rfl; simp
theorem shDo_len {s : List Col} {c : Change} : (shDo s c).1.length ≤ s.length + 1 := okO_len fun _ h => chDo_len h
theorem shDo_ok {s : List Col} {c : Change} (h : (shDo s c).2 = true) : shapeOk (shDo s c).1 = true ∧ ∃ L, chDo s c = some L ∧ (shDo s c).1 = L := by
  unfold shDo okO at h ⊢
  cases e : chDo s c with
  | none => rw [e] at h; cases h
  | some L =>
    rw [e] at h
    simp only at h ⊢
    split at h
    · rename_i h1; rw [if_pos h1]; exact ⟨h1, L, rfl, rfl⟩
    · cases h
theorem c_specShapeDo (s : List Col) (c : Change) (hl : s.length ≤ 1900000) (hs : mdCols s) (hc : c.md) : CallsV Tryz.prog 126 [colsI s, .agg (encChange c)] [] (funQ (shS (sdo s c)) [] (shN (sdo s c))) := by
  have c1 := c_specShapeOk s (by unfold maxLen; omega) hs.ok
  have c2 := c_l2Do s c hl hs hc
  have hlen := @chDo_len s c
  have hmd := fun L => @chDo_md s c L hs hc
  obtain ⟨kd, nm, nw, ⟨cn, ck, k1, k2, ⟨d1, d2, d3⟩⟩⟩ := c
  unfold sdo shDo
  obtain ⟨b, hb⟩ : ∃ b, shapeOk s = b := ⟨_, rfl⟩
  rw [hb] at c1 ⊢
  refine funF_walk hTb Tryz.func126 rfl rfl Tryz.ntmps126 (by simp) (by simp) ?_
  cases b
  · rw [if_neg (by simp)]
    (conv => whnf); repeat' ((first | (refine And.intro ?_ ?_ <;> ((try intro h) <;> (try simp only [gS] at h) <;> first | exact absurd h gF | exact absurd h.symm gF | conv => whnf)) | (refine VR.pure hTb rfl rfl (o_purN (c1) rfl rfl rfl gQ rfl) ?_)) <;> conv => whnf)
    exact endW [110] rfl rfl rfl rfl rfl (LeS.refl _) rfl rfl
  · rw [if_pos rfl]
    generalize chDo s ⟨kd, nm, nw, ⟨cn, ck, k1, k2, ⟨d1, d2, d3⟩⟩⟩ = D at c2 hlen hmd
    have hD : (D.getD []).length ≤ 2000000 ∧ mdCols (D.getD []) := by
      cases D with
      | none => exact ⟨by simp, fun x hx => by cases hx⟩
      | some L => exact ⟨by have := hlen rfl; show L.length ≤ _; omega, hmd L rfl⟩
    have c3 := c_specShapeOk (D.getD []) (by unfold maxLen; omega) hD.2.ok
    have hok : okO s D = if shapeOk (D.getD []) = true then (D.getD [], true) else (s, false) := by
      cases D with
      | none => simp only [okO, Option.getD_none, shapeOk_nil]; rfl
      | some L => rfl
    rw [hok]
    clear hok
    generalize D.getD [] = L at c2 c3 hD
    obtain ⟨x, hx⟩ : ∃ x, shapeOk L = x := ⟨_, rfl⟩
    rw [hx] at c3 ⊢
    cases x <;> (conv => whnf); repeat' ((first | (refine And.intro ?_ ?_ <;> ((try intro h) <;> (try simp only [gS] at h) <;> first | exact absurd h gF | exact absurd h.symm gF | conv => whnf)) | (refine VR.pure hTb rfl rfl (o_purN (c1) rfl rfl rfl gQ rfl) ?_) | (refine VR.fun hTb rfl rfl (o_funN (c2) false [] gN (by simp) rfl rfl rfl rfl rfl gQ rfl rfl) ?_) | (refine VR.pure hTb rfl rfl (o_purN c3 rfl rfl rfl gQ ?_) ?_; exact congrArg (fun s => [s]) brw) | (refine VR.opk hTb rfl rfl (o_app0 (f := encCol) (m := s) (q := 119) hTb rfl rfl rfl rfl rfl rfl rfl rfl rfl rfl (by omega) (by show _ * 64 ≤ _; omega) (by unfold maxLen; omega)) ?_)) <;> conv => whnf)
    · rw [if_neg (by simp)]
      exact endW [119] rfl rfl rfl rfl rfl (LeS.refl _) rfl rfl
    · rw [if_pos rfl]
      exact endW [1052] rfl rfl rfl rfl rfl (LeS.refl _) rfl rfl
def Val.md (v : Val) : Prop := v.t.size ≤ 1048576
def mdVals (l : List Val) : Prop := ∀ x ∈ l, x.md
def rwCh (s : List Col) (c : Change) (row : List Val) : List Val :=
  if c.kind = 1 then row ++ [c.col.d]
  else if c.kind = 2 then row.eraseIdx (nameAt s c.name).toNat
  else if c.kind = 4 then row.set (nameAt s c.name).toNat (valAs (row.getD (nameAt s c.name).toNat ⟨0, 0, ⟨#[]⟩⟩) c.col.kind)
  else row
def chAt (s : List Col) (c : Change) (n : Nat) : Prop := (c.kind = 2 ∨ c.kind = 4) → ∃ j : Nat, j < n ∧ nameAt s c.name = (j : Int)
theorem grNewVal (n : Nat) (l : List Val) : GrS (.one (.own 0 0 n)) ∧ (∀ ob, some ob ∈ ([] : List (Option Ob)) → GrO ob) ∧ ∀ ob ∈ [Ob.arr 37 3 (l.map encVal)], GrO ob :=
  ⟨rfl, fun _ h => by simp at h, fun ob h => by simp at h; subst h; exact grVals l⟩
theorem brwEV {l : List Val} {k : Nat} (h : k < l.length) (z : Val) : Slot.one (.imm 3 ((((l.eraseIdx k ++ [z]).map encVal).drop 0).take (l.length - 1))) = valsI (l.eraseIdx k) := by
  have e : (l.eraseIdx k).length = l.length - 1 := by rw [List.length_eraseIdx, if_pos h]
  rw [List.drop_zero, List.map_append, List.take_left' (by rw [List.length_map, e])]; rfl
theorem c_changeRow (s : List Col) (c : Change) (row : List Val) (hl : s.length ≤ 1900000) (hr : row.length ≤ 1900000) (hs : mdCols s) (hrow : mdVals row) (hat : chAt s c row.length) :
    CallsV Tryz.prog 181 [colsI s, .agg (encChange c), valsI row] [] (funQ (.one (.own 0 0 (rwCh s c row).length)) [] [.arr 37 3 ((rwCh s c row).map encVal)]) := by
  obtain ⟨kd, nm, nw, ⟨cn, ck, c1, c2, ⟨d1, d2, d3⟩⟩⟩ := c
  have cA := c_colAt s nm (by unfold maxLen; omega)
  have c0 := c_cloneVal row (by omega)
  simp only [chAt] at hat
  unfold rwCh
  simp only
  refine funF_walk hTb Tryz.func181 rfl rfl Tryz.ntmps181 (by simp) (by simp) ?_
  by_cases k1 : kd = 1
  · subst k1
    rw [if_pos rfl]
    have cC := c_cloneVal (row ++ [⟨d1, d2, d3⟩]) (by simp; omega)
    (conv => whnf); repeat' ((first | (refine And.intro ?_ ?_ <;> ((try intro h) <;> (try simp only [gS] at h) <;> first | exact absurd h gF | exact absurd h.symm gF | conv => whnf)) | (refine VR.fun hTb rfl rfl (o_funN (c0) false [] gN (by simp) rfl rfl rfl rfl rfl gQ rfl rfl) ?_) | (refine VR.pure hTb rfl rfl (o_purN (cA) rfl rfl rfl gQ rfl) ?_) | (refine VR.opk hTb rfl rfl (o_app1 (q := 124) (a := ⟨_, _, _⟩) hTb rfl rfl rfl rfl rfl rfl rfl rfl rfl rfl rfl rfl (by omega) (by show _ * 32 ≤ _; omega) (by unfold maxLen; omega)) ?_) | (refine VR.fun hTb rfl rfl (o_funN (cC) true [] (fun _ => grNewVal _ _) (by simp) rfl rfl rfl rfl rfl gQ ?_ rfl) ?_; exact congrArg (fun s => [s]) (brwG (by simp)))) <;> conv => whnf)
    exact endW [1184] rfl rfl rfl rfl rfl (LeS.refl _) rfl rfl
  rw [if_neg k1]
  by_cases k2 : kd = 2
  · subst k2
    rw [if_pos rfl]
    obtain ⟨j, hj, hn⟩ := hat (.inl rfl)
    rw [hn] at cA ⊢
    rw [Int.toNat_natCast]
    have ew : IntKind.i64.wrap ((j : Int) + 1) = ((j + 1 : Nat) : Int) := by rw [IntKind.wrap_i64]; omega
    have cD := c_DeleteVal row j hj (by omega)
    have hlen := List.length_eraseIdx_le row j
    have cC := c_cloneVal (row.eraseIdx j) (by omega)
    (conv => whnf); repeat' ((first | (refine And.intro ?_ ?_ <;> ((try intro h) <;> (try simp only [gS] at h) <;> first | exact absurd h gF | exact absurd h.symm gF | conv => whnf)) | (refine VR.fun hTb rfl rfl (o_funN (c0) false [] gN (by simp) rfl rfl rfl rfl rfl gQ rfl rfl) ?_) | (refine VR.pure hTb rfl rfl (o_purN (cA) rfl rfl rfl gQ rfl) ?_) | (refine VR.fun hTb rfl rfl (o_funN cD false [1040] gN (by simp) rfl rfl rfl rfl rfl gQ ?_ rfl) ?_; exact congrArg (fun x => [Slot.one (.own 0 0 row.length), iS j, .one (.g (.int .i64 x))]) ew) | (refine VR.fun hTb rfl rfl (o_funN (cC) true [] (fun _ => grNewVal _ _) (by simp) rfl rfl rfl rfl rfl gQ ?_ rfl) ?_; exact congrArg (fun s => [s]) (brwEV hj _))) <;> conv => whnf)
    exact endW [1184] rfl rfl rfl rfl rfl (LeS.refl _) rfl rfl
  rw [if_neg k2]
  by_cases k4 : kd = 4
  · subst k4
    rw [if_pos rfl]
    obtain ⟨j, hj, hn⟩ := hat (.inr rfl)
    rw [hn] at cA ⊢
    rw [Int.toNat_natCast]
    have eg : row.getD j ⟨0, 0, ⟨#[]⟩⟩ = row[j] := by simp [List.getD, hj]
    rw [eg]
    have hmj : row[j].md := hrow _ (List.getElem_mem hj)
    have hrw : row[0 + ((j : Nat) : Int).toNat]? = some row[j] := by rw [Int.toNat_natCast, Nat.zero_add, List.getElem?_eq_getElem hj]
    have hset : ∀ v : Val, row.set j v = row.set (0 + ((j : Nat) : Int).toNat) v := fun v => by rw [Int.toNat_natCast, Nat.zero_add]
    generalize row[j] = vj at hrw hmj
    obtain ⟨x1, x2, x3⟩ := vj
    have cV := c_implValAs x1 x2 x3 ck (by have : x3.size ≤ 1048576 := hmj; omega)
    obtain ⟨⟨y1, y2, y3⟩, hy⟩ : ∃ y, valAs ⟨x1, x2, x3⟩ ck = y := ⟨_, rfl⟩
    rw [hy] at cV ⊢
    rw [hset]
    have cC := c_cloneVal (row.set (0 + ((j : Nat) : Int).toNat) ⟨y1, y2, y3⟩) (by simp; omega)
    (conv => whnf); repeat' ((first | (refine And.intro ?_ ?_ <;> ((try intro h) <;> (try simp only [gS] at h) <;> first | exact absurd h gF | exact absurd h.symm gF | conv => whnf)) | (refine VL.drawS hTb hMix (by kernel_rfl) (by kernel_rfl) (by kernel_rfl) ?_) | (refine Need.mk ?_; kernel_rfl) | (refine VR.fun hTb rfl rfl (o_funN (c0) false [] gN (by simp) rfl rfl rfl rfl rfl gQ rfl rfl) ?_) | (refine VR.pure hTb rfl rfl (o_purN (cA) rfl rfl rfl gQ rfl) ?_) | (refine Need.mk ?_; exact ⟨rfl, by omega, by omega⟩) | (refine DT.op hTb rfl (o_loadM hTb rfl rfl rfl rfl (hrw) ⟨by decide, by decide⟩) rfl ?_) | (refine DT.pure hTb rfl (o_purN (cV) rfl rfl rfl gQ rfl) ?_) | (refine DT.op hTb rfl (o_storeM hTb rfl rfl rfl rfl rfl (hrw) rfl rfl rfl ⟨rfl, by decide⟩ (c' := ⟨_, _, _⟩) rfl) rfl ?_) | (refine VR.fun hTb rfl rfl (o_funN (cC) true [] (fun _ => grNewVal _ _) (by simp) rfl rfl rfl rfl rfl gQ ?_ rfl) ?_; exact congrArg (fun s => [s]) (brwG (by simp)))) <;> conv => whnf)
    exact endW [1184] rfl rfl rfl rfl rfl (LeS.refl _) rfl rfl
  rw [if_neg k4]
  (conv => whnf); repeat' ((first | (exact absurd (beq_iff_eq.1 h) k1) | (exact absurd (beq_iff_eq.1 h) k2) | (exact absurd (beq_iff_eq.1 h) k4) | (refine And.intro ?_ ?_ <;> ((try intro h) <;> (try simp only [gS] at h) <;> first | exact absurd h gF | exact absurd h.symm gF | conv => whnf)) | (refine VR.fun hTb rfl rfl (o_funN (c0) false [] gN (by simp) rfl rfl rfl rfl rfl gQ rfl rfl) ?_) | (refine VR.pure hTb rfl rfl (o_purN (cA) rfl rfl rfl gQ rfl) ?_) | (refine VR.fun hTb rfl rfl (o_funN (c0) true [] (fun _ => grNewVal _ _) (by simp) rfl rfl rfl rfl rfl gQ ?_ rfl) ?_; exact congrArg (fun s => [s]) brw)) <;> conv => whnf)
  exact endW [1184] rfl rfl rfl rfl rfl (LeS.refl _) rfl rfl
theorem c_l2Row (s : List Col) (c : Change) (row : List Val) (hl : s.length ≤ 1900000) (hr : row.length ≤ 1900000) (hs : mdCols s) (hrow : mdVals row) (hat : chAt s c row.length) :
    CallsV Tryz.prog 184 [colsI s, .agg (encChange c), valsI row] [] (funQ (.one (.own 0 0 (rwCh s c row).length)) [] [.arr 37 3 ((rwCh s c row).map encVal)]) := by
  obtain ⟨kd, nm, nw, ⟨cn, ck, c1, c2, ⟨d1, d2, d3⟩⟩⟩ := c
  have cA := c_l2At s nm (by unfold maxLen; omega)
  simp only [chAt] at hat
  unfold rwCh
  simp only
  refine funF_walk hTb Tryz.func184 rfl rfl Tryz.ntmps184 (by simp) (by simp) ?_
  by_cases k1 : kd = 1
  · subst k1
    rw [if_pos rfl]
    (conv => whnf); repeat' ((first | (refine And.intro ?_ ?_ <;> ((try intro h) <;> (try simp only [gS] at h) <;> first | exact absurd h gF | exact absurd h.symm gF | conv => whnf)) | (refine VR.pure hTb rfl rfl (o_purN (cA) rfl rfl rfl gQ rfl) ?_) | (refine VR.opk hTb rfl rfl (o_app0 (f := encVal) (m := row) (q := 115) hTb rfl rfl rfl rfl rfl rfl rfl rfl rfl rfl (by omega) (by show _ * 32 ≤ _; omega) (by unfold maxLen; omega)) ?_) | (refine VR.opk hTb rfl rfl (o_app1 (q := 125) (a := ⟨_, _, _⟩) hTb rfl rfl rfl rfl rfl rfl rfl rfl rfl rfl rfl rfl (by omega) (by show _ * 32 ≤ _; omega) (by unfold maxLen; omega)) ?_)) <;> conv => whnf)
    exact endW [125] rfl rfl rfl rfl rfl (LeS.of_eq (congrArg (fun n => Slot.one (.own 0 0 n)) (by simp))) rfl rfl
  rw [if_neg k1]
  by_cases k2 : kd = 2
  · subst k2
    rw [if_pos rfl]
    obtain ⟨j, hj, hn⟩ := hat (.inl rfl)
    rw [hn] at cA ⊢
    rw [Int.toNat_natCast]
    have ew : IntKind.i64.wrap ((j : Int) + 1) = ((j + 1 : Nat) : Int) := by rw [IntKind.wrap_i64]; omega
    have e1 : (row.take j).length = j := by simp; omega
    have e2 : (row.drop (j + 1)).length = row.length - (j + 1) := by simp
    have el : (row.eraseIdx j).length = row.length - 1 := by rw [List.length_eraseIdx, if_pos hj]
    (conv => whnf); repeat' ((first | (refine And.intro ?_ ?_ <;> ((try intro h) <;> (try simp only [gS] at h) <;> first | exact absurd h gF | exact absurd h.symm gF | conv => whnf)) | (refine VL.drawS hTb hMix (by kernel_rfl) (by kernel_rfl) (by kernel_rfl) ?_) | (refine Need.mk ?_; kernel_rfl) | (refine VR.pure hTb rfl rfl (o_purN (cA) rfl rfl rfl gQ rfl) ?_) | (refine VR.opk hTb rfl rfl (o_app0 (f := encVal) (m := row) (q := 115) hTb rfl rfl rfl rfl rfl rfl rfl rfl rfl rfl (by omega) (by show _ * 32 ≤ _; omega) (by unfold maxLen; omega)) ?_) | (refine DT.op hTb rfl (o_slice_imm (n1 := 0) (n2 := j) (rows' := (row.take j).map encVal) hTb rfl rfl rfl rfl rfl rfl bnd_none (bnd_some rfl) (Nat.zero_le _) (by simp; omega) (by rw [List.drop_zero, Nat.sub_zero, List.map_take])) rfl ?_) | (refine DT.op hTb rfl (o_slice_imm (n1 := j + 1) (n2 := (row.map encVal).length) (rows' := (row.drop (j + 1)).map encVal) hTb rfl rfl rfl rfl rfl rfl (bnd_wr rfl ew) bnd_none (by simp; omega) (by simp) (by rw [← List.map_drop]; exact List.take_of_length_le (by simp))) rfl ?_) | (refine DT.opk hTb rfl (o_app0 (f := encVal) (m := (row.take j)) (q := 132) hTb rfl rfl rfl rfl rfl rfl rfl rfl rfl rfl (by omega) (by show _ * 32 ≤ _; omega) (by unfold maxLen; omega)) ?_) | (refine DT.opk hTb rfl (o_appN (f := encVal) (l := row.take j) (m := row.drop (j + 1)) (q := 137) hTb rfl rfl rfl rfl rfl rfl rfl rfl rfl rfl rfl (by omega) (by show _ * 32 ≤ _; omega) (by unfold maxLen; omega)) ?_)) <;> conv => whnf)
    exact endW [137] rfl rfl rfl rfl rfl (LeS.of_eq (congrArg (fun n => Slot.one (.own 0 0 n)) (by rw [e1, e2, el]; omega))) rfl (congrArg (fun r => [Ob.arr 37 3 r]) (by rw [List.eraseIdx_eq_take_drop_succ]))
  rw [if_neg k2]
  by_cases k4 : kd = 4
  · subst k4
    rw [if_pos rfl]
    obtain ⟨j, hj, hn⟩ := hat (.inr rfl)
    rw [hn] at cA ⊢
    rw [Int.toNat_natCast]
    have eg : row.getD j ⟨0, 0, ⟨#[]⟩⟩ = row[j] := by simp [List.getD, hj]
    rw [eg]
    have hmj : row[j].md := hrow _ (List.getElem_mem hj)
    have hrw : row[0 + ((j : Nat) : Int).toNat]? = some row[j] := by rw [Int.toNat_natCast, Nat.zero_add, List.getElem?_eq_getElem hj]
    have hrI : (row.map encVal)[((j : Nat) : Int).toNat]? = some (encVal row[j]) := by rw [Int.toNat_natCast, List.getElem?_map, List.getElem?_eq_getElem hj]; rfl
    have hset : ∀ v : Val, row.set j v = row.set (0 + ((j : Nat) : Int).toNat) v := fun v => by rw [Int.toNat_natCast, Nat.zero_add]
    generalize row[j] = vj at hrw hmj hrI
    obtain ⟨x1, x2, x3⟩ := vj
    have cV := c_specValAs x1 x2 x3 ck (by have : x3.size ≤ 1048576 := hmj; unfold maxLen; omega)
    obtain ⟨⟨y1, y2, y3⟩, hy⟩ : ∃ y, valAs ⟨x1, x2, x3⟩ ck = y := ⟨_, rfl⟩
    rw [hy] at cV ⊢
    rw [hset]
    (conv => whnf); repeat' ((first | (refine And.intro ?_ ?_ <;> ((try intro h) <;> (try simp only [gS] at h) <;> first | exact absurd h gF | exact absurd h.symm gF | conv => whnf)) | (refine VL.drawS hTb hMix (by kernel_rfl) (by kernel_rfl) (by kernel_rfl) ?_) | (refine Need.mk ?_; kernel_rfl) | (refine VR.pure hTb rfl rfl (o_purN (cA) rfl rfl rfl gQ rfl) ?_) | (refine VR.opk hTb rfl rfl (o_app0 (f := encVal) (m := row) (q := 115) hTb rfl rfl rfl rfl rfl rfl rfl rfl rfl rfl (by omega) (by show _ * 32 ≤ _; omega) (by unfold maxLen; omega)) ?_) | (refine DT.op hTb rfl (o_index_imm hTb rfl rfl rfl rfl rfl rfl rfl (by omega) (hrI)) rfl ?_) | (refine Need.mk ?_; exact ⟨rfl, by omega, by omega⟩) | (refine DT.pure hTb rfl (o_purN (cV) rfl rfl rfl gQ rfl) ?_) | (refine DT.op hTb rfl (o_storeM hTb rfl rfl rfl rfl rfl (hrw) rfl rfl rfl ⟨rfl, by decide⟩ (c' := ⟨_, _, _⟩) rfl) rfl ?_)) <;> conv => whnf)
    exact endW [115] rfl rfl rfl rfl rfl (LeS.of_eq (congrArg (fun n => Slot.one (.own 0 0 n)) (by simp))) rfl rfl
  rw [if_neg k4]
  (conv => whnf); repeat' ((first | (exact absurd (beq_iff_eq.1 h) k1) | (exact absurd (beq_iff_eq.1 h) k2) | (exact absurd (beq_iff_eq.1 h) k4) | (refine And.intro ?_ ?_ <;> ((try intro h) <;> (try simp only [gS] at h) <;> first | exact absurd h gF | exact absurd h.symm gF | conv => whnf)) | (refine VR.pure hTb rfl rfl (o_purN (cA) rfl rfl rfl gQ rfl) ?_) | (refine VR.opk hTb rfl rfl (o_app0 (f := encVal) (m := row) (q := 115) hTb rfl rfl rfl rfl rfl rfl rfl rfl rfl rfl (by omega) (by show _ * 32 ≤ _; omega) (by unfold maxLen; omega)) ?_)) <;> conv => whnf)
  exact endW [115] rfl rfl rfl rfl rfl (LeS.refl _) rfl rfl
end Go.Vl
